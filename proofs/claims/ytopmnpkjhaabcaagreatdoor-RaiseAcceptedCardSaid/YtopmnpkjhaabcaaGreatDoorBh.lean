/- taskmasterlaw17.may, known walked. -/
import Derived.Test.YtopmnpkjhaabcaaGreatDoorAo
import Derived.Test.YtopmnpkjhaabcaaGreatDoorBj
import Derived.Test.YtopmnpkjhaabcaaGreatDoorBg
set_option linter.unusedVariables false
set_option linter.unusedSimpArgs false
namespace Go.Proofs.YtopmnpkjhaabcaaGreatDoor
open Go.RowKit

set_option maxRecDepth 100000 in
set_option maxHeartbeats 2000000 in
theorem may17_any (reload : Int) (vs : Value) (ts : List Task) (w : World) (hv : RdT w vs ts) (hn : ∀ t ∈ ts, t.name.size ≤ 140737488351232) :
    Calls Tryz.prog 6 #[.agg #[.int .i64 reload, vs]] w fun e w' => e = .returned (.bool (mayB reload ts)) ∧ Below w.heap.size w w' := by
  have HRA := Lib.hid (fun W (h : Below w.heap.size w W) => rall_any reload vs ts W (hv.kept CTask.mono h) hn)
  obtain ⟨A, c, rfl, hle, hat⟩ := hv.at
  have HAT := Lib.hid hat
  clear hat hv hn
  by_cases h1 : ts.length ≤ 10
  · cases h2 : refAllB reload ts
    · have HA := Lib.hid h2
      have HF : Hid (mayB reload ts = false) := Lib.hid (by simp [mayB, h2])
      clear h2
      go_enter Tryz.func6, Tryz.ntmps6
      go_wp2_with (go_at_call 14; refine (HRA.out _ (by repeat (first | exact Below.refl _ _ | refine Below.drew ?_ | refine Below.alloc ?_ (by simp <;> omega) _))).mono ?_; rintro e w1 ⟨rfl, hb1⟩; rw [HA.out]; have HB1 := Lib.hid (below_tr (Below.alloc (Below.refl w.heap.size w) (Nat.le_refl _) _) hb1); clear hb1)
      go_ret
      exact ⟨ret_bool (by rw [HF.out]), HB1.out⟩
    · have HA := Lib.hid h2
      have HR : Hid (mayB reload ts = (List.range ts.length).all (mayK ts)) := Lib.hid (by simp [mayB, h1, h2])
      clear h2
      go_enter Tryz.func6, Tryz.ntmps6
      go_wp2_with (go_at_call 14; refine (HRA.out _ (by repeat (first | exact Below.refl _ _ | refine Below.drew ?_ | refine Below.alloc ?_ (by simp <;> omega) _))).mono ?_; rintro e w1 ⟨rfl, hb1⟩; rw [HA.out]; have HS : Hid (SetC reload (.slice A ts.length c) w w1) := Lib.hid (SetC.kept ⟨Blk.newAt rfl, (by repeat (first | exact Below.refl _ _ | refine Below.drew ?_ | refine Below.alloc ?_ (by simp <;> omega) _))⟩ hb1); clear hb1; have b1 := HS.out.1.cell 1 rfl)
      go_loop [3] (fun i => ∃ k : Nat, k ≤ ts.length ∧ i = .int .i64 k ∧ Hid (∀ j, j < k → mayK ts j = true)) (fun i => ts.length - (intOf i).toNat)
      case atStart => exact ⟨0, Nat.zero_le _, rfl, Lib.hid (fun j hj => by omega)⟩
      case round =>
        obtain ⟨k, hk, rfl, HALL⟩ := hrel
        by_cases hlt : k < ts.length
        · obtain ⟨b, o, vr, rfl, -, hcell⟩ := HAT.out k hlt
          have hcell2 := fun j u hu => cell_kept HS.out.2 (hcell j u hu)
          obtain ⟨c0, c1, c2, c3, c4, c5, c6, c7, c8⟩ := task_cells hcell2
          clear hcell hcell2
          by_cases h3 : 3 ≤ (gT ts k).T
          · by_cases h4 : (gT ts k).D ≤ 300
            · have d4 : decide (300 < (gT ts k).D) = false := by simp; omega
              have d3 : decide ((gT ts k).T < 3) = false := by simp; omega
              have HALL2 : Hid (∀ j, j < k + 1 → mayK ts j = true) := Lib.hid (fun j hj => by
                by_cases h : j = k
                · subst h; simp [mayK, h3, h4]
                · exact HALL.out j (by omega))
              go_wp2
              go_round
              case rel => exact ⟨k + 1, hlt, by go_num, HALL2⟩
              case measure => simp [intOf]; omega
            · have d4 : decide (300 < (gT ts k).D) = true := by simp; omega
              have d3 : decide ((gT ts k).T < 3) = false := by simp; omega
              have HF : Hid (mayB reload ts = false) := Lib.hid (mayB_no hlt (by simp [mayK, h4]))
              go_wp2
              go_ret
              exact ⟨ret_bool (by rw [HF.out]), HS.out.2⟩
          · have d3 : decide ((gT ts k).T < 3) = true := by simp; omega
            have HF : Hid (mayB reload ts = false) := Lib.hid (mayB_no hlt (by simp [mayK, h3]))
            go_wp2
            go_ret
            exact ⟨ret_bool (by rw [HF.out]), HS.out.2⟩
        · obtain rfl : k = ts.length := by omega
          have HF : Hid (mayB reload ts = true) := Lib.hid (by
            rw [HR.out, List.all_eq_true]
            intro j hj
            exact HALL.out j (List.mem_range.1 hj))
          go_wp2
          go_ret
          exact ⟨ret_bool (by rw [HF.out]), HS.out.2⟩
  · have HF : Hid (mayB reload ts = false) := Lib.hid (by simp [mayB, h1])
    go_enter Tryz.func6, Tryz.ntmps6
    go_wp2
    go_ret
    exact ⟨ret_bool (by rw [HF.out]), (by repeat (first | exact Below.refl _ _ | refine Below.drew ?_ | refine Below.alloc ?_ (by simp <;> omega) _))⟩
theorem one_raise : raiseF 0 [oneTask] = some [0] := by decide +kernel
theorem one_raisePut : raisePutF 0 [oneTask] = some [{ oneTask with mode := 2, Q := 0, theta := 0 }] := by
  unfold raisePutF
  have h : (tolAllF 0 [oneTask]).isSome = true := by decide +kernel
  obtain ⟨bear, hb⟩ := Option.isSome_iff_exists.1 h
  rw [hb]
  rfl
theorem raise_reset {reload : Int} {ts l : List Task} (h : raisePutF reload ts = some l) : l.length = ts.length ∧ ∀ k, k < ts.length → resetT (gT l k) (gT ts k) = gT ts k := by
  unfold raisePutF at h
  obtain ⟨bear, hb, rfl⟩ := Option.map_eq_some_iff.1 h
  refine ⟨by simp, fun k hk => ?_⟩
  rw [gT_at (by simpa using hk)]
  simp [resetT, pTask]
set_option maxRecDepth 100000 in
set_option maxHeartbeats 2000000 in
theorem known17_any (w : World) (hT : SpaceTab w) : Calls Tryz.prog 13 #[] w fun e w' => e = .returned (.bool true) ∧ Below w.heap.size w w' := by
  have HSO : Hid (∀ W, KnowSt w W → Calls Tryz.prog 7 #[.agg #[.int .i64 0, .slice (some ⟨w.heap.size + 1, 0, none⟩) 1 1]] W fun e w' => ∃ v, e = .returned (.tuple #[v, .bool true]) ∧ w'.ownsRow W.heap.size 3 1 v 1 [.int .i64 0] ∧ Below W.heap.size W w') := Lib.hid (fun W h => by
    have h1 := raiseOf_any 0 _ [oneTask] W h.reads one_cap one_good (refAll_all one_refAll) one_names (hT.below h.2.2.2)
    rw [one_raise] at h1
    exact h1)
  have HPU : Hid (∀ W, KnowSt w W → Calls Tryz.prog 9 #[.agg #[.int .i64 0, .slice (some ⟨w.heap.size + 1, 0, none⟩) 1 1]] W fun e w' => ∃ v xs, e = .returned (.tuple #[.agg #[.int .i64 0, v], .bool true]) ∧ xs.map Prod.fst = [{ oneTask with mode := 2, Q := 0, theta := 0 }] ∧ OwnT w' W.heap.size v xs ∧ Below W.heap.size W w') := Lib.hid (fun W h => by
    have h1 := raisePut_any 0 _ [oneTask] W h.reads one_cap one_good (refAll_all one_refAll) one_names (hT.below h.2.2.2)
    rw [one_raisePut] at h1
    exact h1)
  clear hT
  go_enter Tryz.func13, Tryz.ntmps13
  go_upto_region 2 with (fail)
  have HK : Hid (KnowSt w (((w.alloc (Obj.cells #[.int .i64 2, .int .i64 1] 2)).alloc (Obj.cells #[.string { data := #[97] }, .int .i64 5, .int .i64 5, .int .i64 0, .int .i64 0, .int .i64 0, .slice (some ⟨w.heap.size, 0, none⟩) 2 2, .int .u64 0, .int .u64 0] 41)).alloc (Obj.cells #[.int .i64 0, .slice (some ⟨w.heap.size + 1, 0, none⟩) 1 1] 24))) := Lib.hid ⟨((Blk.newAt rfl).alloc _).alloc _, (Blk.newAt (by simp)).alloc _, Blk.newAt (by simp), (by repeat (first | exact Below.refl _ _ | refine Below.drew ?_ | refine Below.alloc ?_ (by simp <;> omega) _))⟩
  generalize ((w.alloc _).alloc _).alloc _ = W3 at *
  have b0 := HK.out.2.2.1.cell 0 rfl
  have b1 := HK.out.2.2.1.cell 1 rfl
  go_upto_region 3 with (go_at_call 7; refine (HSO.out _ HK.out).mono ?_; rintro e w4 ⟨v, rfl, hown, hb4⟩; have HK4 := Lib.hid (HK.out.kept hb4); obtain ⟨A, cg, rfl⟩ := own_slice hown; have HQ := Lib.hid (own_intsE (l := [0]) hown rfl (by omega)); clear hown hb4)
  clear b0 b1 HK
  have b0 := HK4.out.2.2.1.cell 0 rfl
  have b1 := HK4.out.2.2.1.cell 1 rfl
  go_upto_region 4 with (go_at_call 9; refine (HPU.out _ HK4.out).mono ?_; rintro e w5 ⟨v, xs, rfl, hxs, hown, hb5⟩; have HB5 := Lib.hid (below_tr HK4.out.2.2.2 hb5); have HQ5 := Lib.hid (HQ.out.kept CInt.mono hb5); obtain ⟨x, rfl, hx1⟩ := one_list hxs; obtain ⟨g2, cg2, rfl, hg2, -, hgc2⟩ := own_cells hown.row (by simp); have x3 := hgc2 3 (.int .i64 2) (by simp [tasksC, hx1, Task.cells]); clear hown hgc2 hxs hx1 hb5)
  have HZ : Hid (RdI ((w5.alloc (Obj.cells #[.int .i64 0, .slice (some ⟨g2, 0, none⟩) 1 cg2] 24)).alloc (Obj.cells #[.int .i64 0] 3)) (.slice A 1 cg) [0] ∧ RdI ((w5.alloc (Obj.cells #[.int .i64 0, .slice (some ⟨g2, 0, none⟩) 1 cg2] 24)).alloc (Obj.cells #[.int .i64 0] 3)) (.slice (some ⟨w5.heap.size + 1, 0, none⟩) 1 1) [0] ∧ Blk ((w5.alloc (Obj.cells #[.int .i64 0, .slice (some ⟨g2, 0, none⟩) 1 cg2] 24)).alloc (Obj.cells #[.int .i64 0] 3)) w5.heap.size [.int .i64 0, .slice (some ⟨g2, 0, none⟩) 1 cg2] 24 ∧ ((w5.alloc (Obj.cells #[.int .i64 0, .slice (some ⟨g2, 0, none⟩) 1 cg2] 24)).alloc (Obj.cells #[.int .i64 0] 3)).cell? ⟨g2, 3, none⟩ = some (.int .i64 2) ∧ Below w.heap.size w ((w5.alloc (Obj.cells #[.int .i64 0, .slice (some ⟨g2, 0, none⟩) 1 cg2] 24)).alloc (Obj.cells #[.int .i64 0] 3))) := Lib.hid ⟨Rows'.kept CInt.mono (by repeat (first | exact Below.refl _ _ | refine Below.drew ?_ | refine Below.alloc ?_ (by simp <;> omega) _)) HQ5.out, ⟨_, 1, rfl, by simp, fun j x hj => by
    match j, hj with
    | 0, hj => cases hj; exact ⟨w5.heap.size + 1, 0, _, rfl, rfl, fun k u hu => by
        match k, hu with
        | 0, hu => cases hu; exact (Blk.newAt (cs := [.int .i64 0]) (by simp)).cell 0 rfl
        | k + 1, hu => simp at hu⟩
    | j + 1, hj => simp at hj⟩, (Blk.newAt rfl).alloc _, cell_kept (by repeat (first | exact Below.refl _ _ | refine Below.drew ?_ | refine Below.alloc ?_ (by simp <;> omega) _)) x3, (HB5.out.alloc HB5.out.size _).alloc (by have := HB5.out.size; simp; omega) _⟩
  have HNU := Lib.hid (fun W v v' h1 h2 => rints_any v v' [0] [0] W h1 h2)
  clear x3 HQ5
  go_wp2_with (go_at_call 11; refine (HNU.out _ _ _ HZ.out.1 HZ.out.2.1).mono ?_; rintro e w7 ⟨rfl, hb7⟩; have HX7 := Lib.hid (HZ.out.2.2.1.kept hb7); have z1 := HX7.out.cell 1 rfl; have z3 := cell_kept hb7 HZ.out.2.2.2.1; have HB7 := Lib.hid (below_tr HZ.out.2.2.2.2 hb7); clear hb7)
  go_ret
  exact ⟨ret_bool (by simp), HB7.out⟩
end Go.Proofs.YtopmnpkjhaabcaaGreatDoor
