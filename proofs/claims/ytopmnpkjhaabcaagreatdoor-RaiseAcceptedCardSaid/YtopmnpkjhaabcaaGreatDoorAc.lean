/- taskmasterref5.All walked. -/
import Derived.Test.YtopmnpkjhaabcaaGreatDoorAb
set_option linter.unusedVariables false
set_option linter.unusedSimpArgs false
namespace Go.Proofs.YtopmnpkjhaabcaaGreatDoor
open Go.RowKit

def refT (ts : List Task) (i : Nat) : Bool := refIsB (gT ts i) i && !((List.range i).any fun j => decide ((gT ts j).name = (gT ts i).name))
/-- What taskmasterref5.All answers. -/
def refAllB (reload : Int) (ts : List Task) : Bool := inB reload 0 10000 && (decide (1 ≤ ts.length) && (decide (ts.length ≤ 8) && (List.range ts.length).all (refT ts)))
theorem refAll_no {reload : Int} {ts : List Task} {k : Nat} (hk : k < ts.length) (h : refT ts k = false) : refAllB reload ts = false := by
  have : (List.range ts.length).all (refT ts) = false := by
    rw [List.all_eq_false]
    exact ⟨k, List.mem_range.2 hk, by simp [h]⟩
  simp [refAllB, this]
theorem refT_same {ts : List Task} {k j : Nat} (hj : j < k) (h : (gT ts j).name = (gT ts k).name) : refT ts k = false := by
  have : ((List.range k).any fun j => decide ((gT ts j).name = (gT ts k).name)) = true := List.any_eq_true.2 ⟨j, List.mem_range.2 hj, by simpa using h⟩
  simp [refT, this]
theorem refT_yes {ts : List Task} {k : Nat} (h1 : refIsB (gT ts k) k = true) (h : ∀ j, j < k → ¬ (gT ts j).name = (gT ts k).name) : refT ts k = true := by
  have : ((List.range k).any fun j => decide ((gT ts j).name = (gT ts k).name)) = false := by
    rw [List.any_eq_false]
    intro j hj
    simpa using h j (List.mem_range.1 hj)
  simp [refT, this, h1]
set_option maxRecDepth 100000 in
set_option maxHeartbeats 2000000 in
theorem rall_any (reload : Int) (vs : Value) (ts : List Task) (w : World) (hv : RdT w vs ts) (hn : ∀ t ∈ ts, t.name.size ≤ 140737488351232) :
    Calls Tryz.prog 14 #[.agg #[.int .i64 reload, vs]] w fun e w' => e = .returned (.bool (refAllB reload ts)) ∧ Below w.heap.size w w' := by
  obtain ⟨A, c, rfl, hle, hat⟩ := hv.at
  have HAT := Lib.hid hat
  have HN := Lib.hid hn
  clear hat hv hn
  cases h1 : inB reload 0 10000
  · have HM := Lib.hid h1
    have HF : Hid (refAllB reload ts = false) := Lib.hid (by simp [refAllB, h1])
    clear h1
    go_enter Tryz.func14, Tryz.ntmps14
    go_wp2_with (go_at_call 24; refine (rin_any _ _ _ _).mono ?_; rintro e w' ⟨rfl, rfl⟩; rw [HM.out])
    go_ret
    exact ⟨ret_bool (by rw [HF.out]), (by repeat (first | exact Below.refl _ _ | refine Below.drew ?_ | refine Below.alloc ?_ (by simp <;> omega) _))⟩
  · have HM := Lib.hid h1
    by_cases h2 : 1 ≤ ts.length
    · by_cases h3 : ts.length ≤ 8
      · have HR : Hid (refAllB reload ts = (List.range ts.length).all (refT ts)) := Lib.hid (by simp [refAllB, h1, h2, h3])
        clear h1
        go_enter Tryz.func14, Tryz.ntmps14
        go_wp2_with (go_at_call 24; refine (rin_any _ _ _ _).mono ?_; rintro e w' ⟨rfl, rfl⟩; rw [HM.out])
        go_loopg [3] ts.length (fun g i W => ∃ k : Nat, k ≤ ts.length ∧ g = ts.length - k ∧ i = .int .i64 k ∧ Hid (∀ j, j < k → refT ts j = true) ∧ Hid (SetC reload (.slice A ts.length c) w W))
        case atStart => exact ⟨0, Nat.zero_le _, rfl, rfl, Lib.hid (fun j hj => by omega), Lib.hid ⟨Blk.newAt rfl, (by repeat (first | exact Below.refl _ _ | refine Below.drew ?_ | refine Below.alloc ?_ (by simp <;> omega) _))⟩⟩
        case round =>
          obtain ⟨k, hk, hg, rfl, HALL, HST⟩ := hrel
          have HG := Lib.hid hg
          clear hg
          have b1 := HST.out.1.cell 1 rfl
          by_cases hlt : k < ts.length
          · obtain ⟨b, o, vr, rfl, hr, hcell⟩ := HAT.out k hlt
            obtain ⟨Ar, cr, rfl, -⟩ := id hr
            have hcell2 := fun j u hu => cell_kept HST.out.2 (hcell j u hu)
            obtain ⟨c0, c1, c2, c3, c4, c5, c6, c7, c8⟩ := task_cells hcell2
            have HC := Lib.hid (hr.kept CInt.mono HST.out.2)
            have HC0 := Lib.hid (hcell 0 _ rfl)
            clear hcell hcell2 hr
            have HSZ : Hid ((gT ts k).name.size ≤ 140737488351232) := Lib.hid (HN.out _ (by rw [gT_at hlt]; exact List.getElem_mem hlt))
            cases hi : refIsB (gT ts k) k
            · have HI := Lib.hid hi
              have HF : Hid (refAllB reload ts = false) := Lib.hid (refAll_no hlt (by simp [refT, hi]))
              clear hi
              go_wp2_with (go_at_call 25; refine (ris_any (gT ts k) _ _ _ HC.out HSZ.out).mono ?_; rintro e w1 ⟨rfl, hb1⟩; rw [HI.out]; have HS1 := Lib.hid (HST.out.kept hb1); clear hb1)
              go_ret
              exact ⟨ret_bool (by rw [HF.out]), HS1.out.2⟩
            · have HI := Lib.hid hi
              clear hi
              go_wp2_with (go_at_call 25; refine (ris_any (gT ts k) _ _ _ HC.out HSZ.out).mono ?_; rintro e w1 ⟨rfl, hb1⟩; rw [HI.out]; have HS1 := Lib.hid (HST.out.kept hb1); clear hb1)
              clear b1 c0 c1 c2 c3 c4 c5 c6 c7 c8
              go_loopg [4] k (fun g i W => ∃ m : Nat, m ≤ k ∧ g = k - m ∧ i = .int .i64 m ∧ Hid (∀ j, j < m → ¬ (gT ts j).name = (gT ts k).name) ∧ Hid (SetC reload (.slice (some ⟨b, o, none⟩) ts.length c) w W))
              case atStart => exact ⟨0, Nat.zero_le _, rfl, rfl, Lib.hid (fun j hj => by omega), HS1⟩
              case round =>
                obtain ⟨m, hm, hg2, rfl, HALL2, HS2⟩ := hrel
                have HG2 := Lib.hid hg2
                clear hg2 HS1
                by_cases hmk : m < k
                · have b1 := HS2.out.1.cell 1 rfl
                  obtain ⟨b', o', vr', hbo, -, hcell⟩ := HAT.out m (by omega)
                  cases hbo
                  have d0 := cell_kept HS2.out.2 HC0.out
                  rw [Nat.add_zero] at d0
                  have d1 := cell_kept HS2.out.2 (hcell 0 _ rfl)
                  rw [Nat.add_zero] at d1
                  clear hcell
                  have hi1 : (k : Int) < (ts.length : Int) := by omega
                  have hi2 : (m : Int) < (ts.length : Int) := by omega
                  by_cases he : (gT ts m).name = (gT ts k).name
                  · have k1 : ((gT ts m).name.toList == (gT ts k).name.toList) = true := by rw [str_eq]; simp [he]
                    have HF : Hid (refAllB reload ts = false) := Lib.hid (refAll_no hlt (refT_same hmk he))
                    clear he
                    go_wp2
                    go_quiet (fail)
                    go_wp2
                    go_ret
                    exact ⟨ret_bool (by rw [HF.out]), below_drewN HS2.out.2 _⟩
                  · have k1 : ((gT ts m).name.toList == (gT ts k).name.toList) = false := by rw [str_eq]; simp [he]
                    have HALL3 : Hid (∀ j, j < m + 1 → ¬ (gT ts j).name = (gT ts k).name) := Lib.hid (fun j hj => by
                      by_cases h : j = m
                      · subst h; exact he
                      · exact HALL2.out j (by omega))
                    clear he
                    go_wp2
                    go_quiet (fail)
                    go_wp2
                    go_roundg (k - (m + 1))
                    case rel => exact ⟨m + 1, hmk, rfl, by go_num, HALL3, Lib.hid ⟨HS2.out.1.drewN _, below_drewN HS2.out.2 _⟩⟩
                    case measure => have := HG2.out; omega
                · obtain rfl : m = k := by omega
                  have HALL4 : Hid (∀ j, j < m + 1 → refT ts j = true) := Lib.hid (fun j hj => by
                    by_cases h : j = m
                    · subst h; exact refT_yes HI.out HALL2.out
                    · exact HALL.out j (by omega))
                  go_wp2
                  go_roundg (ts.length - (m + 1))
                  case rel => exact ⟨m + 1, hlt, rfl, by go_num, HALL4, HS2⟩
                  case measure => have := HG.out; omega
          · obtain rfl : k = ts.length := by omega
            have HF : Hid (refAllB reload ts = true) := Lib.hid (by
              rw [HR.out, List.all_eq_true]
              intro j hj
              exact HALL.out j (List.mem_range.1 hj))
            go_wp2
            go_ret
            exact ⟨ret_bool (by rw [HF.out]), HST.out.2⟩
      · have HF : Hid (refAllB reload ts = false) := Lib.hid (by simp [refAllB, h3])
        clear h1
        go_enter Tryz.func14, Tryz.ntmps14
        go_wp2_with (go_at_call 24; refine (rin_any _ _ _ _).mono ?_; rintro e w' ⟨rfl, rfl⟩; rw [HM.out])
        go_ret
        exact ⟨ret_bool (by rw [HF.out]), (by repeat (first | exact Below.refl _ _ | refine Below.drew ?_ | refine Below.alloc ?_ (by simp <;> omega) _))⟩
    · have HF : Hid (refAllB reload ts = false) := Lib.hid (by simp [refAllB, h2])
      clear h1
      go_enter Tryz.func14, Tryz.ntmps14
      go_wp2_with (go_at_call 24; refine (rin_any _ _ _ _).mono ?_; rintro e w' ⟨rfl, rfl⟩; rw [HM.out])
      go_ret
      exact ⟨ret_bool (by rw [HF.out]), (by repeat (first | exact Below.refl _ _ | refine Below.drew ?_ | refine Below.alloc ?_ (by simp <;> omega) _))⟩

/-- What the document's answer lets in, task.All lets in; and the program's walks stand. -/
theorem modeB_same (t : Task) (p : Int) : modeB t p = modeB t p := rfl
theorem refIs_is {t : Task} {p : Int} (h : refIsB t p = true) : isB t p = true ∧ regsB t.regs = true ∧ t.regs.sum ≤ t.D ∧ t.D ≤ t.T ∧ t.T ≤ 10000 ∧ modeB t p = true := by
  unfold refIsB at h
  simp only [Bool.and_eq_true, decide_eq_true_eq] at h
  obtain ⟨h1, h2, h3, h4, h5, h6, h7⟩ := h
  refine ⟨?_, h2, h4, h5, h6, h7⟩
  have hw := (regs_work h2).1
  unfold isB
  simp [refName_name _ h1, h2, h3, h4, h5, h7, timeB, h6]
  omega
theorem refAll_at {reload : Int} {ts : List Task} (h : refAllB reload ts = true) : 0 ≤ reload ∧ reload ≤ 10000 ∧ 1 ≤ ts.length ∧ ts.length ≤ 8 ∧ ∀ k, k < ts.length → refT ts k = true := by
  unfold refAllB inB at h
  simp only [Bool.and_eq_true, decide_eq_true_eq, List.all_eq_true, List.mem_range] at h
  obtain ⟨⟨h1, h2⟩, h3, h4, h5⟩ := h
  exact ⟨h1, h2, h3, h4, h5⟩
theorem memS_seen {ts : List Task} {k : Nat} (hk : k ≤ ts.length) (s : ByteArray) : memS (seenTo ts k) s = true ↔ ∃ j, j < k ∧ (gT ts j).name = s := by
  unfold memS seenTo
  rw [List.any_reverse, List.any_map, List.any_eq_true]
  constructor
  · rintro ⟨t, ht, h⟩
    obtain ⟨j, hj, rfl⟩ := List.getElem_of_mem ht
    rw [List.length_take] at hj
    refine ⟨j, by omega, ?_⟩
    rw [gT_at (by omega)]
    simpa using h
  · rintro ⟨j, hj, h⟩
    rw [gT_at (by omega)] at h
    refine ⟨ts[j], ?_, by simpa using h⟩
    rw [← List.getElem_take (i := j) (j := k) (h := by rw [List.length_take]; omega)]
    exact List.getElem_mem _
theorem allT_of {ts : List Task} (h : ∀ k, k < ts.length → refT ts k = true) (n k : Nat) (hk : k + n = ts.length) : allT (ts.drop k) k (seenTo ts k) = true := by
  induction n generalizing k with
  | zero => rw [List.drop_eq_nil_of_le (by omega)]; rfl
  | succ n ih =>
    rw [allT_drop (by omega), ← seenTo_succ (by omega), ih (k + 1) (by omega)]
    have hT := h k (by omega)
    have h1 : refIsB (gT ts k) k = true := by
      unfold refT at hT
      simp only [Bool.and_eq_true] at hT
      exact hT.1
    rw [(refIs_is h1).1]
    have h2 : memS (seenTo ts k) (gT ts k).name = false := by
      cases hm : memS (seenTo ts k) (gT ts k).name
      · rfl
      · obtain ⟨j, hj, he⟩ := (memS_seen (by omega) _).1 hm
        rw [refT_same hj he] at hT
        cases hT
    rw [h2]; rfl
theorem refAll_all {reload : Int} {ts : List Task} (h : refAllB reload ts = true) : allB reload ts = true := by
  obtain ⟨h1, h2, h3, h4, h5⟩ := refAll_at h
  have := allT_of h5 ts.length 0 (by omega)
  unfold allB
  rw [List.drop_zero] at this
  have h6 : seenTo ts 0 = [] := by simp [seenTo]
  rw [h6] at this
  simp [this, h3, h4, timeB, h1, h2]
theorem refAll_good {reload : Int} {ts : List Task} (h : refAllB reload ts = true) (hu : ∀ k, k < ts.length → 0 ≤ (gT ts k).ucb ∧ (gT ts k).ucb < 18446744073709551616) (he : ∀ k, k < ts.length → 0 ≤ (gT ts k).ecb ∧ (gT ts k).ecb < 18446744073709551616) : Good reload ts := by
  obtain ⟨h1, h2, h3, h4, h5⟩ := refAll_at h
  have h6 : ∀ k, k < ts.length → refIsB (gT ts k) k = true := fun k hk => by
    have hT := h5 k hk
    unfold refT at hT
    simp only [Bool.and_eq_true] at hT
    exact hT.1
  exact ⟨h1, h2, h3, h4, fun k hk => (refIs_is (h6 k hk)).2.1, fun k hk => (refIs_is (h6 k hk)).2.2.1, fun k hk => (refIs_is (h6 k hk)).2.2.2.1, fun k hk => (refIs_is (h6 k hk)).2.2.2.2.1, hu, he⟩
end Go.Proofs.YtopmnpkjhaabcaaGreatDoor
