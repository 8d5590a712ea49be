/- taskmasterref4.small, digit, Words, word walked. -/
import Derived.Test.YtopmnpkjhaabcaaGreatDoorwa
set_option linter.unusedVariables false
set_option linter.unusedSimpArgs false
namespace Go.Proofs.YtopmnpkjhaabcaaGreatDoor
open Go.RowKit

theorem small_any (c : Int) (w : World) : Calls Tryz.prog 45 #[.int .u8 c] w fun e w' => e = .returned (.bool (letB c)) ∧ w' = w := by
  by_cases h1 : 97 ≤ c
  · go_enter Tryz.func45, Tryz.ntmps45
    go_wp2
    go_ret
    exact ⟨ret_bool (by simp [letB, h1]; try omega), rfl⟩
  · go_enter Tryz.func45, Tryz.ntmps45
    go_wp2
    go_ret
    exact ⟨ret_bool (by simp [letB, h1]; try omega), rfl⟩
theorem rdigit_any (c : Int) (w : World) : Calls Tryz.prog 59 #[.int .u8 c] w fun e w' => e = .returned (.bool (digB c)) ∧ w' = w := by
  by_cases h1 : 48 ≤ c
  · go_enter Tryz.func59, Tryz.ntmps59
    go_wp2
    go_ret
    exact ⟨ret_bool (by simp [digB, h1]; try omega), rfl⟩
  · go_enter Tryz.func59, Tryz.ntmps59
    go_wp2
    go_ret
    exact ⟨ret_bool (by simp [digB, h1]; try omega), rfl⟩
theorem rwords_any (w : World) : Calls Tryz.prog 72 #[] w fun e w' => e = .returned (.slice (some ⟨w.heap.size, 0, none⟩) 10 10) ∧ w' = w.alloc (.cells (wordsL.map fun l => Value.string ⟨l.toArray⟩).toArray 9) := by
  go_enter Tryz.func72, Tryz.ntmps72
  go_wp2
  go_ret
  exact ⟨rfl, rfl⟩
def wAt (k : Nat) : ByteArray := str (wordsL.getD k [])
def isWordTo (s : ByteArray) (k : Nat) : Bool := (List.range k).any fun j => decide (wAt j = s)
theorem isWordTo_all (s : ByteArray) : isWordTo s 10 = isWord s := by
  unfold isWordTo isWord
  rw [Bool.eq_iff_iff, Lib.containsS_iff, List.any_eq_true, List.mem_map]
  constructor
  · rintro ⟨j, hj, h⟩
    rw [List.mem_range] at hj
    refine ⟨wordsL.getD j [], ?_, by simpa [wAt] using h⟩
    have hj2 : j < wordsL.length := hj
    rw [List.getD_eq_getElem?_getD, List.getElem?_eq_getElem hj2]
    exact List.getElem_mem hj2
  · rintro ⟨l, hl, h⟩
    obtain ⟨j, hj, rfl⟩ := List.getElem_of_mem hl
    refine ⟨j, List.mem_range.2 hj, ?_⟩
    have : wAt j = s := by unfold wAt; rw [List.getD_eq_getElem?_getD, List.getElem?_eq_getElem hj]; exact h
    simp [this]
theorem isWordTo_succ (s : ByteArray) (k : Nat) : isWordTo s (k + 1) = (isWordTo s k || decide (wAt k = s)) := by simp [isWordTo, List.range_succ]
theorem isWordTo_mono (s : ByteArray) {k n : Nat} (h : k ≤ n) (hk : isWordTo s k = true) : isWordTo s n = true := by
  induction h with
  | refl => exact hk
  | step _ ih => rw [isWordTo_succ, ih]; rfl
theorem word_cells (w : World) (j : Nat) (hj : j < 10) : (w.alloc (.cells (wordsL.map fun l => Value.string ⟨l.toArray⟩).toArray 9)).cell? ⟨w.heap.size, j, none⟩ = some (.string (wAt j)) := by
  have h := heap_alloc_new w (.cells (wordsL.map fun l => Value.string ⟨l.toArray⟩).toArray 9)
  simp only [World.cell?, h]
  match j, hj with
  | 0, _ => rfl
  | 1, _ => rfl
  | 2, _ => rfl
  | 3, _ => rfl
  | 4, _ => rfl
  | 5, _ => rfl
  | 6, _ => rfl
  | 7, _ => rfl
  | 8, _ => rfl
  | 9, _ => rfl
theorem word_any (s : ByteArray) (w : World) : Calls Tryz.prog 60 #[.string s] w fun e w' => e = .returned (.bool (isWord s)) ∧ Below w.heap.size w w' := by
  have HW := Lib.hid (fun j hj => word_cells w j hj)
  have HR := Lib.hid (isWordTo_all s)
  have HB : Hid (Below w.heap.size w (w.alloc (.cells (wordsL.map fun l => Value.string ⟨l.toArray⟩).toArray 9))) := Lib.hid ((Below.refl _ _).alloc (Nat.le_refl _) _)
  have HRW := Lib.hid (rwords_any w)
  generalize w.alloc _ = W1 at *
  go_enter Tryz.func60, Tryz.ntmps60
  go_wp2_with (go_at_call 72; refine HRW.out.mono ?_; rintro e w1 ⟨rfl, rfl⟩)
  go_loop [4] (fun i => ∃ k : Nat, k ≤ 10 ∧ i = .int .i64 k ∧ isWordTo s k = false) (fun i => 10 - (intOf i).toNat)
  case atStart => exact ⟨0, Nat.zero_le _, rfl, rfl⟩
  case round =>
    obtain ⟨k, hk, rfl, hno⟩ := hrel
    by_cases hlt : k < 10
    · have hc := HW.out k hlt
      have HS := Lib.hid (isWordTo_succ s k)
      have HNO := Lib.hid hno
      clear hno
      by_cases he : wAt k = s
      · have k1 : ((wAt k).toList == s.toList) = true := by rw [str_eq]; simp [he]
        have HF : Hid (isWord s = true) := Lib.hid (by rw [← HR.out]; exact isWordTo_mono s (show k + 1 ≤ 10 by omega) (by rw [HS.out]; simp [he]))
        clear he
        go_wp2
        go_ret
        exact ⟨ret_bool (by rw [HF.out]), HB.out⟩
      · have k1 : ((wAt k).toList == s.toList) = false := by rw [str_eq]; simp [he]
        have HF : Hid (isWordTo s (k + 1) = false) := Lib.hid (by rw [HS.out, HNO.out]; simp [he])
        clear he
        go_wp2
        go_round
        case rel => exact ⟨k + 1, hlt, by go_num, HF.out⟩
        case measure => simp [intOf]; omega
    · obtain rfl : k = 10 := by omega
      have HF : Hid (isWord s = false) := Lib.hid (by rw [← HR.out]; exact hno)
      clear hno
      go_wp2
      go_ret
      exact ⟨ret_bool (by rw [HF.out]), HB.out⟩
end Go.Proofs.YtopmnpkjhaabcaaGreatDoor
