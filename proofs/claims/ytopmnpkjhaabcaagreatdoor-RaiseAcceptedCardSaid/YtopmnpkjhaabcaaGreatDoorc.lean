/- lex.gap, lex.name, lex.number, lex.token walked. -/
import Derived.Test.YtopmnpkjhaabcaaGreatDoorb
import Derived.Deep.RegionHeld3
set_option linter.unusedVariables false
set_option linter.unusedSimpArgs false
namespace Go.Proofs.YtopmnpkjhaabcaaGreatDoor
open Go.RowKit

/-- How many bytes between tokens stand first. -/
def gapN (s : ByteArray) : Nat := if bt s 0 = 32 ∨ bt s 0 = 10 then 1 else if bt s 0 = 35 then runLen notFeedB s else 0

set_option maxRecDepth 100000 in
theorem gap_any (s : ByteArray) (w : World) (hs : s.size ≤ 140737488351232) (h0 : 0 < s.size) :
    Calls Tryz.prog 73 #[.string s] w fun e w' => e = .returned (.int .i64 (gapN s)) ∧ w' = w := by
  have hb := bt_at s 0 h0
  by_cases h1 : bt s 0 = 32
  · have k1 : ((s[0]'h0).toNat : Int) == 32 := by rw [hb, h1]; rfl
    have HG : Hid (gapN s = 1) := Lib.hid (by unfold gapN; rw [if_pos (Or.inl h1)])
    clear hb h1
    go_enter Tryz.func73, Tryz.ntmps73
    go_wp2
    go_ret
    exact ⟨ret_int (by rw [HG.out]; rfl), rfl⟩
  · have k1 : (((s[0]'h0).toNat : Int) == 32) = false := by rw [hb]; simp [h1]
    by_cases h2 : bt s 0 = 10
    · have k2 : ((s[0]'h0).toNat : Int) == 10 := by rw [hb, h2]; rfl
      have HG : Hid (gapN s = 1) := Lib.hid (by unfold gapN; rw [if_pos (Or.inr h2)])
      clear hb h1 h2
      go_enter Tryz.func73, Tryz.ntmps73
      go_wp2
      go_ret
      exact ⟨ret_int (by rw [HG.out]; rfl), rfl⟩
    · have k2 : (((s[0]'h0).toNat : Int) == 10) = false := by rw [hb]; simp [h2]
      by_cases h3 : bt s 0 = 35
      · have k3 : ((s[0]'h0).toNat : Int) == 35 := by rw [hb, h3]; rfl
        have HG : Hid (gapN s = runLen notFeedB s) := Lib.hid (by unfold gapN; rw [if_neg (by omega), if_pos h3])
        clear hb h1 h2 h3
        go_enter Tryz.func73, Tryz.ntmps73
        go_wp2_with (go_at_call 83; refine (run_notFeed s _ hs).mono ?_; rintro e w' ⟨rfl, rfl⟩)
        go_ret
        exact ⟨ret_int (by rw [HG.out]), rfl⟩
      · have k3 : (((s[0]'h0).toNat : Int) == 35) = false := by rw [hb]; simp [h3]
        have HG : Hid (gapN s = 0) := Lib.hid (by unfold gapN; rw [if_neg (by omega), if_neg h3])
        clear hb h1 h2 h3
        go_enter Tryz.func73, Tryz.ntmps73
        go_wp2
        go_ret
        exact ⟨ret_int (by rw [HG.out]; rfl), rfl⟩

def isWord (s : ByteArray) : Bool := Lib.containsS (wordsL.map str) s
def nameText (s : ByteArray) : ByteArray := s.extract 0 (runLen moreB s)
def nameKind (s : ByteArray) : Int := if isWord (nameText s) then 3 else 1

theorem runLen_le (p : Int → Bool) (s : ByteArray) : runLen p s ≤ s.size := by have := runL_le p s.data.toList; rw [blen] at this; exact this

theorem contains_words (x : ByteArray) (b : Nat) (w : World) (h : w.heap[b]? = some (.cells (wordsL.map fun l => Value.string ⟨l.toArray⟩).toArray 9 (0, 0))) :
    Calls Tryz.prog 97 #[.slice (some ⟨b, 0, none⟩) 10 10, .string x] w fun e w' => e = .returned (.bool (isWord x)) ∧ w' = w := by
  refine (Tryz.slices_Contains_string b 0 10 10 (wordsL.map str) x w (by simp [wordsL]) (by omega) ?_).mono ?_
  · intro j hj
    have hj' : j < 10 := by simpa [wordsL] using hj
    simp only [World.cell?, h, Nat.zero_add]
    match j, hj' with
    | 0, _ => rfl
    | 1, _ => rfl
    | 2, _ => rfl
    | 3, _ => rfl
    | 4, _ => rfl
    | 5, _ => rfl
    | 6, _ => rfl
    | 7, _ => rfl
    | 8, _ => rfl
    | 9, _ => rfl
  · rintro e w' ⟨rfl, rfl⟩
    exact ⟨rfl, rfl⟩

set_option maxRecDepth 100000 in
theorem name_any (s : ByteArray) (w : World) (hs : s.size ≤ 140737488351232) (hT : SpaceTab w) :
    Calls Tryz.prog 86 #[.string s] w fun e w' => e = .returned (.tuple #[.agg #[.int .i64 (nameKind s), .string (nameText s), .int .i64 0, .int .i64 0], .int .i64 (runLen moreB s), .bool (decide ((runLen moreB s : Int) ≤ 12))]) ∧ Below w.heap.size w w' := by
  have hr := runLen_le moreB s
  cases hw : isWord (s.extract 0 (runLen moreB s))
  · have HW := Lib.hid hw
    clear hw
    go_enter Tryz.func86, Tryz.ntmps86
    go_wp2_with (go_at_call 83; refine (run_more s _ hs).mono ?_; rintro e w' ⟨rfl, rfl⟩)
    go_region_held3 (fun w' => w'.cell? ⟨w.heap.size + 1, 1, none⟩ = some (.string (s.extract 0 (runLen moreB s)))) (go_keep) (first | (go_at_call 98; refine (words_any _ ?_).mono ?_; (exact hT.below (by repeat (first | exact Below.refl _ _ | refine Below.drew ?_ | refine Below.alloc ?_ (by simp <;> omega) _))); rintro e w' ⟨rfl, rfl⟩) | (go_at_call 97; refine (contains_words _ _ _ ?_).mono ?_; (exact heap_at (by simp)); rintro e w' ⟨rfl, rfl⟩; rw [HW.out]))
    go_wp2
    refine bodyPost_ret (v := .tuple #[.agg #[.int .i64 1, .string (s.extract 0 (runLen moreB s)), .int .i64 0, .int .i64 0], .int .i64 (runLen moreB s), .bool (decide ((runLen moreB s : Int) ≤ 12))]) (by simp [results, Tryz.results86, go_sem]) rfl ⟨?_, ?_⟩
    · simp [nameKind, nameText, HW.out]
    · repeat (first | exact Below.refl _ _ | refine Below.drew ?_ | refine Below.alloc ?_ (by simp <;> omega) _ | refine Below.setCell ?_ (by simp <;> omega) _)
  · have HW := Lib.hid hw
    clear hw
    go_enter Tryz.func86, Tryz.ntmps86
    go_wp2_with (go_at_call 83; refine (run_more s _ hs).mono ?_; rintro e w' ⟨rfl, rfl⟩)
    go_region_held3 (fun w' => w'.cell? ⟨w.heap.size + 1, 1, none⟩ = some (.string (s.extract 0 (runLen moreB s)))) (go_keep) (first | (go_at_call 98; refine (words_any _ ?_).mono ?_; (exact hT.below (by repeat (first | exact Below.refl _ _ | refine Below.drew ?_ | refine Below.alloc ?_ (by simp <;> omega) _))); rintro e w' ⟨rfl, rfl⟩) | (go_at_call 97; refine (contains_words _ _ _ ?_).mono ?_; (exact heap_at (by simp)); rintro e w' ⟨rfl, rfl⟩; rw [HW.out]))
    go_wp2
    refine bodyPost_ret (v := .tuple #[.agg #[.int .i64 3, .string (s.extract 0 (runLen moreB s)), .int .i64 0, .int .i64 0], .int .i64 (runLen moreB s), .bool (decide ((runLen moreB s : Int) ≤ 12))]) (by simp [results, Tryz.results86, go_sem]) rfl ⟨?_, ?_⟩
    · simp [nameKind, nameText, HW.out]
    · repeat (first | exact Below.refl _ _ | refine Below.drew ?_ | refine Below.alloc ?_ (by simp <;> omega) _ | refine Below.setCell ?_ (by simp <;> omega) _)
end Go.Proofs.YtopmnpkjhaabcaaGreatDoor
