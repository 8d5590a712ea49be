/- The leaves of package lex, walked: what a byte is, how long a run of such bytes is. No conditions. -/
import Derived.Test.YtopmnpkjhaabcaaGreatDoorL
set_option linter.unusedVariables false
set_option linter.unusedSimpArgs false
namespace Go.Proofs.YtopmnpkjhaabcaaGreatDoor
open Go.RowKit

def letB (c : Int) : Bool := decide (97 ≤ c) && decide (c ≤ 122)
def digB (c : Int) : Bool := decide (48 ≤ c) && decide (c ≤ 57)
def moreB (c : Int) : Bool := letB c || digB c || c == 95
def notFeedB (c : Int) : Bool := c != 10


theorem isLetter_any (c : Int) (w : World) : Calls Tryz.prog 85 #[.int .u8 c] w fun e w' => e = .returned (.bool (letB c)) ∧ w' = w := by
  go_enter Tryz.func85, Tryz.ntmps85
  go_wp2
  all_goals
    go_ret
    refine ⟨ret_bool ?_, rfl⟩
    simp [letB]
    try omega
theorem isDigit_any (c : Int) (w : World) : Calls Tryz.prog 87 #[.int .u8 c] w fun e w' => e = .returned (.bool (digB c)) ∧ w' = w := by
  go_enter Tryz.func87, Tryz.ntmps87
  go_wp2
  all_goals
    go_ret
    refine ⟨ret_bool ?_, rfl⟩
    simp [digB]
    try omega
theorem isMore_any (c : Int) (w : World) : Calls Tryz.prog 96 #[.int .u8 c] w fun e w' => e = .returned (.bool (moreB c)) ∧ w' = w := by
  cases hl : letB c
  · cases hd : digB c
    · have hl := Lib.hid hl; have hd := Lib.hid hd
      go_enter Tryz.func96, Tryz.ntmps96
      go_wp2_with (first | (go_at_call 85; refine (isLetter_any c _).mono ?_; rintro e w' ⟨rfl, rfl⟩; rw [hl.out]) | (go_at_call 87; refine (isDigit_any c _).mono ?_; rintro e w' ⟨rfl, rfl⟩; rw [hd.out]))
      go_ret
      exact ⟨ret_bool (by simp [moreB, hl.out, hd.out]), rfl⟩
    · have hl := Lib.hid hl; have hd := Lib.hid hd
      go_enter Tryz.func96, Tryz.ntmps96
      go_wp2_with (first | (go_at_call 85; refine (isLetter_any c _).mono ?_; rintro e w' ⟨rfl, rfl⟩; rw [hl.out]) | (go_at_call 87; refine (isDigit_any c _).mono ?_; rintro e w' ⟨rfl, rfl⟩; rw [hd.out]))
      go_ret
      exact ⟨ret_bool (by simp [moreB, hl.out, hd.out]), rfl⟩
  · have hl := Lib.hid hl
    go_enter Tryz.func96, Tryz.ntmps96
    go_wp2_with (first | (go_at_call 85; refine (isLetter_any c _).mono ?_; rintro e w' ⟨rfl, rfl⟩; rw [hl.out]) | (go_at_call 87; refine (isDigit_any c _).mono ?_; rintro e w' ⟨rfl, rfl⟩; rw [hd.out]))
    go_ret
    exact ⟨ret_bool (by simp [moreB, hl.out]), rfl⟩
theorem gap1_any (c : Int) (w : World) : Calls Tryz.prog 84 #[.int .u8 c] w fun e w' => e = .returned (.bool (notFeedB c)) ∧ w' = w := by
  go_enter Tryz.func84, Tryz.ntmps84
  go_wp2
  go_ret
  exact ⟨rfl, rfl⟩

/-- A byte of a string, as a number; 0 behind its end. -/
def bt (s : ByteArray) (i : Nat) : Int := ((s.data.toList.getD i 0).toNat : Int)
theorem bt_at (s : ByteArray) (i : Nat) (h : i < s.size) : ((s[i]'h).toNat : Int) = bt s i := by
  unfold bt
  rw [List.getD_eq_getElem?_getD, List.getElem?_eq_getElem (by simpa using h)]
  rfl
theorem blen (s : ByteArray) : s.data.toList.length = s.size := by simp
/-- How many bytes a list begins with that are such. -/
def runL (p : Int → Bool) : List UInt8 → Nat
  | [] => 0
  | c :: l => if p (c.toNat : Int) then runL p l + 1 else 0
def runLen (p : Int → Bool) (s : ByteArray) : Nat := runL p s.data.toList
theorem runL_le (p : Int → Bool) (l : List UInt8) : runL p l ≤ l.length := by
  induction l with
  | nil => simp [runL]
  | cons c l ih => unfold runL; split <;> simp <;> omega
theorem runL_cons (p : Int → Bool) (c : UInt8) (l : List UInt8) : runL p (c :: l) = if p (c.toNat : Int) then runL p l + 1 else 0 := rfl
theorem runL_drop (p : Int → Bool) (l : List UInt8) (k : Nat) (h : k ≤ runL p l) : runL p l = k + runL p (l.drop k) := by
  induction k generalizing l with
  | zero => simp
  | succ k ih =>
    cases l with
    | nil => simp [runL] at h
    | cons c l =>
      rw [runL_cons] at h ⊢
      split at h
      · rename_i hp
        rw [if_pos hp, ih l (by omega), List.drop_succ_cons]
        omega
      · omega
theorem runL_head (p : Int → Bool) (l : List UInt8) (h : 0 < l.length) : runL p l = if p ((l.getD 0 0).toNat : Int) then 1 + runL p (l.drop 1) else 0 := by
  cases l with
  | nil => simp at h
  | cons c l => simp [runL]; split <;> omega

set_option maxRecDepth 100000 in
theorem run_notFeed (s : ByteArray) (w : World) (hs : s.size ≤ 140737488351232) :
    Calls Tryz.prog 83 #[.string s, .func (.func 84) #[] #[]] w fun e w' => e = .returned (.int .i64 (runLen notFeedB s)) ∧ w' = w := by
  go_enter Tryz.func83, Tryz.ntmps83
  go_wp2
  go_loop [5] (fun i => ∃ k : Nat, k ≤ runLen notFeedB s ∧ i = .int .i64 k) (fun i => s.size - (intOf i).toNat)
  case atStart => exact ⟨0, Nat.zero_le _, rfl⟩
  case round =>
    obtain ⟨k, hk, rfl⟩ := hrel
    have hle : k ≤ s.size := Nat.le_trans hk (runL_le notFeedB _)
    by_cases hlt : k < s.size
    · have hh := runL_drop notFeedB s.data.toList k hk
      have h2 := runL_head notFeedB (s.data.toList.drop k) (by rw [List.length_drop, blen]; omega)
      rw [List.getD_eq_getElem?_getD, List.getElem?_drop, ← List.getD_eq_getElem?_getD, Nat.add_zero] at h2
      change _ = if notFeedB (bt s k) = true then _ else _ at h2
      cases hp : notFeedB (bt s k)
      · have HP := Lib.hid hp
        rw [hp] at h2
        have HH : Hid (runLen notFeedB s = k) := by show runL notFeedB _ = k; rw [hh, h2]; simp
        clear hp h2 hh
        go_wp2_with (go_at_call 84; rw [bt_at s k hlt]; refine (gap1_any _ _).mono ?_; rintro e w' ⟨rfl, rfl⟩; rw [HP.out])
        go_ret
        exact ⟨ret_int (by rw [HH.out]), rfl⟩
      · have HP := Lib.hid hp
        rw [hp] at h2
        have HH : k + 1 ≤ runLen notFeedB s := by show _ ≤ runL notFeedB _; rw [hh, h2]; simp
        clear hp h2 hh
        go_wp2_with (go_at_call 84; rw [bt_at s k hlt]; refine (gap1_any _ _).mono ?_; rintro e w' ⟨rfl, rfl⟩; rw [HP.out])
        go_round
        case rel => exact ⟨k + 1, HH, by go_num⟩
        case measure => simp [intOf]; omega
    · have HH : Hid (runLen notFeedB s = k) := Lib.hid (by have := runL_le notFeedB s.data.toList; have e := blen s; unfold runLen at *; omega)
      go_wp2
      go_ret
      exact ⟨ret_int (by rw [HH.out]), rfl⟩
set_option maxRecDepth 100000 in
theorem run_more (s : ByteArray) (w : World) (hs : s.size ≤ 140737488351232) :
    Calls Tryz.prog 83 #[.string s, .func (.func 96) #[] #[]] w fun e w' => e = .returned (.int .i64 (runLen moreB s)) ∧ w' = w := by
  go_enter Tryz.func83, Tryz.ntmps83
  go_wp2
  go_loop [5] (fun i => ∃ k : Nat, k ≤ runLen moreB s ∧ i = .int .i64 k) (fun i => s.size - (intOf i).toNat)
  case atStart => exact ⟨0, Nat.zero_le _, rfl⟩
  case round =>
    obtain ⟨k, hk, rfl⟩ := hrel
    have hle : k ≤ s.size := Nat.le_trans hk (runL_le moreB _)
    by_cases hlt : k < s.size
    · have hh := runL_drop moreB s.data.toList k hk
      have h2 := runL_head moreB (s.data.toList.drop k) (by rw [List.length_drop, blen]; omega)
      rw [List.getD_eq_getElem?_getD, List.getElem?_drop, ← List.getD_eq_getElem?_getD, Nat.add_zero] at h2
      change _ = if moreB (bt s k) = true then _ else _ at h2
      cases hp : moreB (bt s k)
      · have HP := Lib.hid hp
        rw [hp] at h2
        have HH : Hid (runLen moreB s = k) := by show runL moreB _ = k; rw [hh, h2]; simp
        clear hp h2 hh
        go_wp2_with (go_at_call 96; rw [bt_at s k hlt]; refine (isMore_any _ _).mono ?_; rintro e w' ⟨rfl, rfl⟩; rw [HP.out])
        go_ret
        exact ⟨ret_int (by rw [HH.out]), rfl⟩
      · have HP := Lib.hid hp
        rw [hp] at h2
        have HH : k + 1 ≤ runLen moreB s := by show _ ≤ runL moreB _; rw [hh, h2]; simp
        clear hp h2 hh
        go_wp2_with (go_at_call 96; rw [bt_at s k hlt]; refine (isMore_any _ _).mono ?_; rintro e w' ⟨rfl, rfl⟩; rw [HP.out])
        go_round
        case rel => exact ⟨k + 1, HH, by go_num⟩
        case measure => simp [intOf]; omega
    · have HH : Hid (runLen moreB s = k) := Lib.hid (by have := runL_le moreB s.data.toList; have e := blen s; unfold runLen at *; omega)
      go_wp2
      go_ret
      exact ⟨ret_int (by rw [HH.out]), rfl⟩
set_option maxRecDepth 100000 in
theorem run_dig (s : ByteArray) (w : World) (hs : s.size ≤ 140737488351232) :
    Calls Tryz.prog 83 #[.string s, .func (.func 87) #[] #[]] w fun e w' => e = .returned (.int .i64 (runLen digB s)) ∧ w' = w := by
  go_enter Tryz.func83, Tryz.ntmps83
  go_wp2
  go_loop [5] (fun i => ∃ k : Nat, k ≤ runLen digB s ∧ i = .int .i64 k) (fun i => s.size - (intOf i).toNat)
  case atStart => exact ⟨0, Nat.zero_le _, rfl⟩
  case round =>
    obtain ⟨k, hk, rfl⟩ := hrel
    have hle : k ≤ s.size := Nat.le_trans hk (runL_le digB _)
    by_cases hlt : k < s.size
    · have hh := runL_drop digB s.data.toList k hk
      have h2 := runL_head digB (s.data.toList.drop k) (by rw [List.length_drop, blen]; omega)
      rw [List.getD_eq_getElem?_getD, List.getElem?_drop, ← List.getD_eq_getElem?_getD, Nat.add_zero] at h2
      change _ = if digB (bt s k) = true then _ else _ at h2
      cases hp : digB (bt s k)
      · have HP := Lib.hid hp
        rw [hp] at h2
        have HH : Hid (runLen digB s = k) := by show runL digB _ = k; rw [hh, h2]; simp
        clear hp h2 hh
        go_wp2_with (go_at_call 87; rw [bt_at s k hlt]; refine (isDigit_any _ _).mono ?_; rintro e w' ⟨rfl, rfl⟩; rw [HP.out])
        go_ret
        exact ⟨ret_int (by rw [HH.out]), rfl⟩
      · have HP := Lib.hid hp
        rw [hp] at h2
        have HH : k + 1 ≤ runLen digB s := by show _ ≤ runL digB _; rw [hh, h2]; simp
        clear hp h2 hh
        go_wp2_with (go_at_call 87; rw [bt_at s k hlt]; refine (isDigit_any _ _).mono ?_; rintro e w' ⟨rfl, rfl⟩; rw [HP.out])
        go_round
        case rel => exact ⟨k + 1, HH, by go_num⟩
        case measure => simp [intOf]; omega
    · have HH : Hid (runLen digB s = k) := Lib.hid (by have := runL_le digB s.data.toList; have e := blen s; unfold runLen at *; omega)
      go_wp2
      go_ret
      exact ⟨ret_int (by rw [HH.out]), rfl⟩
end Go.Proofs.YtopmnpkjhaabcaaGreatDoor
