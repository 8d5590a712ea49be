/- resp.done walked; what is told of it, in plain numbers. -/
import Derived.Test.YtopmnpkjhaabcaaGreatDoorr
set_option linter.unusedVariables false
set_option linter.unusedSimpArgs false
namespace Go.Proofs.YtopmnpkjhaabcaaGreatDoor
open Go.RowKit

def doneGo (base : Int) (l : List Ld) : Nat → Int → Int
  | 0, w => w
  | f + 1, w => if sumL base l w ≤ w then w else doneGo base l f (sumL base l w)
def doneF (base : Int) (l : List Ld) (w : Int) : Int := doneGo base l 1000001 w
/-- What holds at the head of the round. -/
def DoneSt (base : Int) (l : List Ld) (L x0 : Int) (w0 : World) (w : Int) (W : World) : Prop :=
  x0 ≤ w ∧ w ≤ L ∧ (∃ f : Nat, 1000001 ≤ f + w ∧ doneF base l x0 = doneGo base l f w) ∧ Below w0.heap.size w0 W
theorem DoneSt.now {base : Int} {l : List Ld} {L x0 : Int} {w0 W : World} {w : Int} (h : DoneSt base l L x0 w0 w W) (hL : L ≤ 1000000) (h1 : sumL base l w ≤ w) : doneF base l x0 = w := by
  obtain ⟨g1, g2, ⟨f, g3, g4⟩, g5⟩ := h
  obtain ⟨f, rfl⟩ : ∃ g, f = g + 1 := ⟨f - 1, by omega⟩
  rw [g4, doneGo, if_pos h1]
theorem DoneSt.next {base : Int} {l : List Ld} {L x0 : Int} {w0 W W1 : World} {w : Int} (h : DoneSt base l L x0 w0 w W) (hL : L ≤ 1000000) (hb : Below W.heap.size W W1) (h1 : ¬ sumL base l w ≤ w) (h2 : sumL base l w ≤ L) : DoneSt base l L x0 w0 (sumL base l w) W1 := by
  obtain ⟨g1, g2, ⟨f, g3, g4⟩, g5⟩ := h
  obtain ⟨f, rfl⟩ : ∃ g, f = g + 1 := ⟨f - 1, by omega⟩
  refine ⟨by omega, h2, ⟨f, by omega, ?_⟩, below_tr g5 hb⟩
  rw [g4, doneGo, if_neg h1]
/-- Where it ends, if no more than L comes in any time up to L. -/
theorem doneGo_end (base : Int) (l : List Ld) (L : Int) (hb : ∀ x, 0 ≤ x → x ≤ L → sumL base l x ≤ L) (f : Nat) (w : Int) (h0 : 0 ≤ w) (h1 : w ≤ L) (hf : L < f + w) : w ≤ doneGo base l f w ∧ doneGo base l f w ≤ L ∧ sumL base l (doneGo base l f w) ≤ doneGo base l f w := by
  induction f generalizing w with
  | zero => exfalso; omega
  | succ f ih =>
    rw [doneGo]
    split
    · exact ⟨Int.le_refl _, h1, by assumption⟩
    · have := ih (sumL base l w) (by omega) (hb w h0 h1) (by omega)
      omega
theorem doneF_end {base : Int} {l : List Ld} {L : Int} (hb : ∀ x, 0 ≤ x → x ≤ L → sumL base l x ≤ L) (hL : L ≤ 1000000) {w : Int} (h0 : 0 ≤ w) (h1 : w ≤ L) : w ≤ doneF base l w ∧ doneF base l w ≤ L ∧ sumL base l (doneF base l w) ≤ doneF base l w :=
  doneGo_end base l L hb 1000001 w h0 h1 (by omega)
set_option maxRecDepth 100000 in
theorem done_any (base : Int) (v : Value) (l : List Ld) (L x0 : Int) (w : World) (hl : RdL w v l) (hok : OkL l) (h0 : 0 ≤ base) (h1 : base ≤ 1000000) (hb : ∀ x, 0 ≤ x → x ≤ L → sumL base l x ≤ L) (hL : L ≤ 1000000) (h2 : 0 ≤ x0) (h3 : x0 ≤ L) :
    Calls Tryz.prog 56 #[.int .i64 base, v, .int .i64 x0] w fun e w' => e = .returned (.int .i64 (doneF base l x0)) ∧ Below w.heap.size w w' := by
  have HS := Lib.hid (fun x (h2 : 0 ≤ x) (h3 : x ≤ 1000000) W (h : Below w.heap.size w W) => fixSum_yes base v l x W (hl.kept CLoad.mono h) hok h0 h1 h2 h3)
  obtain ⟨A, c, rfl, hle, hat⟩ := hl.at
  have HB := Lib.hid hb
  clear hl hok hat hb
  go_enter Tryz.func56, Tryz.ntmps56
  go_wp2
  go_loopw [2] (fun y W => ∃ x : Int, y = .int .i64 x ∧ Hid (DoneSt base l L x0 w x W)) (fun y _ => (1000000 - intOf y).toNat)
  case atStart => exact ⟨x0, rfl, Lib.hid ⟨Int.le_refl _, h3, ⟨1000001, by omega, rfl⟩, Below.refl _ _⟩⟩
  case round =>
    obtain ⟨x, rfl, HST⟩ := hrel
    obtain ⟨g1, g2, -, g4⟩ := HST.out
    have HSX := Lib.hid (HS.out x (by omega) (by omega) wr g4)
    have g5 := HB.out x (by omega) g2
    have HNOW := Lib.hid (fun h => HST.out.now hL h)
    have HNX := Lib.hid (fun W1 hb h => HST.out.next (W1 := W1) hL hb h g5)
    have HBL := Lib.hid g4
    clear g4 HST
    generalize sumL base l x = n at *
    by_cases hn : n ≤ x
    · have HR := Lib.hid (HNOW.out hn)
      go_wp2_with (go_at_call 70; refine HSX.out.mono ?_; rintro e w1 ⟨rfl, hb1⟩)
      go_ret
      exact ⟨ret_int (by rw [HR.out]), below_tr HBL.out hb1⟩
    · go_wp2_with (go_at_call 70; refine HSX.out.mono ?_; rintro e w1 ⟨rfl, hb1⟩)
      go_roundw
      case rel => exact ⟨n, rfl, Lib.hid (HNX.out _ hb1 hn)⟩
      case measure => simp [intOf]; omega
/-- More time, no less that comes in it. -/
theorem ceilD_mono {a a' b : Int} (h : a ≤ a') (hb : 1 ≤ b) : ceilD a b ≤ ceilD a' b := by
  have h1 := Int.ediv_le_ediv (show 0 < b by omega) h
  have h2 := Int.ediv_mul_le a (show b ≠ 0 by omega)
  have h3 := Int.ediv_mul_le a' (show b ≠ 0 by omega)
  unfold ceilD
  split
  · rename_i h4
    split
    · omega
    · rename_i h5
      have h6 : a' / b * b = a' := by omega
      by_cases h7 : a / b = a' / b
      · rw [h7] at h4; omega
      · omega
  · split <;> omega
/-- The number of periods that begin in a time. -/
theorem lt_ceilD {a b q : Int} (hb : 1 ≤ b) : q * b < a ↔ q < ceilD a b := by
  have h2 := Int.ediv_mul_le a (show b ≠ 0 by omega)
  have h3 := Int.lt_ediv_add_one_mul_self a (show 0 < b by omega)
  unfold ceilD
  constructor
  · intro h
    have h4 : q * b < (a / b + 1) * b := by omega
    have h5 := Int.lt_of_mul_lt_mul_right h4 (by omega)
    split
    · exact h5
    · rename_i h6
      have h7 : q * b < a / b * b := by omega
      exact Int.lt_of_mul_lt_mul_right h7 (by omega)
  · intro h
    split at h
    · rename_i h6
      have h4 : q * b ≤ a / b * b := Int.mul_le_mul_of_nonneg_right (by omega) (by omega)
      omega
    · have h4 : q * b < a / b * b := Int.mul_lt_mul_of_pos_right h (by omega)
      omega
theorem sumK_shift (base d : Int) (l : List Ld) (w : Int) (k : Nat) : sumK (base + d) l w k = sumK base l w k + d := by
  induction k with
  | zero => rfl
  | succ k ih => simp only [sumK, ih]; omega
theorem sumL_shift (base d : Int) (l : List Ld) (w : Int) : sumL (base + d) l w = sumL base l w + d := sumK_shift base d l w _
theorem sumK_mono {base : Int} {l : List Ld} (hok : OkL l) {w w' : Int} (h : w ≤ w') (k : Nat) (hk : k ≤ l.length) : sumK base l w k ≤ sumK base l w' k := by
  induction k with
  | zero => exact Int.le_refl _
  | succ k ih =>
    have h1 := ih (by omega)
    have h2 := ceilD_mono h (hok.t k (by omega)).1
    have h3 := Int.mul_le_mul_of_nonneg_left h2 (hok.c k (by omega)).1
    simp only [sumK]
    omega
theorem sumL_mono {base : Int} {l : List Ld} (hok : OkL l) {w w' : Int} (h : w ≤ w') : sumL base l w ≤ sumL base l w' := sumK_mono hok h _ (Nat.le_refl _)
theorem sumK_snoc (base : Int) (l : List Ld) (x : Ld) (w : Int) (k : Nat) (hk : k ≤ l.length) : sumK base (l ++ [x]) w k = sumK base l w k := by
  induction k with
  | zero => rfl
  | succ k ih => simp only [sumK, ih (by omega)]; rw [gL_snoc_lt (by omega)]
theorem sumL_snoc (base : Int) (l : List Ld) (x : Ld) (w : Int) : sumL base (l ++ [x]) w = sumL base l w + x.2 * ceilD w x.1 := by
  unfold sumL
  rw [List.length_append, List.length_singleton, sumK, sumK_snoc _ _ _ _ _ (Nat.le_refl _), gL_snoc_eq]
theorem leastGo_some (base : Int) (l : List Ld) (f : Nat) (w x : Int) (h1 : 1 ≤ w) (h2 : w ≤ 1000000) (h : leastGo base l f w = some x) : w ≤ x ∧ x ≤ 1000000 ∧ sumL base l x = x := by
  induction f generalizing w with
  | zero => simp [leastGo] at h
  | succ f ih =>
    rw [leastGo] at h
    split at h
    · rename_i h3
      cases h
      exact ⟨Int.le_refl _, h2, h3⟩
    · split at h
      · cases h
      · have := ih (sumL base l w) (by omega) (by omega) h
        omega
theorem leastF_some {base : Int} {l : List Ld} {x : Int} (h : leastF base l = some x) : 1 ≤ x ∧ x ≤ 1000000 ∧ sumL base l x = x := leastGo_some base l _ 1 x (by omega) (by omega) h
end Go.Proofs.YtopmnpkjhaabcaaGreatDoor
