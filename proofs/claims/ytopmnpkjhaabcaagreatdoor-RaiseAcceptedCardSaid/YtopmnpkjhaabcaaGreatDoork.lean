/- Whole numbers from 0 to 2^40 as floats: nothing is lost. Plain laws on the model's floats. -/
import Derived.Test.YtopmnpkjhaabcaaGreatDoorL
import Derived.Laws.Cover2
import Derived.Laws.FloatArith
set_option linter.unusedVariables false
set_option linter.unusedSimpArgs false
namespace Go.Proofs.YtopmnpkjhaabcaaGreatDoor
open Go.RowKit Ieee

abbrev dbl : Format := FloatKind.f64.format
theorem log_facts (n : Nat) (h0 : 0 < n) (h : n ≤ 1099511627776) : n.log2 ≤ 40 ∧ 2 ^ 52 ≤ n * 2 ^ (52 - n.log2) ∧ n * 2 ^ (52 - n.log2) < 2 ^ 53 := by
  have h1 : n.log2 < 41 := (Nat.log2_lt (by omega)).2 (by omega)
  have h2 : 2 ^ n.log2 ≤ n := (Nat.le_log2 (by omega)).1 (Nat.le_refl _)
  have h3 : n < 2 ^ (n.log2 + 1) := (Nat.log2_lt (by omega)).1 (by omega)
  have e1 : 2 ^ n.log2 * 2 ^ (52 - n.log2) = 2 ^ 52 := by rw [← Nat.pow_add]; congr 1; omega
  have e2 : 2 ^ (n.log2 + 1) * 2 ^ (52 - n.log2) = 2 ^ 53 := by rw [← Nat.pow_add]; congr 1; omega
  have hp : 0 < 2 ^ (52 - n.log2) := Nat.pos_of_ne_zero (by simp)
  refine ⟨by omega, ?_, ?_⟩
  · rw [← e1]; exact Nat.mul_le_mul_right _ h2
  · rw [← e2]; exact Nat.mul_lt_mul_of_pos_right h3 hp
/-- The float of n, as its rung. -/
def flN (n : Nat) : Nat := if n = 0 then 0 else (n.log2 + 1022) * 2 ^ 52 + n * 2 ^ (52 - n.log2)
theorem cut_none (way : Toward) (k : Nat) : way.cut false k 0 = k := by
  unfold Toward.cut
  simp
  cases way <;> simp <;> omega
theorem rung_le {L k : Nat} (hL : L ≤ 40) (h2 : k < 2 ^ 53) : (L + 1022) * 2 ^ 52 + k ≤ 2047 * 2 ^ 52 := by
  have e : 2 ^ 53 = 2 * 2 ^ 52 := rfl
  rw [e] at h2
  generalize 2 ^ 52 = B at *
  have h3 : (L + 1022) * B + k ≤ (L + 1024) * B := by rw [Nat.add_mul, Nat.add_mul]; omega
  exact Nat.le_trans h3 (Nat.mul_le_mul_right _ (by omega))
theorem rung_div {L k : Nat} (h1 : 2 ^ 52 ≤ k) (h2 : k < 2 ^ 53) : ((L + 1022) * 2 ^ 52 + k) / 2 ^ 52 = L + 1023 ∧ ((L + 1022) * 2 ^ 52 + k) % 2 ^ 52 = k - 2 ^ 52 := by
  have e : 2 ^ 53 = 2 * 2 ^ 52 := rfl
  rw [e] at h2
  have hB : 0 < 2 ^ 52 := by decide
  generalize 2 ^ 52 = B at *
  have hk : k = B + (k - B) := by omega
  have hd : (k - B) / B = 0 := Nat.div_eq_of_lt (by omega)
  have hm : (k - B) % B = k - B := Nat.mod_eq_of_lt (by omega)
  have e2 : (L + 1022) * B + k = (k - B) + (L + 1023) * B := by rw [Nat.add_mul, Nat.add_mul]; omega
  rw [e2, Nat.add_mul_div_right _ _ hB, Nat.add_mul_mod_self_right, hd, hm]
  omega
theorem rung_lt {L k : Nat} (hL : L ≤ 40) (h2 : k < 2 ^ 53) : (L + 1022) * 2 ^ 52 + k < 2047 * 2 ^ 52 := by
  have e : 2 ^ 53 = 2 * 2 ^ 52 := rfl
  rw [e] at h2
  generalize 2 ^ 52 = B at *
  have h3 : (L + 1022) * B + k < (L + 1024) * B := by rw [Nat.add_mul, Nat.add_mul]; omega
  exact Nat.lt_of_lt_of_le h3 (Nat.mul_le_mul_right _ (by omega))
theorem nearest_fl (n : Nat) (h : n ≤ 1099511627776) : dbl.nearest false n 0 = flN n := by
  unfold Format.nearest flN
  by_cases h0 : n = 0
  · rw [if_pos h0, if_pos h0]; rfl
  · rw [if_neg h0, if_neg h0]
    obtain ⟨hl, h1, h2⟩ := log_facts n (by omega) h
    have e1 : dbl.leastPlace = -1074 := by decide
    have e2 : dbl.fractionBits = 52 := rfl
    have e3 : dbl.binade = 2 ^ 52 := rfl
    simp only [e1, e2, e3]
    have e4 : max ((0 : Int) + n.log2 - ((52 : Nat) : Int)) (-1074) = (n.log2 : Int) - 52 := by omega
    rw [e4]
    have e5 : ((0 : Int) - ((n.log2 : Int) - 52)).toNat = 52 - n.log2 := by omega
    have e6 : (((n.log2 : Int) - 52) - 0).toNat = 0 := by omega
    have e7 : (((n.log2 : Int) - 52) - (-1074)).toNat = n.log2 + 1022 := by omega
    rw [e5, e6, e7, cut_none, Nat.shiftLeft_eq]
    have e8 : dbl.infRung = 2047 * 2 ^ 52 := by decide
    unfold Format.word
    rw [if_neg (by simp), e8]
    exact Nat.min_eq_left (rung_le (by omega) h2)
theorem read_fl (n : Nat) (h : n ≤ 1099511627776) (h0 : n ≠ 0) : dbl.read (flN n) = .number false (n * 2 ^ (52 - n.log2)) ((n.log2 : Int) - 52) := by
  obtain ⟨hl, h1, h2⟩ := log_facts n (by omega) h
  have e1 : dbl.leastPlace = -1074 := by decide
  have e3 : dbl.binade = 2 ^ 52 := rfl
  have e8 : dbl.infRung = 2047 * 2 ^ 52 := by decide
  have e9 : dbl.signWeight = 2 ^ 63 := by decide
  generalize hk : n * 2 ^ (52 - n.log2) = k at *
  have hf : flN n = (n.log2 + 1022) * 2 ^ 52 + k := by unfold flN; rw [if_neg h0, hk]
  have r1 := rung_lt hl h2
  have r2 := rung_div (L := n.log2) h1 h2
  rw [← hf] at r1 r2
  have hbig : 2047 * 2 ^ 52 < 2 ^ 63 := by decide
  have hlt : flN n < 2 ^ 63 := Nat.lt_trans r1 hbig
  have hge : ¬ flN n < 2 ^ 52 := by
    have : 2 ^ 52 ≤ flN n := by rw [hf]; exact Nat.le_trans h1 (Nat.le_add_left _ _)
    exact Nat.not_lt.2 this
  unfold Format.read
  simp only [e1, e3, e8, e9]
  rw [Nat.mod_eq_of_lt hlt, Nat.div_eq_of_lt hlt]
  rw [if_neg hge, if_pos r1]
  have a1 : 2 ^ 52 + (k - 2 ^ 52) = k := Nat.add_sub_cancel' h1
  have a2 : (-1074 : Int) + ((n.log2 + 1023 - 1 : Nat) : Int) = (n.log2 : Int) - 52 := by omega
  rw [r2.1, r2.2, a1, a2]
  rfl
theorem read_zero : dbl.read 0 = .number false 0 (-1074) := by decide
theorem floatOfInt_fl (n : Nat) (h : n ≤ 1099511627776) : floatOfInt .f64 (n : Int) = flN n := by
  rw [← nearest_fl n h]
  rfl

theorem signed_pos (m up : Nat) : signed false m up = ((m * 2 ^ up : Nat) : Int) := by
  unfold signed
  simp [Nat.shiftLeft_eq]
theorem fl_ge0 (n : Nat) (h : n ≤ 1099511627776) : (dbl.order (flN n) 0 == some .gt || dbl.order (flN n) 0 == some .eq) = true := by
  by_cases h0 : n = 0
  · subst h0; decide
  · obtain ⟨hl, h1, h2⟩ := log_facts n (by omega) h
    unfold Format.order
    rw [read_fl n h h0, read_zero]
    simp only [Datum.order, signed_pos, Nat.zero_mul]
    have hpos : 0 < n * 2 ^ (52 - n.log2) * 2 ^ ((n.log2 : Int) - 52 - min ((n.log2 : Int) - 52) (-1074)).toNat := Nat.mul_pos (Nat.mul_pos (by omega) (Nat.pos_of_ne_zero (by simp))) (Nat.pos_of_ne_zero (by simp))
    generalize n * 2 ^ (52 - n.log2) * 2 ^ ((n.log2 : Int) - 52 - min ((n.log2 : Int) - 52) (-1074)).toNat = z at *
    have hc : compare ((z : Nat) : Int) ((0 : Nat) : Int) = .gt := by
      rw [Int.compare_eq_gt]
      omega
    rw [hc]
    rfl
theorem fl_top : flN 1099511627776 = 4787326403894837248 := by decide
theorem fl_le (n : Nat) (h : n ≤ 1099511627776) : (dbl.order (flN n) 4787326403894837248 == some .lt || dbl.order (flN n) 4787326403894837248 == some .eq) = true := by
  rw [← fl_top]
  have ht := read_fl 1099511627776 (Nat.le_refl _) (by omega)
  have hlog : Nat.log2 1099511627776 = 40 := by decide
  rw [hlog] at ht
  by_cases h0 : n = 0
  · subst h0; decide
  · obtain ⟨hl, h1, h2⟩ := log_facts n (by omega) h
    unfold Format.order
    rw [read_fl n h h0, ht]
    simp only [Datum.order, signed_pos]
    have e1 : min ((n.log2 : Int) - 52) (((40 : Nat) : Int) - 52) = (n.log2 : Int) - 52 := by omega
    have e2 : ((n.log2 : Int) - 52 - ((n.log2 : Int) - 52)).toNat = 0 := by omega
    have e3 : (((40 : Nat) : Int) - 52 - ((n.log2 : Int) - 52)).toNat = 40 - n.log2 := by omega
    rw [e1, e2, e3, Nat.pow_zero, Nat.mul_one]
    have e4 : 1099511627776 * 2 ^ (52 - 40) * 2 ^ (40 - n.log2) = 1099511627776 * 2 ^ (52 - n.log2) := by
      rw [Nat.mul_assoc, ← Nat.pow_add]
      congr 2
      omega
    rw [e4]
    have hle : n * 2 ^ (52 - n.log2) ≤ 1099511627776 * 2 ^ (52 - n.log2) := Nat.mul_le_mul_right _ h
    generalize n * 2 ^ (52 - n.log2) = x at *
    generalize 1099511627776 * 2 ^ (52 - n.log2) = y at *
    rcases Nat.lt_or_eq_of_le hle with hlt | rfl
    · have hc : compare (x : Int) (y : Int) = .lt := by
        rw [Int.compare_eq_lt]
        omega
      rw [hc]; rfl
    · have hc : compare (x : Int) (x : Int) = .eq := by
        rw [Int.compare_eq_eq]
      rw [hc]; rfl
theorem fl_same (n : Nat) (h : n ≤ 1099511627776) : (dbl.order (flN n) (flN n) != some .eq) = false := by
  by_cases h0 : n = 0
  · subst h0; decide
  · unfold Format.order
    rw [read_fl n h h0]
    simp only [Datum.order]
    have hc : ∀ z : Int, compare z z = .eq := fun z => by rw [Int.compare_eq_eq]
    rw [hc]; rfl
theorem fl_integral (n : Nat) (h : n ≤ 1099511627776) : (dbl.read (flN n)).integral .zero = .number false n 0 := by
  by_cases h0 : n = 0
  · subst h0; decide
  · obtain ⟨hl, h1, h2⟩ := log_facts n (by omega) h
    rw [read_fl n h h0]
    unfold Datum.integral Toward.cut
    have e1 : ((n.log2 : Int) - 52).toNat = 0 := by omega
    have e2 : (-((n.log2 : Int) - 52)).toNat = 52 - n.log2 := by omega
    simp only [e1, e2, Nat.shiftLeft_eq, Nat.pow_zero, Nat.mul_one, Bool.false_eq_true, Bool.toNat_false, Nat.add_zero, Nat.one_mul]
    have hk : (n * 2 ^ (52 - n.log2)).log2 = 52 := by
      have hne : n * 2 ^ (52 - n.log2) ≠ 0 := Nat.ne_of_gt (Nat.lt_of_lt_of_le (by decide) h1)
      have a := (Nat.le_log2 hne).2 h1
      have b := (Nat.log2_lt hne).2 h2
      omega
    rw [hk, show min (52 - n.log2) (52 + 2) = 52 - n.log2 from by omega]
    rw [Nat.mul_div_cancel _ (Nat.pos_of_ne_zero (by simp))]
theorem fl_toInt (n : Nat) (h : n ≤ 1099511627776) : floatToIntVal .f64 (flN n) .i64 = some (n : Int) := by
  unfold floatToIntVal
  have hi : (FloatKind.f64.decode (flN n)).toInt .zero = some (n : Int) := by
    unfold Datum.toInt
    rw [show (FloatKind.f64.decode (flN n)).integral .zero = .number false n 0 from fl_integral n h]
    simp only [signed_pos, Nat.pow_zero, Nat.mul_one]
  rw [hi]
  simp only
  rw [if_pos]
  have e1 : IntKind.i64.min = -9223372036854775808 := by decide
  have e2 : IntKind.i64.max = 9223372036854775807 := by decide
  rw [e1, e2]
  omega
end Go.Proofs.YtopmnpkjhaabcaaGreatDoor
