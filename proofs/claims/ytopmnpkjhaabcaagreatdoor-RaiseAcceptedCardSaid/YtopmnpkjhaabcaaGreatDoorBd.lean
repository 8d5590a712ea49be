/- taskmasterref10, taskmasterref11 walked, at loads that may be. -/
import Derived.Test.YtopmnpkjhaabcaaGreatDoorBc
set_option linter.unusedVariables false
set_option linter.unusedSimpArgs false
namespace Go.Proofs.YtopmnpkjhaabcaaGreatDoor
open Go.RowKit

theorem rmay10_yes (base : Int) (v : Value) (l : List Ld) (w : World) (hl : RdL w v l) (hok : OkL l) (h0 : 0 ≤ base) (h1 : base ≤ 1000000) :
    Calls Tryz.prog 62 #[.int .i64 base, v] w fun e w' => e = .returned (.bool true) ∧ w' = w := by
  have h64 := hok.n
  obtain ⟨A, c, rfl, hle, hat⟩ := hl.at
  have HAT := Lib.hid hat
  have HOK := Lib.hid hok
  clear hl hok hat
  go_enter Tryz.func62, Tryz.ntmps62
  go_wp2
  go_loop [5] (fun i => ∃ k : Nat, k ≤ l.length ∧ i = .int .i64 k) (fun i => l.length - (intOf i).toNat)
  case atStart => exact ⟨0, Nat.zero_le _, rfl⟩
  case round =>
    obtain ⟨k, hk, rfl⟩ := hrel
    by_cases hlt : k < l.length
    · obtain ⟨b, o, rfl, hc1, hc2⟩ := HAT.out k hlt
      obtain ⟨t1, t2⟩ := HOK.out.t k hlt
      obtain ⟨t3, t4⟩ := HOK.out.c k hlt
      go_wp2
      go_round
      case rel => exact ⟨k + 1, hlt, by go_num⟩
      case measure => simp [intOf]; omega
    · obtain rfl : k = l.length := by omega
      go_wp2
      go_ret
      exact ⟨rfl, rfl⟩
/-- A quotient, rounded up, as the document writes it. -/
theorem ceil_doc {x T : Int} (hx : 0 ≤ x) (hT : 1 ≤ T) : (x + T - 1) / T = ceilD x T := by
  have h2 := Int.ediv_mul_le x (show T ≠ 0 by omega)
  have h3 := Int.lt_ediv_add_one_mul_self x (show 0 < T by omega)
  have h4 : (x / T + 1) * T = x / T * T + T := by rw [Int.add_mul]; omega
  unfold ceilD
  have key : ∀ q, q * T ≤ x + T - 1 → x + T - 1 < (q + 1) * T → (x + T - 1) / T = q := fun q a b => by
    have e1 := (Int.le_ediv_iff_mul_le (show 0 < T by omega)).2 a
    have e2 := (Int.ediv_lt_iff_lt_mul (show 0 < T by omega)).2 b
    omega
  have h5 : (x / T + 1 + 1) * T = x / T * T + T + T := by rw [Int.add_mul, Int.add_mul]; omega
  split
  · first
      | exact key (x / T) (by omega) (by rw [h4]; omega)
      | exact key (x / T + 1) (by rw [h4]; omega) (by rw [h5]; omega)
  · first
      | exact key (x / T) (by omega) (by rw [h4]; omega)
      | exact key (x / T + 1) (by rw [h4]; omega) (by rw [h5]; omega)
set_option maxRecDepth 100000 in
theorem rsum10_any (base : Int) (v : Value) (l : List Ld) (x : Int) (w : World) (hl : RdL w v l) (hok : OkL l) (h0 : 0 ≤ base) (h1 : base ≤ 1000000) (h2 : 0 ≤ x) (h3 : x ≤ 1000000) :
    Calls Tryz.prog 63 #[.int .i64 base, v, .int .i64 x] w fun e w' => e = .returned (.int .i64 (sumL base l x)) ∧ Below w.heap.size w w' := by
  have h64 := hok.n
  obtain ⟨A, c, rfl, hle, hat⟩ := hl.at
  have HOK := Lib.hid hok
  have HAT := Lib.hid hat
  have HSB := Lib.hid (fun k hk => sumK_bound hok h0 h2 h3 k hk)
  have HLB := Lib.hid (fun k (hk : k < l.length) => load_bound hok h2 h3 hk)
  clear hl hok hat
  go_enter Tryz.func63, Tryz.ntmps63
  go_wp2
  go_loopw [7, 8] (fun s i W => ∃ k : Nat, k ≤ l.length ∧ i = .int .i64 k ∧ s = .int .i64 (sumK base l x k) ∧ Hid (Below w.heap.size w W)) (fun _ i _ => l.length - (intOf i).toNat)
  case atStart => exact ⟨0, Nat.zero_le _, rfl, rfl, Lib.hid (Below.refl _ _)⟩
  case round =>
    obtain ⟨k, hk, rfl, rfl, HB⟩ := hrel
    by_cases hlt : k < l.length
    · obtain ⟨b, o, rfl, hc1, hc2⟩ := HAT.out k hlt
      have hd1 := cell_kept HB.out hc1
      have hd2 := cell_kept HB.out hc2
      obtain ⟨t1, t2⟩ := HOK.out.t k hlt
      obtain ⟨t3, t4⟩ := HOK.out.c k hlt
      obtain ⟨s1, s2⟩ := HSB.out k hk
      obtain ⟨m1, m2, m3, m4⟩ := HLB.out k hlt
      have HS : Hid (sumK base l x (k + 1) = sumK base l x k + ceilD x (gL l k).1 * (gL l k).2) := Lib.hid (by rw [Int.mul_comm]; rfl)
      have hq := ceil_doc h2 t1
      rw [Int.mul_comm] at m3 m4
      have hne : ¬ (gL l k).1 = 0 := by omega
      have hki : (k : Int) < (l.length : Int) := by omega
      clear hc1 hc2
      generalize (gL l k).1 = T at *
      generalize (gL l k).2 = C at *
      have w1 : IntKind.i64.wrap (x + T) = x + T := IntWalk.i64_in _ (by omega)
      have w2 : IntKind.i64.wrap (x + T - 1) = x + T - 1 := IntWalk.i64_in _ (by omega)
      have hz : (x + T - 1).tdiv T = ceilD x T := by rw [Int.tdiv_eq_ediv_of_nonneg (by omega), hq]
      have w3 : IntKind.i64.wrap (ceilD x T) = ceilD x T := IntWalk.i64_in _ (by omega)
      have w4 : IntKind.i64.wrap (ceilD x T * C) = ceilD x T * C := IntWalk.i64_in _ (by omega)
      have w5 : IntKind.i64.wrap (sumK base l x k + ceilD x T * C) = sumK base l x k + ceilD x T * C := IntWalk.i64_in _ (by omega)
      generalize ceilD x T = q at *
      go_wp2
      go_quiet (fail)
      go_wp2
      go_roundw
      case rel => exact ⟨k + 1, hlt, by go_num, by rw [HS.out], Lib.hid (below_drewN HB.out _)⟩
      case measure => simp [intOf]; omega
    · obtain rfl : k = l.length := by omega
      go_wp2
      go_ret
      exact ⟨rfl, HB.out⟩
/-- What holds at the head of the round of taskmasterref10.Least. -/
def RLSt (base : Int) (l : List Ld) (w0 : World) (x : Int) (W : World) : Prop :=
  LeastSt base l w0 x W ∨ (1000000 < x ∧ x ≤ 9000000000000000 ∧ leastF base l = none ∧ Below w0.heap.size w0 W)
theorem sumL_top {l : List Ld} (hok : OkL l) {base w : Int} (hb0 : 0 ≤ base) (hb1 : base ≤ 1000000) (h0 : 0 ≤ w) (h1 : w ≤ 1000000) : 0 ≤ sumL base l w ∧ sumL base l w ≤ 64000001000000 := by
  have h2 := sumK_bound hok hb0 h0 h1 l.length (Nat.le_refl _)
  have h3 := hok.n
  unfold sumL
  omega
set_option maxRecDepth 100000 in
theorem rleast_any (base : Int) (v : Value) (l : List Ld) (w : World) (hl : RdL w v l) (hok : OkL l) (h0 : 0 ≤ base) (h1 : base ≤ 1000000) :
    Calls Tryz.prog 49 #[.int .i64 base, v] w fun e w' => e = .returned (.tuple #[.int .i64 ((leastF base l).getD 0), .bool (leastF base l).isSome]) ∧ Below w.heap.size w w' := by
  have HMY := Lib.hid (rmay10_yes base v l w hl hok h0 h1)
  have HSU := Lib.hid (fun W (h : Below w.heap.size w W) x (h2 : 0 ≤ x) (h3 : x ≤ 1000000) => rsum10_any base v l x W (hl.kept CLoad.mono h) hok h0 h1 h2 h3)
  have HTP := Lib.hid (fun x (h2 : 0 ≤ x) (h3 : x ≤ 1000000) => sumL_top hok h0 h1 h2 h3)
  obtain ⟨A, c, rfl, hle, hat⟩ := hl.at
  clear hl hok hat h0 h1
  go_enter Tryz.func49, Tryz.ntmps49
  go_wp2_with (go_at_call 62; refine HMY.out.mono ?_; rintro e w1 ⟨rfl, hw⟩; obtain rfl : w = w1 := hw.symm; clear hw)
  go_loopw [6] (fun wv W => ∃ x : Int, wv = .int .i64 x ∧ Hid (RLSt base l w x W)) (fun wv _ => (1000002 - intOf wv).toNat)
  case atStart => exact ⟨1, rfl, Lib.hid (.inl ⟨by omega, by omega, ⟨1000001, by omega, rfl⟩, Below.refl _ _⟩)⟩
  case round =>
    obtain ⟨x, rfl, HST⟩ := hrel
    by_cases hx : x ≤ 1000000
    · have HL : Hid (LeastSt base l w x wr) := Lib.hid (by
        rcases HST.out with h | h
        · exact h
        · exact absurd hx (by omega))
      have hx1 : 1 ≤ x := HL.out.1
      have HNOW := Lib.hid HL.out.now
      have HCA := Lib.hid (HSU.out wr HL.out.2.2.2 x (by omega) hx)
      obtain ⟨p0, p1⟩ := HTP.out x (by omega) hx
      have HN1 : Hid (∀ W1, Below wr.heap.size wr W1 → ¬ sumL base l x = x → ¬ sumL base l x < x → RLSt base l w (sumL base l x) W1) := Lib.hid (fun W1 hb g1 g2 => by
        by_cases g3 : 1000000 < sumL base l x
        · refine .inr ⟨g3, by omega, ?_, below_tr HL.out.2.2.2 hb⟩
          rw [HNOW.out, if_neg g1, if_pos (.inr g3)]
        · exact .inl (HL.out.next g1 g2 g3 hb))
      have HBW := Lib.hid HL.out.2.2.2
      by_cases h2 : sumL base l x = x
      · have HF : Hid (leastF base l = some x) := Lib.hid (by rw [HNOW.out, if_pos h2])
        have k2 : (sumL base l x == x) = true := by simp [h2]
        clear h2
        go_wp2_with (go_at_call 63; refine HCA.out.mono ?_; rintro e w1 ⟨rfl, hb1⟩)
        go_ret2
        exact ⟨by rw [HF.out]; rfl, below_tr HBW.out hb1⟩
      · have k2 : (sumL base l x == x) = false := by simp [h2]
        by_cases h3 : sumL base l x < x
        · have HF : Hid (leastF base l = none) := Lib.hid (by rw [HNOW.out, if_neg h2, if_pos (.inl h3)])
          clear h2
          go_wp2_with (go_at_call 63; refine HCA.out.mono ?_; rintro e w1 ⟨rfl, hb1⟩)
          go_ret2
          exact ⟨by rw [HF.out]; rfl, below_tr HBW.out hb1⟩
        · have HN2 : Hid (∀ W1, Below wr.heap.size wr W1 → RLSt base l w (sumL base l x) W1) := Lib.hid (fun W1 hb => HN1.out W1 hb h2 h3)
          have hgt : x < sumL base l x := by omega
          clear h2 HN1 HNOW
          generalize sumL base l x = n at *
          go_wp2_with (go_at_call 63; refine HCA.out.mono ?_; rintro e w1 ⟨rfl, hb1⟩)
          go_roundw
          case rel => exact ⟨n, rfl, Lib.hid (HN2.out _ hb1)⟩
          case measure => simp [intOf]; omega
    · have HE : Hid (leastF base l = none ∧ Below w.heap.size w wr) := Lib.hid (by
        rcases HST.out with h | h
        · exact absurd h.2.1 hx
        · exact ⟨h.2.2.1, h.2.2.2⟩)
      go_wp2
      go_ret2
      exact ⟨by rw [HE.out.1]; rfl, HE.out.2⟩
end Go.Proofs.YtopmnpkjhaabcaaGreatDoor
