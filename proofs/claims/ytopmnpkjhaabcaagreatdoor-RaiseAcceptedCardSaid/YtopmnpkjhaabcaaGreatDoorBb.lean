/- taskmasterref2 walked: which cache sets there are, and how many. -/
import Derived.Test.YtopmnpkjhaabcaaGreatDoorwa
set_option linter.unusedVariables false
set_option linter.unusedSimpArgs false
namespace Go.Proofs.YtopmnpkjhaabcaaGreatDoor
open Go.RowKit

/-- Is a bit there? -/
def bitB (x : Int) (i : Nat) : Bool := decide (x.toNat / 2 ^ i % 2 = 1)
def setN (x : Int) (k : Nat) : List Nat := (List.range k).filter (bitB x)
theorem setN_succ (x : Int) (k : Nat) : setN x (k + 1) = setN x k ++ if bitB x k then [k] else [] := by
  unfold setN
  rw [List.range_succ, List.filter_append]
  cases h : bitB x k <;> simp [h]
theorem setN_len (x : Int) (k : Nat) : (setN x (k + 1)).length = (setN x k).length + x.toNat / 2 ^ k % 2 := by
  rw [setN_succ]
  unfold bitB
  by_cases h : x.toNat / 2 ^ k % 2 = 1
  · simp [h]
  · have : x.toNat / 2 ^ k % 2 = 0 := by omega
    simp [this]
theorem pop8_mod (y : Nat) : pop8 (y % 256) = y % 2 + y / 2 % 2 + y / 4 % 2 + y / 8 % 2 + y / 16 % 2 + y / 32 % 2 + y / 64 % 2 + y / 128 % 2 := by unfold pop8; omega
theorem setN_8 (x : Int) (k c : Nat) (hc : 2 ^ k = c) : (setN x (k + 8)).length = (setN x k).length + pop8 (x.toNat / c % 256) := by
  have e := fun j => setN_len x (k + j)
  have e0 := e 0; have e1 := e 1; have e2 := e 2; have e3 := e 3; have e4 := e 4; have e5 := e 5; have e6 := e 6; have e7 := e 7
  have hp : ∀ j, x.toNat / 2 ^ (k + j) = x.toNat / c / 2 ^ j := fun j => by rw [Nat.pow_add, hc, Nat.div_div_eq_div_mul]
  rw [hp] at e0 e1 e2 e3 e4 e5 e6 e7
  rw [pop8_mod]
  generalize x.toNat / c = y at *
  simp only [show (2 : Nat) ^ 0 = 1 from rfl, show (2 : Nat) ^ 1 = 2 from rfl, show (2 : Nat) ^ 2 = 4 from rfl, show (2 : Nat) ^ 3 = 8 from rfl, show (2 : Nat) ^ 4 = 16 from rfl, show (2 : Nat) ^ 5 = 32 from rfl, show (2 : Nat) ^ 6 = 64 from rfl, show (2 : Nat) ^ 7 = 128 from rfl, Nat.div_one, Nat.add_zero, Nat.add_assoc, Nat.reduceAdd] at e0 e1 e2 e3 e4 e5 e6 e7
  omega
theorem setN_pop (x : Int) : (setN x 64).length = popN x.toNat := by
  have h0 : (setN x 8).length = (setN x 0).length + pop8 (x.toNat / 1 % 256) := setN_8 x 0 1 rfl
  have h1 : (setN x 16).length = (setN x 8).length + pop8 (x.toNat / 256 % 256) := setN_8 x 8 256 rfl
  have h2 : (setN x 24).length = (setN x 16).length + pop8 (x.toNat / 65536 % 256) := setN_8 x 16 65536 rfl
  have h3 : (setN x 32).length = (setN x 24).length + pop8 (x.toNat / 16777216 % 256) := setN_8 x 24 16777216 rfl
  have h4 : (setN x 40).length = (setN x 32).length + pop8 (x.toNat / 4294967296 % 256) := setN_8 x 32 4294967296 rfl
  have h5 : (setN x 48).length = (setN x 40).length + pop8 (x.toNat / 1099511627776 % 256) := setN_8 x 40 1099511627776 rfl
  have h6 : (setN x 56).length = (setN x 48).length + pop8 (x.toNat / 281474976710656 % 256) := setN_8 x 48 281474976710656 rfl
  have h7 : (setN x 64).length = (setN x 56).length + pop8 (x.toNat / 72057594037927936 % 256) := setN_8 x 56 72057594037927936 rfl
  have hz : (setN x 0).length = 0 := rfl
  rw [Nat.div_one] at h0
  unfold popN
  omega

theorem setN_lenle (x : Int) (k : Nat) : (setN x k).length ≤ k := by
  unfold setN
  have := List.length_filter_le (bitB x) (List.range k)
  rw [List.length_range] at this
  exact this
theorem ofInt_nat {y : Int} (h0 : 0 ≤ y) (h1 : y < 18446744073709551616) : (BitVec.ofInt 64 y).toNat = y.toNat := by
  rw [BitVec.toNat_ofInt]
  have : y % ((2 ^ 64 : Nat) : Int) = y := Int.emod_eq_of_lt h0 (by simpa using h1)
  rw [this]
theorem and_one {y : Int} (h0 : 0 ≤ y) (h1 : y < 18446744073709551616) : Go.bits .and .u64 y 1 = y % 2 := by
  have h2 : (BitVec.ofInt 64 y &&& BitVec.ofInt 64 1).toNat = y.toNat % 2 := by
    rw [BitVec.toNat_and, ofInt_nat h0 h1]
    have : (BitVec.ofInt 64 1).toNat = 1 := by decide
    rw [this, Nat.and_one_is_mod]
  show IntKind.u64.wrap (((BitVec.ofInt 64 y &&& BitVec.ofInt 64 1).toNat : Nat) : Int) = _
  rw [h2, IntKind.wrap_u64]
  omega
theorem and_swap (x y : Int) : Go.bits .and .u64 x y = Go.bits .and .u64 y x := by
  show IntKind.u64.wrap (((BitVec.ofInt 64 x &&& BitVec.ofInt 64 y).toNat : Nat) : Int) = IntKind.u64.wrap (((BitVec.ofInt 64 y &&& BitVec.ofInt 64 x).toNat : Nat) : Int)
  rw [BitVec.and_comm]
theorem pow_div (x : Int) (i : Nat) (h0 : 0 ≤ x) : x / 2 ^ i = ((x.toNat / 2 ^ i : Nat) : Int) := by
  obtain ⟨n, rfl⟩ := Int.eq_ofNat_of_zero_le h0
  simp
theorem bit_test (x : Int) (i : Nat) (h0 : 0 ≤ x) (h1 : x < 18446744073709551616) : (Go.bits .and .u64 (x / 2 ^ i) 1 == 1) = bitB x i := by
  rw [pow_div x i h0]
  have h2 : x.toNat / 2 ^ i ≤ x.toNat := Nat.div_le_self _ _
  unfold bitB
  generalize x.toNat / 2 ^ i = y at *
  rw [and_one (by omega) (by omega)]
  rw [Bool.eq_iff_iff]
  simp only [beq_iff_eq, decide_eq_true_eq]
  omega
theorem rhas_any (x : Int) (i : Nat) (w : World) (h0 : 0 ≤ x) (h1 : x < 18446744073709551616) (hi : i < 64) :
    Calls Tryz.prog 71 #[.int .u64 x, .int .i64 i] w fun e w' => e = .returned (.bool (bitB x i)) ∧ w' = w := by
  have hb := bit_test x i h0 h1
  have HB := Lib.hid hb
  cases hx : bitB x i
  · rw [hx] at hb
    have HX := Lib.hid hx
    clear hx
    go_enter Tryz.func71, Tryz.ntmps71
    go_wp2
    go_ret
    exact ⟨rfl, rfl⟩
  · rw [hx] at hb
    have HX := Lib.hid hx
    clear hx
    go_enter Tryz.func71, Tryz.ntmps71
    go_wp2
    go_ret
    exact ⟨rfl, rfl⟩
def setC (x : Int) (k : Nat) : List Value := intC ((setN x k).map Int.ofNat)
theorem setC_no {x : Int} {k : Nat} (h : bitB x k = false) : setC x (k + 1) = setC x k := by unfold setC; rw [setN_succ, h]; simp
theorem setC_yes {x : Int} {k : Nat} (h : bitB x k = true) : setC x (k + 1) = setC x k ++ [.int .i64 k] := by unfold setC intC; rw [setN_succ, h]; simp
theorem setN_yes {x : Int} {k : Nat} (h : bitB x k = true) : (setN x (k + 1)).length = (setN x k).length + 1 := by rw [setN_succ, h]; simp
theorem setN_no {x : Int} {k : Nat} (h : bitB x k = false) : (setN x (k + 1)).length = (setN x k).length := by rw [setN_succ, h]; simp
set_option maxRecDepth 100000 in
theorem rlist_any (x : Int) (w : World) (h0 : 0 ≤ x) (h1 : x < 18446744073709551616) :
    Calls Tryz.prog 58 #[.int .u64 x] w fun e w' => ∃ v, e = .returned v ∧ w'.ownsRow w.heap.size 3 1 v (setN x 64).length (setC x 64) ∧ Below w.heap.size w w' := by
  have HH := Lib.hid (fun i (hi : i < 64) W => rhas_any x i W h0 h1 hi)
  clear h0 h1
  go_enter Tryz.func58, Tryz.ntmps58
  go_wp2
  go_loopw [3, 4] (fun v i W => ∃ k : Nat, k ≤ 64 ∧ i = .int .i64 k ∧ Hid (W.ownsRow w.heap.size 3 1 v (setN x k).length (setC x k) ∧ Below w.heap.size w W)) (fun _ i _ => 64 - (intOf i).toNat)
  case atStart => exact ⟨0, Nat.zero_le _, rfl, Lib.hid ⟨own_nil _ _ _ _, Below.refl _ _⟩⟩
  case round =>
    obtain ⟨k, hk, rfl, HST⟩ := hrel
    by_cases hlt : k < 64
    · have HK := Lib.hid (HH.out k hlt)
      have hle := setN_lenle x k
      cases hb : bitB x k
      · have HB := Lib.hid hb
        have HST2 : Hid (wr.ownsRow w.heap.size 3 1 u3 (setN x (k + 1)).length (setC x (k + 1)) ∧ Below w.heap.size w wr) := Lib.hid (by rw [setN_no hb, setC_no hb]; exact HST.out)
        clear hb
        go_wp2_with (go_at_call 71; refine (HK.out _).mono ?_; rintro e w1 ⟨rfl, rfl⟩; rw [HB.out])
        go_roundw
        case rel => exact ⟨k + 1, hlt, by go_num, HST2⟩
        case measure => simp [intOf]; omega
      · have HB := Lib.hid hb
        have HN1 := Lib.hid (setN_yes hb)
        have HN2 := Lib.hid (setC_yes hb)
        clear hb
        go_wp2_with (first
          | (go_at_call 71; refine (HK.out _).mono ?_; rintro e w1 ⟨rfl, rfl⟩; rw [HB.out])
          | (at_builtin; refine append_one (w0 := w) w.heap.size rfl (.tmp 12) (.tmp 14) 26 3 (.int .i64 0) 1 8 rfl Tryz.underlying26 int_info rfl (by decide) (by decide) u3 (setN x k).length (setC x k) [.int .i64 k] rfl rfl rfl (by simp [Value.oneCell']) HST.out.1 HST.out.2 (Nat.le_refl _) HST.out.2.size (by omega) ?_; intro v1 w6 hown hB hg hat; have HST2 : Hid (w6.ownsRow w.heap.size 3 1 v1 (setN x (k + 1)).length (setC x (k + 1)) ∧ Below w.heap.size w w6) := Lib.hid (by rw [HN1.out, HN2.out]; exact ⟨hown, hB⟩); clear hown hB hg hat))
        go_roundw
        case rel => exact ⟨k + 1, hlt, by go_num, HST2⟩
        case measure => simp [intOf]; omega
    · obtain rfl : k = 64 := by omega
      go_wp2
      go_ret
      exact ⟨_, rfl, HST.out.1, HST.out.2⟩
theorem rcount_any (x : Int) (w : World) (h0 : 0 ≤ x) (h1 : x < 18446744073709551616) :
    Calls Tryz.prog 44 #[.int .u64 x] w fun e w' => e = .returned (.int .i64 (popI x)) ∧ Below w.heap.size w w' := by
  have HLI := Lib.hid (fun W => rlist_any x W h0 h1)
  have hle := setN_lenle x 64
  have HP : Hid (((setN x 64).length : Int) = popI x) := Lib.hid (by rw [setN_pop]; rfl)
  go_enter Tryz.func44, Tryz.ntmps44
  go_wp2_with (go_at_call 58; refine (HLI.out _).mono ?_; rintro e w1 ⟨v, rfl, hown, hb⟩; obtain ⟨A, c, rfl⟩ := own_slice hown; clear hown)
  go_ret
  exact ⟨ret_int HP.out, hb⟩
end Go.Proofs.YtopmnpkjhaabcaaGreatDoor
