/- num.Is, Add, Ceil, Floor; cost.whole, parts, Of, Total walked: at numbers from 0 to 2^40. -/
import Derived.Test.YtopmnpkjhaabcaaGreatDoork
import Derived.Laws.Externs
import Derived.Laws.Cover3
set_option linter.unusedVariables false
set_option linter.unusedSimpArgs false
namespace Go.Proofs.YtopmnpkjhaabcaaGreatDoor
open Go.RowKit

theorem arch_entry (args : Array Value) (w : World) : (callFunc 105 args).run Tryz.prog w = ((Extern.MathFloor.toIntegral "math.archTrunc" .zero args).run Tryz.prog w).andThen fun v w' => .ok (.value v) w' :=
  run_callFunc_extern Tryz.func105 (by kernel_rfl) (by kernel_rfl) (by kernel_rfl) (by kernel_rfl) args w
theorem integral_eq (x : Nat) : Extern.MathFloor.toIntegral "math.archTrunc" .zero #[.float .f64 x] =
    (match FloatKind.f64.decode x with
    | .nan s t =>
      if FloatKind.f64.format.quiet t = t then pure (.float .f64 x) else do
      let kept ← choose (.extern "math.Floor,Ceil,Trunc,RoundToEven.signallingNaN kept" 2)
      pure (.float .f64 (if kept == 1 then x else FloatKind.f64.encode (.nan s (FloatKind.f64.format.quiet t))))
    | d => pure (.float .f64 (FloatKind.f64.encode (d.integral .zero)))) := rfl
theorem arch_run (n : Nat) (h : n ≤ 1099511627776) (w : World) : (callFunc 105 #[.float .f64 (flN n)]).run Tryz.prog w = .ok (.value (.float .f64 (flN n))) w := by
  rw [arch_entry, integral_eq]
  have hd : FloatKind.f64.decode (flN n) = dbl.read (flN n) := rfl
  have hi := fl_integral n h
  have hw : FloatKind.f64.encode (.number false n 0) = flN n := by rw [← nearest_fl n h]; rfl
  rw [hd]
  by_cases h0 : n = 0
  · subst h0
    rw [show dbl.read (flN 0) = .number false 0 (-1074) from read_zero] at hi ⊢
    simp only [hi, hw]
    rfl
  · rw [read_fl n h h0] at hi ⊢
    simp only [hi, hw]
    rfl
theorem trunc_any (n : Nat) (h : n ≤ 1099511627776) (w : World) : Calls Tryz.prog 102 #[.float .f64 (flN n)] w fun e w' => e = .returned (.float .f64 (flN n)) ∧ w' = w := by
  have ha := fun W => arch_run n h W
  generalize flN n = f at *
  go_enter Tryz.func102, Tryz.ntmps102
  go_wp2
  go_ret
  exact ⟨rfl, rfl⟩
theorem whole_any (n : Nat) (h : n ≤ 1099511627776) (w : World) : Calls Tryz.prog 94 #[.float .f64 (flN n)] w fun e w' => e = .returned (.tuple #[.int .i64 n, .bool true]) ∧ w' = w := by
  have k1 := fl_ge0 n h
  have k2 := fl_le n h
  have k3 := fl_same n h
  have k4 := fun (W : World) => run_convert_float_int (P := Tryz.prog) (w := W) 107 2 .f64 .i64 (flN n) n (by rw [Tryz.underlying107]; rfl) Tryz.underlying2 (fl_toInt n h)
  have HT := Lib.hid (fun W => trunc_any n h W)
  clear h
  generalize flN n = f at *
  go_enter Tryz.func94, Tryz.ntmps94
  go_wp2_with (go_at_call 102; refine (HT.out _).mono ?_; rintro e w' ⟨rfl, rfl⟩)
  go_ret2
  exact ⟨rfl, rfl⟩

def numB (n : Int) : Bool := decide (0 ≤ n) && decide (n ≤ 1099511627776)
theorem numIs_any (n : Int) (w : World) : Calls Tryz.prog 93 #[.int .i64 n] w fun e w' => e = .returned (.bool (numB n)) ∧ w' = w := by
  by_cases h1 : 0 ≤ n
  · go_enter Tryz.func93, Tryz.ntmps93
    go_wp2
    go_ret
    exact ⟨ret_bool (by simp [numB, h1]; try omega), rfl⟩
  · go_enter Tryz.func93, Tryz.ntmps93
    go_wp2
    go_ret
    exact ⟨ret_bool (by simp [numB, h1]; try omega), rfl⟩
theorem numIs_yes (n : Int) (h0 : 0 ≤ n) (h1 : n ≤ 1099511627776) (w : World) : Calls Tryz.prog 93 #[.int .i64 n] w fun e w' => e = .returned (.bool true) ∧ w' = w := by
  refine (numIs_any n w).mono ?_
  rintro e w' ⟨rfl, rfl⟩
  exact ⟨ret_bool (by simp [numB, h0, h1]), rfl⟩
theorem told_yes (n : Int) (h0 : 0 ≤ n) (h1 : n ≤ 1099511627776) (w : World) : Calls Tryz.prog 95 #[.int .i64 n, .bool true] w fun e w' => e = .returned (.tuple #[.int .i64 n, .bool true]) ∧ w' = w := by
  go_enter Tryz.func95, Tryz.ntmps95
  go_wp2_with (go_at_call 93; refine (numIs_yes n h0 h1 _).mono ?_; rintro e w' ⟨rfl, rfl⟩)
  go_ret2
  exact ⟨rfl, rfl⟩
theorem add_yes (a b : Int) (h0 : 0 ≤ a) (h1 : 0 ≤ b) (h2 : a + b ≤ 1099511627776) (w : World) : Calls Tryz.prog 81 #[.int .i64 a, .int .i64 b] w fun e w' => e = .returned (.tuple #[.int .i64 (a + b), .bool true]) ∧ w' = w := by
  go_enter Tryz.func81, Tryz.ntmps81
  go_wp2_with (first | (go_at_call_of 93 (Value.int .i64 a); refine (numIs_yes a h0 (by omega) _).mono ?_; rintro e w' ⟨rfl, rfl⟩) | (go_at_call_of 93 (Value.int .i64 b); refine (numIs_yes b h1 (by omega) _).mono ?_; rintro e w' ⟨rfl, rfl⟩) | (go_at_call 95; refine (told_yes _ (by omega) h2 _).mono ?_; rintro e w' ⟨rfl, rfl⟩))
  go_ret2
  exact ⟨rfl, rfl⟩
theorem floor_yes (a b : Int) (h0 : 0 ≤ a) (h1 : a ≤ 1099511627776) (h2 : 1 ≤ b) (h3 : b ≤ 1099511627776) (w : World) : Calls Tryz.prog 101 #[.int .i64 a, .int .i64 b] w fun e w' => e = .returned (.tuple #[.int .i64 (a / b), .bool true]) ∧ w' = w := by
  go_enter Tryz.func101, Tryz.ntmps101
  go_wp2_with (first | (go_at_call_of 93 (Value.int .i64 a); refine (numIs_yes a h0 (by omega) _).mono ?_; rintro e w' ⟨rfl, rfl⟩) | (go_at_call_of 93 (Value.int .i64 b); refine (numIs_yes b (by omega) (by omega) _).mono ?_; rintro e w' ⟨rfl, rfl⟩))
  go_ret2
  exact ⟨rfl, rfl⟩
def ceilD (a b : Int) : Int := if a / b * b < a then a / b + 1 else a / b
theorem ceil_yes (a b : Int) (h0 : 0 ≤ a) (h1 : a ≤ 1099511627776) (h2 : 1 ≤ b) (h3 : b ≤ 1099511627776) (w : World) : Calls Tryz.prog 92 #[.int .i64 a, .int .i64 b] w fun e w' => e = .returned (.tuple #[.int .i64 (ceilD a b), .bool true]) ∧ w' = w := by
  have q0 : 0 ≤ a / b := Int.ediv_nonneg h0 (by omega)
  have q1 : a / b * b ≤ a := Int.ediv_mul_le a (by omega)
  have q2 : a / b ≤ a := Int.ediv_le_self b h0
  have q3 : 0 ≤ a / b * b := Int.mul_nonneg q0 (by omega)
  have HF := Lib.hid (fun W => floor_yes a b h0 h1 h2 h3 W)
  by_cases hc : a / b * b < a
  · have HC : Hid (ceilD a b = a / b + 1) := Lib.hid (by unfold ceilD; rw [if_pos hc])
    generalize a / b = q at *
    go_enter Tryz.func92, Tryz.ntmps92
    go_wp2_with (go_at_call 101; refine (HF.out _).mono ?_; rintro e w' ⟨rfl, rfl⟩)
    go_ret2
    exact ⟨by rw [HC.out]; rfl, rfl⟩
  · have HC : Hid (ceilD a b = a / b) := Lib.hid (by unfold ceilD; rw [if_neg hc])
    generalize a / b = q at *
    go_enter Tryz.func92, Tryz.ntmps92
    go_wp2_with (go_at_call 101; refine (HF.out _).mono ?_; rintro e w' ⟨rfl, rfl⟩)
    go_ret2
    exact ⟨by rw [HC.out]; rfl, rfl⟩
theorem parts_yes (m n : Nat) (h : m ≤ 1099511627776) (h2 : n ≤ 1099511627776) (w : World) : Calls Tryz.prog 80 #[.complex .f64 (flN m) (flN n)] w fun e w' => e = .returned (.tuple #[.int .i64 m, .int .i64 n, .bool true]) ∧ w' = w := by
  have HM := Lib.hid (fun W => whole_any m h W)
  have HN := Lib.hid (fun W => whole_any n h2 W)
  generalize flN m = f at *
  generalize flN n = g at *
  go_enter Tryz.func80, Tryz.ntmps80
  go_wp2_with fail
  refine (HM.out _).mono ?_
  rintro e w' ⟨rfl, rfl⟩
  go_wp2_with fail
  refine (HN.out _).mono ?_
  rintro e w' ⟨rfl, rfl⟩
  go_wp2
  go_ret3
  exact ⟨rfl, rfl⟩
theorem costOf_yes (m n : Nat) (h : m ≤ 1099511627776) (h2 : n ≤ 1099511627776) (w : World) : Calls Tryz.prog 78 #[.int .i64 m, .int .i64 n] w fun e w' => e = .returned (.tuple #[.complex .f64 (flN m) (flN n), .bool true]) ∧ w' = w := by
  have k1 := Lib.hid (floatOfInt_fl m h)
  have k2 := Lib.hid (floatOfInt_fl n h2)
  go_enter Tryz.func78, Tryz.ntmps78
  go_wp2_with fail
  refine (numIs_yes _ (by omega) (by omega) _).mono ?_
  rintro e w' ⟨rfl, rfl⟩
  go_wp2_with fail
  refine (numIs_yes _ (by omega) (by omega) _).mono ?_
  rintro e w' ⟨rfl, rfl⟩
  go_wp2
  go_ret2
  exact ⟨by simp only [k1.out, k2.out]; rfl, rfl⟩
theorem total_yes (m n : Nat) (h : m + n ≤ 1099511627776) (w : World) : Calls Tryz.prog 69 #[.complex .f64 (flN m) (flN n)] w fun e w' => e = .returned (.tuple #[.int .i64 ((m : Int) + n), .bool true]) ∧ w' = w := by
  have HP := Lib.hid (fun W => parts_yes m n (by omega) (by omega) W)
  generalize flN m = f at *
  generalize flN n = g at *
  go_enter Tryz.func69, Tryz.ntmps69
  go_wp2_with fail
  refine (HP.out _).mono ?_
  rintro e w' ⟨rfl, rfl⟩
  go_wp2_with fail
  refine (add_yes _ _ (by omega) (by omega) (by omega) _).mono ?_
  rintro e w' ⟨rfl, rfl⟩
  go_wp2
  go_ret2
  exact ⟨rfl, rfl⟩
end Go.Proofs.YtopmnpkjhaabcaaGreatDoor
