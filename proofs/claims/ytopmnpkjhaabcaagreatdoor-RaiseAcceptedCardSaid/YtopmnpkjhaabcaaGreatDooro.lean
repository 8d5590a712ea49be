/- fix.isTop, is, sum, Sum, Least walked, at loads that may be. -/
import Derived.Test.YtopmnpkjhaabcaaGreatDoorn
set_option linter.unusedVariables false
set_option linter.unusedSimpArgs false
namespace Go.Proofs.YtopmnpkjhaabcaaGreatDoor
open Go.RowKit

abbrev Ld := Int × Int
def CLoad : World → Ld → List Value → Prop := fun _ x cs => cs = [.int .i64 x.1, .int .i64 x.2]
abbrev RdL (W : World) (v : Value) (l : List Ld) : Prop := Rows' 2 CLoad W v l
theorem CLoad.mono : MonoC CLoad := fun _ _ _ h => h
def gL (l : List Ld) (k : Nat) : Ld := l.getD k (0, 0)
theorem gL_at {l : List Ld} {k : Nat} (h : k < l.length) : gL l k = l[k] := by unfold gL; rw [List.getD_eq_getElem?_getD, List.getElem?_eq_getElem h]; rfl
theorem RdL.at {W : World} {v : Value} {l : List Ld} (h : RdL W v l) : ∃ A c, v = .slice A l.length c ∧ l.length ≤ 140737488351232 ∧ ∀ j, j < l.length → ∃ b o, A = some ⟨b, o, none⟩ ∧ W.cell? ⟨b, o + j * 2, none⟩ = some (.int .i64 (gL l j).1) ∧ W.cell? ⟨b, o + j * 2 + 1, none⟩ = some (.int .i64 (gL l j).2) := by
  obtain ⟨A, c, hv, hl, h⟩ := h
  refine ⟨A, c, hv, hl, fun j hj => ?_⟩
  obtain ⟨b, o, cs, hA, hc, hcell⟩ := h j l[j] (List.getElem?_eq_getElem hj)
  unfold CLoad at hc
  subst hc
  exact ⟨b, o, hA, by rw [gL_at hj]; exact hcell 0 _ rfl, by rw [gL_at hj]; exact hcell 1 _ rfl⟩
structure OkL (l : List Ld) : Prop where
  n : l.length ≤ 64
  t : ∀ k, k < l.length → 1 ≤ (gL l k).1 ∧ (gL l k).1 ≤ 1000000
  c : ∀ k, k < l.length → 0 ≤ (gL l k).2 ∧ (gL l k).2 ≤ 1000000
theorem isTop_yes (n least : Int) (w : World) (h1 : least ≤ n) (h2 : n ≤ 1000000) : Calls Tryz.prog 82 #[.int .i64 n, .int .i64 least] w fun e w' => e = .returned (.bool true) ∧ w' = w := by
  go_enter Tryz.func82, Tryz.ntmps82
  go_wp2
  go_ret
  exact ⟨ret_bool (by simp; try omega), rfl⟩
theorem fixIs1_yes (t c : Int) (w : World) (h1 : 1 ≤ t) (h2 : t ≤ 1000000) (h3 : 0 ≤ c) (h4 : c ≤ 1000000) : Calls Tryz.prog 91 #[.agg #[.int .i64 t, .int .i64 c]] w fun e w' => e = .returned (.bool false) ∧ Below w.heap.size w w' := by
  go_enter Tryz.func91, Tryz.ntmps91
  go_wp2_with (first | (go_at_call_of 82 (Value.int .i64 t); refine (isTop_yes t 1 _ h1 h2).mono ?_; rintro e w' ⟨rfl, rfl⟩) | (go_at_call_of 82 (Value.int .i64 c); refine (isTop_yes c 0 _ h3 h4).mono ?_; rintro e w' ⟨rfl, rfl⟩))
  go_ret
  exact ⟨rfl, (Below.refl _ _).alloc (Nat.le_refl _) _⟩
set_option maxRecDepth 100000 in
theorem indexLoad_no (v : Value) (l : List Ld) (w : World) (hl : RdL w v l) (hok : OkL l) :
    Calls Tryz.prog 100 #[v, .func (.func 91) #[] #[]] w fun e w' => e = .returned (.int .i64 (-1)) ∧ Below w.heap.size w w' := by
  obtain ⟨A, c, rfl, hle, hat⟩ := hl.at
  have h64 := hok.n
  have HOK := Lib.hid hok
  have HAT := Lib.hid hat
  clear hat hl hok
  go_enter Tryz.func100, Tryz.ntmps100
  go_wp2
  go_loopw [5, 8] (fun _ i W => ∃ k : Nat, k ≤ l.length ∧ i = .int .i64 k ∧ Hid (Below w.heap.size w W)) (fun _ i _ => l.length - (intOf i).toNat)
  case atStart => exact ⟨0, Nat.zero_le _, rfl, Lib.hid (Below.refl _ _)⟩
  case round =>
    obtain ⟨k, hk, rfl, HB⟩ := hrel
    by_cases hlt : k < l.length
    · obtain ⟨b, o, rfl, hc1, hc2⟩ := HAT.out k hlt
      have hd1 := cell_kept HB.out hc1
      have hd2 := cell_kept HB.out hc2
      obtain ⟨t1, t2⟩ := HOK.out.t k hlt
      obtain ⟨t3, t4⟩ := HOK.out.c k hlt
      clear hc1 hc2
      go_wp2_with (go_at_call 91; refine (fixIs1_yes _ _ _ t1 t2 t3 t4).mono ?_; rintro e w1 ⟨rfl, hb⟩; have HB2 := Lib.hid (below_tr HB.out hb); clear hb)
      go_roundw
      case rel => exact ⟨k + 1, hlt, by go_num, HB2⟩
      case measure => simp [intOf]; omega
    · go_wp2
      go_ret
      exact ⟨rfl, HB.out⟩
theorem containsLoad_no (v : Value) (l : List Ld) (w : World) (hl : RdL w v l) (hok : OkL l) :
    Calls Tryz.prog 90 #[v, .func (.func 91) #[] #[]] w fun e w' => e = .returned (.bool false) ∧ Below w.heap.size w w' := by
  have HI := Lib.hid (indexLoad_no v l w hl hok)
  clear hl hok
  go_enter Tryz.func90, Tryz.ntmps90
  go_wp2_with (go_at_call 100; refine HI.out.mono ?_; rintro e w' ⟨rfl, hb⟩)
  go_ret
  exact ⟨rfl, hb⟩
theorem fixIs_yes (base : Int) (v : Value) (l : List Ld) (w : World) (hl : RdL w v l) (hok : OkL l) (h0 : 0 ≤ base) (h1 : base ≤ 1000000) :
    Calls Tryz.prog 76 #[.int .i64 base, v] w fun e w' => e = .returned (.bool true) ∧ Below w.heap.size w w' := by
  have HI := Lib.hid (containsLoad_no v l w hl hok)
  have h64 := hok.n
  obtain ⟨A, c, rfl, hle, hat⟩ := hl.at
  clear hl hok hat
  go_enter Tryz.func76, Tryz.ntmps76
  go_wp2_with (first | (go_at_call 82; refine (isTop_yes _ _ _ h0 h1).mono ?_; rintro e w' ⟨rfl, rfl⟩) | (go_at_call 90; refine HI.out.mono ?_; rintro e w' ⟨rfl, hb⟩))
  go_ret
  exact ⟨rfl, hb⟩
/-- How much comes in w of the first k loads, and the base. -/
def sumK (base : Int) (l : List Ld) (w : Int) : Nat → Int
  | 0 => base
  | k + 1 => sumK base l w k + (gL l k).2 * ceilD w (gL l k).1
def sumL (base : Int) (l : List Ld) (w : Int) : Int := sumK base l w l.length
theorem ceilD_nonneg {a b : Int} (h0 : 0 ≤ a) (h1 : 1 ≤ b) : 0 ≤ ceilD a b := by
  have := Int.ediv_nonneg h0 (show 0 ≤ b by omega)
  unfold ceilD; split <;> omega
theorem ceilD_le {a b : Int} (h0 : 0 ≤ a) (h1 : 1 ≤ b) : ceilD a b ≤ a := by
  have h2 := Int.ediv_le_self b h0
  have h3 := Int.ediv_mul_le a (show b ≠ 0 by omega)
  unfold ceilD
  split
  · rename_i h
    have h4 : a / b ≤ a / b * b := by
      have := Int.mul_le_mul_of_nonneg_left h1 (Int.ediv_nonneg h0 (show 0 ≤ b by omega)); omega
    omega
  · exact h2
theorem load_bound {l : List Ld} (hok : OkL l) {w : Int} (h0 : 0 ≤ w) (h1 : w ≤ 1000000) {k : Nat} (hk : k < l.length) : 0 ≤ ceilD w (gL l k).1 ∧ ceilD w (gL l k).1 ≤ 1000000 ∧ 0 ≤ (gL l k).2 * ceilD w (gL l k).1 ∧ (gL l k).2 * ceilD w (gL l k).1 ≤ 1000000000000 := by
  have h2 := ceilD_nonneg h0 (hok.t k hk).1
  have h3 := ceilD_le h0 (hok.t k hk).1
  have h4 := hok.c k hk
  refine ⟨h2, by omega, Int.mul_nonneg h4.1 h2, ?_⟩
  have := Int.mul_le_mul h4.2 (show ceilD w (gL l k).1 ≤ 1000000 by omega) h2 (by omega)
  omega
theorem sumK_bound {l : List Ld} (hok : OkL l) {base w : Int} (hb0 : 0 ≤ base) (h0 : 0 ≤ w) (h1 : w ≤ 1000000) (k : Nat) (hk : k ≤ l.length) : base ≤ sumK base l w k ∧ sumK base l w k ≤ base + 1000000000000 * k := by
  induction k with
  | zero => simp [sumK]
  | succ k ih =>
    have h2 := ih (by omega)
    have h3 := load_bound hok h0 h1 (show k < l.length by omega)
    simp only [sumK]
    omega
set_option maxRecDepth 100000 in
theorem fixsum_any (base : Int) (v : Value) (l : List Ld) (x : Int) (w : World) (hl : RdL w v l) (hok : OkL l) (h0 : 0 ≤ base) (h1 : base ≤ 1000000) (h2 : 0 ≤ x) (h3 : x ≤ 1000000) :
    Calls Tryz.prog 77 #[.int .i64 base, v, .int .i64 x] w fun e w' => e = .returned (.int .i64 (sumL base l x)) ∧ Below w.heap.size w w' := by
  have h64 := hok.n
  obtain ⟨A, c, rfl, hle, hat⟩ := hl.at
  have HOK := Lib.hid hok
  have HAT := Lib.hid hat
  have HSB := Lib.hid (fun k hk => sumK_bound hok h0 h2 h3 k hk)
  have HLB := Lib.hid (fun k (hk : k < l.length) => load_bound hok h2 h3 hk)
  clear hl hok hat
  go_enter Tryz.func77, Tryz.ntmps77
  go_wp2
  go_loopw [0, 8, 9, 10, 13, 17] (fun s _ _ _ i _ W => ∃ k : Nat, k ≤ l.length ∧ i = .int .i64 k ∧ s = .int .i64 (sumK base l x k) ∧ Hid (Below w.heap.size w W)) (fun _ _ _ _ i _ _ => l.length - (intOf i).toNat)
  case atStart => exact ⟨0, Nat.zero_le _, rfl, rfl, Lib.hid (Below.refl _ _)⟩
  case round =>
    obtain ⟨k, hk, rfl, rfl, HB⟩ := hrel
    by_cases hlt : k < l.length
    · obtain ⟨b, o, rfl, hc1, hc2⟩ := HAT.out k hlt
      have hd1 := cell_kept HB.out hc1
      have hd2 := cell_kept HB.out hc2
      obtain ⟨t1, t2⟩ := HOK.out.t k hlt
      obtain ⟨t3, t4⟩ := HOK.out.c k hlt
      obtain ⟨s1, s2⟩ := HSB.out k hk
      obtain ⟨m1, m2, m3, m4⟩ := HLB.out k hlt
      have HS : Hid (sumK base l x (k + 1) = sumK base l x k + (gL l k).2 * ceilD x (gL l k).1) := Lib.hid rfl
      have HCE := Lib.hid (fun W => ceil_yes x (gL l k).1 h2 (by omega) t1 (by omega) W)
      clear hc1 hc2
      generalize ceilD x (gL l k).1 = n at *
      go_wp2_with (go_at_call 92; refine (HCE.out _).mono ?_; rintro e w1 ⟨rfl, rfl⟩)
      go_roundw
      case rel => exact ⟨k + 1, hlt, by go_num, by rw [HS.out], Lib.hid (Below.alloc HB.out (HB.out.size) _)⟩
      case measure => simp [intOf]; omega
    · obtain rfl : k = l.length := by omega
      go_wp2
      go_ret
      exact ⟨rfl, HB.out⟩
theorem fixSum_yes (base : Int) (v : Value) (l : List Ld) (x : Int) (w : World) (hl : RdL w v l) (hok : OkL l) (h0 : 0 ≤ base) (h1 : base ≤ 1000000) (h2 : 0 ≤ x) (h3 : x ≤ 1000000) :
    Calls Tryz.prog 70 #[.int .i64 base, v, .int .i64 x] w fun e w' => e = .returned (.tuple #[.int .i64 (sumL base l x), .bool true]) ∧ Below w.heap.size w w' := by
  have HI := Lib.hid (fixIs_yes base v l w hl hok h0 h1)
  have HS := Lib.hid (fun W (h : Below w.heap.size w W) => fixsum_any base v l x W (hl.kept CLoad.mono h) hok h0 h1 h2 h3)
  obtain ⟨A, c, rfl, hle, hat⟩ := hl.at
  clear hl hok hat
  generalize sumL base l x = n at *
  go_enter Tryz.func70, Tryz.ntmps70
  go_wp2_with (first | (go_at_call 76; refine HI.out.mono ?_; rintro e w1 ⟨rfl, hb⟩) | (go_at_call 82; refine (isTop_yes _ _ _ h2 h3).mono ?_; rintro e w2 ⟨rfl, rfl⟩) | (go_at_call 77; refine (HS.out _ hb).mono ?_; rintro e w3 ⟨rfl, hb3⟩))
  go_ret2
  exact ⟨rfl, below_tr hb hb3⟩
def leastGo (base : Int) (l : List Ld) : Nat → Int → Option Int
  | 0, _ => none
  | f + 1, w => if sumL base l w = w then some w else if sumL base l w < w ∨ 1000000 < sumL base l w then none else leastGo base l f (sumL base l w)
def leastF (base : Int) (l : List Ld) : Option Int := leastGo base l 1000001 1
/-- What holds at the head of the round. -/
def LeastSt (base : Int) (l : List Ld) (w0 : World) (w : Int) (W : World) : Prop :=
  1 ≤ w ∧ w ≤ 1000000 ∧ (∃ f : Nat, 1000002 ≤ f + w ∧ leastF base l = leastGo base l f w) ∧ Below w0.heap.size w0 W
theorem LeastSt.now {base : Int} {l : List Ld} {w0 W : World} {w : Int} (h : LeastSt base l w0 w W) : leastF base l = if sumL base l w = w then some w else if sumL base l w < w ∨ 1000000 < sumL base l w then none else leastF base l := by
  obtain ⟨h1, h2, ⟨f, h3, h4⟩, h5⟩ := h
  obtain ⟨f, rfl⟩ : ∃ g, f = g + 1 := ⟨f - 1, by omega⟩
  rw [h4]
  simp only [leastGo]
  split
  · rfl
  · split <;> rfl
theorem LeastSt.next {base : Int} {l : List Ld} {w0 W W1 : World} {w : Int} (h : LeastSt base l w0 w W) (h1 : ¬ sumL base l w = w) (h2 : ¬ sumL base l w < w) (h3 : ¬ 1000000 < sumL base l w) (hb : Below W.heap.size W W1) : LeastSt base l w0 (sumL base l w) W1 := by
  obtain ⟨g1, g2, ⟨f, g3, g4⟩, g5⟩ := h
  obtain ⟨f, rfl⟩ : ∃ g, f = g + 1 := ⟨f - 1, by omega⟩
  refine ⟨by omega, by omega, ⟨f, by omega, ?_⟩, below_tr g5 hb⟩
  rw [g4]
  simp only [leastGo]
  rw [if_neg h1, if_neg (by omega)]
set_option maxRecDepth 100000 in
set_option maxHeartbeats 1000000 in
theorem least_any (base : Int) (v : Value) (l : List Ld) (w : World) (hl : RdL w v l) (hok : OkL l) (h0 : 0 ≤ base) (h1 : base ≤ 1000000) :
    Calls Tryz.prog 67 #[.int .i64 base, v] w fun e w' => e = .returned (.tuple #[.int .i64 ((leastF base l).getD 0), .bool (leastF base l).isSome]) ∧ Below w.heap.size w w' := by
  have HI := Lib.hid (fixIs_yes base v l w hl hok h0 h1)
  have HS := Lib.hid (fun x (h2 : 0 ≤ x) (h3 : x ≤ 1000000) W (h : Below w.heap.size w W) => fixsum_any base v l x W (hl.kept CLoad.mono h) hok h0 h1 h2 h3)
  obtain ⟨A, c, rfl, hle, hat⟩ := hl.at
  clear hl hok hat
  go_enter Tryz.func67, Tryz.ntmps67
  go_wp2
  refine wp_scope_label 0 (fun a W => ∃ (x : Int) (u2 u3 u4 u5 u7 u8 u9 u10 u11 u12 u13 u14 u15 u16 u17 u18 u19 u20 u21 u22 u23 u24 u25 u26 u27 : Value), a = { tmps := #[.int .i64 base, .slice A l.length c, u2, u3, u4, u5, .int .i64 x, u7, u8, u9, u10, u11, u12, u13, u14, u15, u16, u17, u18, u19, u20, u21, u22, u23, u24, u25, u26, u27], defers := [] } ∧ Hid (LeastSt base l w x W)) (fun a _ => (1000000 - intOf (a.tmps.getD 6 undef)).toNat) rfl ?_ ?_
  · rintro a W ⟨x, u2, u3, u4, u5, u7, u8, u9, u10, u11, u12, u13, u14, u15, u16, u17, u18, u19, u20, u21, u22, u23, u24, u25, u26, u27, rfl, hst⟩
    obtain ⟨g1, g2, -, g4⟩ := hst.out
    have HNOW := Lib.hid hst.out.now
    have HNX := Lib.hid (fun W1 k1 k2 k3 hb => hst.out.next (W1 := W1) k1 k2 k3 hb)
    have HSX := Lib.hid (HS.out x (by omega) g2 W g4)
    have HBL := Lib.hid g4
    clear g4 hst
    generalize sumL base l x = n at *
    by_cases e1 : n = x
    · have k1 : (n == x) = true := by simp [e1]
      have HR : Hid (leastF base l = some x) := Lib.hid (by rw [HNOW.out, if_pos e1])
      clear e1
      go_wp2_with (go_at_call 77; refine HSX.out.mono ?_; rintro e w1 ⟨rfl, hb⟩)
      simp only [Exit.jump]
      go_ret2
      exact ⟨by rw [HR.out]; rfl, below_tr HBL.out hb⟩
    · have k1 : (n == x) = false := by simp [e1]
      by_cases e2 : n < x
      · have HR : Hid (leastF base l = none) := Lib.hid (by rw [HNOW.out, if_neg e1, if_pos (.inl e2)])
        clear e1
        go_wp2_with (go_at_call 77; refine HSX.out.mono ?_; rintro e w1 ⟨rfl, hb⟩)
        simp only [Exit.jump]
        go_ret2
        exact ⟨by rw [HR.out]; rfl, below_tr HBL.out hb⟩
      · by_cases e3 : 1000000 < n
        · have HR : Hid (leastF base l = none) := Lib.hid (by rw [HNOW.out, if_neg e1, if_pos (.inr e3)])
          clear e1
          go_wp2_with (go_at_call 77; refine HSX.out.mono ?_; rintro e w1 ⟨rfl, hb⟩)
          simp only [Exit.jump]
          go_ret2
          exact ⟨by rw [HR.out]; rfl, below_tr HBL.out hb⟩
        · have HN2 := Lib.hid (fun W1 hb => HNX.out W1 e1 e2 e3 hb)
          have e4 : x < n := by omega
          clear e1
          go_wp2_with (go_at_call 77; refine HSX.out.mono ?_; rintro e w1 ⟨rfl, hb⟩)
          go_step3
          refine ⟨rfl, ⟨n, _, _, _, _, _, _, _, _, _, _, _, _, _, _, _, _, _, _, _, _, _, _, _, _, _, rfl, Lib.hid (HN2.out _ hb)⟩, ?_⟩
          simp [intOf]
          omega
  · intro H
    go_wp2_with (go_at_call 76; refine HI.out.mono ?_; rintro e w1 ⟨rfl, hb⟩)
    go_step3
    rename_i K hK
    refine hK _ _ (H.out _ _ ⟨1, _, _, _, _, _, _, _, _, _, _, _, _, _, _, _, _, _, _, _, _, _, _, _, _, _, rfl, Lib.hid ⟨by omega, by omega, ⟨1000001, by omega, rfl⟩, hb⟩⟩)
end Go.Proofs.YtopmnpkjhaabcaaGreatDoor
