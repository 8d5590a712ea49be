/- taskmasterref12, taskmasterref14 walked, at sets that may be (12.Of: all tasks with thresholds). -/
import Derived.Test.YtopmnpkjhaabcaaGreatDoorBe
import Derived.Test.YtopmnpkjhaabcaaGreatDoorPa
set_option linter.unusedVariables false
set_option linter.unusedSimpArgs false
namespace Go.Proofs.YtopmnpkjhaabcaaGreatDoor
open Go.RowKit

structure RWSt (reload : Int) (vs : Value) (ts : List Task) (i : Nat) (bl long : Int) (v : Value) (X : Nat) (vr : Value) (w0 : World) (q r : Int) (W : World) : Prop where
  q0 : 0 ≤ q
  q1 : q ≤ 1000000
  r0 : 0 ≤ r
  r1 : r ≤ 1000000
  go : ∃ k : Nat, 1000001 ≤ k + q ∧ refR bl (gT ts i).T (workI ts i) long (loadsI reload ts i) = refGo bl (gT ts i).T (workI ts i) long (loadsI reload ts i) k q r
  set : SetC reload vs w0 W
  box : Blk W X ((gT ts i).cells vr) 41
  row : RdL W v (loadsI reload ts i)
theorem RWSt.stop {reload : Int} {vs : Value} {ts : List Task} {i : Nat} {bl long : Int} {v : Value} {X : Nat} {vr : Value} {w0 : World} {q r : Int} {W : World} (h : RWSt reload vs ts i bl long v X vr w0 q r W) (hq : ¬ q * (gT ts i).T < long) :
    refR bl (gT ts i).T (workI ts i) long (loadsI reload ts i) = r := by
  obtain ⟨k, h1, h2⟩ := h.go
  have := h.q1
  obtain ⟨k, rfl⟩ : ∃ g, k = g + 1 := ⟨k - 1, by omega⟩
  rw [h2, refGo, if_neg hq]
theorem RWSt.next {reload : Int} {vs : Value} {ts : List Task} {i : Nat} {bl long : Int} {v : Value} {X : Nat} {vr : Value} {w0 : World} {q r : Int} {W W1 : World} (h : RWSt reload vs ts i bl long v X vr w0 q r W) (hG : Good reload ts) (hi : i < ts.length) (hlong : long ≤ 1000000) {y : Int} (hy : leastF (bl + (q + 1) * workI ts i) (loadsI reload ts i) = some y) (hyl : y ≤ long)
    (hq : q * (gT ts i).T < long) (hb : Below W.heap.size W W1) : RWSt reload vs ts i bl long v X vr w0 (q + 1) (max r (y - q * (gT ts i).T)) W1 := by
  obtain ⟨k, h1, h2⟩ := h.go
  have hq1 := h.q1
  have hq0 := h.q0
  have hr0 := h.r0
  have hr1 := h.r1
  obtain ⟨k, rfl⟩ : ∃ g, k = g + 1 := ⟨k - 1, by omega⟩
  have hT := T_bound hG hi
  have hqT : q ≤ q * (gT ts i).T := by have := Int.mul_le_mul_of_nonneg_left hT.1 hq0; omega
  refine ⟨by omega, by omega, by omega, by omega, ⟨k, by omega, ?_⟩, h.set.kept hb, h.box.kept hb, h.row.kept CLoad.mono hb⟩
  rw [h2, refGo, if_pos hq]
  have he : endI bl (workI ts i) (loadsI reload ts i) q = y := by unfold endI; rw [hy]; rfl
  rw [he]
set_option maxRecDepth 100000 in
set_option maxHeartbeats 2000000 in
theorem rwith_any (reload : Int) (vs : Value) (ts : List Task) (i : Nat) (bl : Int) (w : World) (hv : RdT w vs ts) (hG : Good reload ts) (hi : i < ts.length) (h0 : 0 ≤ bl) (h1 : bl ≤ 1000000) :
    Calls Tryz.prog 36 #[.agg #[.int .i64 reload, vs], .int .i64 i, .int .i64 bl] w fun e w' => e = .returned (.tuple #[.int .i64 (withF reload ts i bl).1, .int .i64 (withF reload ts i bl).2]) ∧ Below w.heap.size w w' := by
  have HAC := Lib.hid (fun W (h : Below w.heap.size w W) => ractOf_any reload vs ts i bl W (hv.kept CTask.mono h) hG hi h0 h1)
  have HLO := Lib.hid (fun W (h : Below w.heap.size w W) => rloads_any reload vs ts i W (hv.kept CTask.mono h) hG hi)
  have HWK := Lib.hid (fun W (h : Below w.heap.size w W) => rwork8_any reload vs ts i W (hv.kept CTask.mono h) hG hi)
  have hl := hG.n8
  have hgood := Lib.hid hG
  obtain ⟨A, c, rfl, hle, hat⟩ := hv.at
  obtain ⟨b, o, vr, rfl, hr, hcell⟩ := hat i hi
  obtain ⟨Ar, cr, rfl, -⟩ := id hr
  have HC := Lib.hid hcell
  clear hG hv hat hcell hr
  cases ha : actF reload ts i bl with
  | none =>
    have HF : Hid (withF reload ts i bl = (0, 3)) := Lib.hid (by unfold withF; rw [ha])
    have HA := Lib.hid ha
    clear ha
    go_enter Tryz.func36, Tryz.ntmps36
    go_wp2_with (go_at_call 47; refine (HAC.out _ (by repeat (first | exact Below.refl _ _ | refine Below.drew ?_ | refine Below.alloc ?_ (by simp <;> omega) _))).mono ?_; rintro e w1 ⟨rfl, hb1⟩; rw [HA.out])
    go_ret2
    exact ⟨by rw [HF.out]; rfl, below_tr (by repeat (first | exact Below.refl _ _ | refine Below.drew ?_ | refine Below.alloc ?_ (by simp <;> omega) _)) hb1⟩
  | some long =>
    have HA := Lib.hid ha
    have hlong : Hid (1 ≤ long ∧ long ≤ 1000000) := Lib.hid ⟨(leastF_some ha).1, (leastF_some ha).2.1⟩
    have HWF : Hid (withF reload ts i bl = (refR bl (gT ts i).T (workI ts i) long (loadsI reload ts i), if refR bl (gT ts i).T (workI ts i) long (loadsI reload ts i) ≤ (gT ts i).D then 1 else 2)) := Lib.hid (by
      have := withR_ref hgood.out hi h0 ha
      unfold withF
      rw [ha]
      simp only
      rw [this])
    have HEN := Lib.hid (fun q (hq0 : 0 ≤ q) (hq : q * (gT ts i).T < long) => end_some hgood.out hi h0 ha hq0 hq)
    have HBS : Hid (∀ q, 0 ≤ q → q * (gT ts i).T < long → bl + (q + 1) * workI ts i ≤ long) := Lib.hid (fun q hq0 hq => by
      have e1 := busy_bound hgood.out hi h0 ha hq0 hq long (by have := hlong.out; omega) (Int.le_refl _)
      have e2 := sumL_base (base := bl + (q + 1) * workI ts i) (loadsI_ok hgood.out (show i ≤ ts.length by omega)) (w := long) (by have := hlong.out; omega)
      omega)
    have HLE := Lib.hid (fun W v bs (hl : RdL W v (loadsI reload ts i)) (e0 : 0 ≤ bs) (e1 : bs ≤ 1000000) => rleast_any bs v (loadsI reload ts i) W hl (loadsI_ok hgood.out (show i ≤ ts.length by omega)) e0 e1)
    clear ha
    go_enter Tryz.func36, Tryz.ntmps36
    go_upto_region 4 with (go_at_call 47; refine (HAC.out _ (by repeat (first | exact Below.refl _ _ | refine Below.drew ?_ | refine Below.alloc ?_ (by simp <;> omega) _))).mono ?_; rintro e w1 ⟨rfl, hb1⟩; rw [HA.out]; have HS : Hid (SetC reload (.slice (some ⟨b, o, none⟩) ts.length c) w w1) := Lib.hid (SetC.kept ⟨Blk.newAt rfl, (by repeat (first | exact Below.refl _ _ | refine Below.drew ?_ | refine Below.alloc ?_ (by simp <;> omega) _))⟩ hb1); clear hb1)
    have b1 := HS.out.1.cell 1 rfl
    have hcell2 := fun j u hu => cell_kept HS.out.2 (HC.out j u hu)
    obtain ⟨c0, c1, c2, c3, c4, c5, c6, c7, c8⟩ := task_cells hcell2
    clear hcell2
    have hki : (i : Int) < (ts.length : Int) := by omega
    go_upto_region 5 with (fail)
    have H4 : Hid (SetC reload (.slice (some ⟨b, o, none⟩) ts.length c) w (w1.alloc (Obj.cells #[.string (gT ts i).name, .int .i64 (gT ts i).T, .int .i64 (gT ts i).D, .int .i64 (gT ts i).mode, .int .i64 (gT ts i).Q, .int .i64 (gT ts i).theta, .slice Ar (gT ts i).regs.length cr, .int .u64 (gT ts i).ecb, .int .u64 (gT ts i).ucb] 41)) ∧ Blk (w1.alloc (Obj.cells #[.string (gT ts i).name, .int .i64 (gT ts i).T, .int .i64 (gT ts i).D, .int .i64 (gT ts i).mode, .int .i64 (gT ts i).Q, .int .i64 (gT ts i).theta, .slice Ar (gT ts i).regs.length cr, .int .u64 (gT ts i).ecb, .int .u64 (gT ts i).ucb] 41)) w1.heap.size ((gT ts i).cells (.slice Ar (gT ts i).regs.length cr)) 41) := Lib.hid ⟨HS.out.kept (by repeat (first | exact Below.refl _ _ | refine Below.drew ?_ | refine Below.alloc ?_ (by simp <;> omega) _)), Blk.newAt rfl⟩
    generalize w1.alloc _ = W4 at *
    generalize w1.heap.size = X at *
    clear c0 c1 c2 c3 c4 c5 c6 c7 c8 b1 HS
    have b0 := H4.out.1.1.cell 0 rfl
    have b1 := H4.out.1.1.cell 1 rfl
    go_upto_region 6 with (go_at_call 48; refine (HLO.out _ H4.out.1.2).mono ?_; rintro e w5 ⟨v1, rfl, hown, hb5⟩; have H5 : Hid (RWSt reload (.slice (some ⟨b, o, none⟩) ts.length c) ts i bl long v1 X (.slice Ar (gT ts i).regs.length cr) w 0 0 w5) := Lib.hid ⟨by omega, by omega, by omega, by omega, ⟨1000001, by omega, rfl⟩, H4.out.1.kept hb5, H4.out.2.kept hb5, own_loads hown (loadsI_len _ _ _).symm (by omega)⟩; clear hb5; obtain ⟨A1, c1, rfl⟩ := own_slice hown; clear hown)
    clear b0 b1 H4
    go_wp2_with fail
    go_loopw [12, 13, 14, 15] (fun rv qv _ _ W => ∃ q r : Int, qv = .int .i64 q ∧ rv = .int .i64 r ∧ Hid (RWSt reload (.slice (some ⟨b, o, none⟩) ts.length c) ts i bl long (.slice A1 i c1) X (.slice Ar (gT ts i).regs.length cr) w q r W)) (fun _ qv _ _ _ => (1000002 - intOf qv).toNat)
    case atStart => exact ⟨0, 0, rfl, rfl, H5⟩
    case round =>
      obtain ⟨q, r, rfl, rfl, HST⟩ := hrel
      clear H5
      have hq0 := HST.out.q0
      have hq1 := HST.out.q1
      have hr0 := HST.out.r0
      have hr1 := HST.out.r1
      have x1 := HST.out.box.cell 1 rfl
      have x2 := HST.out.box.cell 2 rfl
      have b0 := HST.out.set.1.cell 0 rfl
      have b1 := HST.out.set.1.cell 1 rfl
      obtain ⟨t1, t2⟩ := T_bound hgood.out hi
      obtain ⟨m1, m2⟩ := work_bound hgood.out hi
      obtain ⟨qt0, qt1⟩ := nn_mul hq0 hq1 (show 0 ≤ (gT ts i).T by omega) t2
      obtain ⟨qc0, qc1⟩ := nn_mul (show 0 ≤ q + 1 by omega) (show q + 1 ≤ 1000001 by omega) (show 0 ≤ workI ts i by omega) m2
      by_cases hq : q * (gT ts i).T < long
      · obtain ⟨y, HY1, hy2⟩ := HEN.out q hq0 hq
        have HBQ := Lib.hid (HBS.out q hq0 hq)
        have HLQ : Hid (∀ W, Below wr.heap.size wr W → Calls Tryz.prog 49 #[.int .i64 (bl + (q + 1) * workI ts i), .slice A1 i c1] W fun e w' => e = .returned (.tuple #[.int .i64 y, .bool true]) ∧ Below W.heap.size W w') := Lib.hid (fun W hb => by
          have h1 := HLE.out W (.slice A1 i c1) (bl + (q + 1) * workI ts i) (HST.out.row.kept CLoad.mono hb) (by omega) (by have := HBQ.out; have := hlong.out; omega)
          rw [HY1] at h1
          exact h1)
        have HNX := Lib.hid (fun W1 hb => HST.out.next hgood.out hi hlong.out.2 HY1 hy2 hq (W1 := W1) hb)
        have hy1 : Hid (1 ≤ y ∧ y ≤ 1000000) := Lib.hid ⟨(leastF_some HY1).1, by have := (leastF_some HY1).2.1; exact this⟩
        obtain ⟨hya, hyb⟩ := hy1.out
        have hlg := hlong.out.2
        have hbq := HBQ.out
        clear HY1
        go_wp2_with (first
          | (go_at_call 32; refine (HWK.out _ HST.out.set.2).mono ?_; rintro e w2 ⟨rfl, hb2⟩; have HS2 := Lib.hid (HST.out.box.kept hb2); have y1 := HS2.out.cell 1 rfl)
          | (go_at_call 49; refine (HLQ.out _ hb2).mono ?_; rintro e w3 ⟨rfl, hb3⟩; have HS3 := Lib.hid (HS2.out.kept hb3); have z1 := HS3.out.cell 1 rfl; have HB3 := Lib.hid (below_tr hb2 hb3)))
        go_roundw
        case rel => exact ⟨q + 1, _, rfl, rfl, Lib.hid (HNX.out _ HB3.out)⟩
        case measure => simp [intOf]; omega
      · have HR := Lib.hid (HST.out.stop hq)
        clear HEN HBS HLE
        by_cases hd : r ≤ (gT ts i).D
        · have HF : Hid (withF reload ts i bl = (r, 1)) := Lib.hid (by rw [HWF.out, HR.out, if_pos hd])
          go_wp2
          go_ret2
          exact ⟨by rw [HF.out]; rfl, HST.out.set.2⟩
        · have HF : Hid (withF reload ts i bl = (r, 2)) := Lib.hid (by rw [HWF.out, HR.out, if_neg hd])
          go_wp2
          go_ret2
          exact ⟨by rw [HF.out]; rfl, HST.out.set.2⟩
end Go.Proofs.YtopmnpkjhaabcaaGreatDoor
