/- resp.With walked, at a set that may be. -/
import Derived.Test.YtopmnpkjhaabcaaGreatDoors
set_option linter.unusedVariables false
set_option linter.unusedSimpArgs false
namespace Go.Proofs.YtopmnpkjhaabcaaGreatDoor
open Go.RowKit

def withGo (bl T C long : Int) (l : List Ld) : Nat → Int → Int → Int → Int
  | 0, _, _, r => r
  | k + 1, q, f, r => if q * T < long then withGo bl T C long l k (q + 1) (doneF (bl + (q + 1) * C) l f) (max r (doneF (bl + (q + 1) * C) l f - q * T)) else r
def withR (bl T C long : Int) (l : List Ld) : Int := withGo bl T C long l 1000001 0 1 0
/-- How long a task's job takes, at most, with so much blocking; and how it is judged. -/
def withF (reload : Int) (ts : List Task) (i : Nat) (bl : Int) : Int × Int :=
  match actF reload ts i bl with
  | none => (0, 3)
  | some long => (withR bl (gT ts i).T (workI ts i) long (loadsI reload ts i), if withR bl (gT ts i).T (workI ts i) long (loadsI reload ts i) ≤ (gT ts i).D then 1 else 2)
/-- What comes with a job of the busy time comes within it. -/
theorem busy_bound {reload : Int} {ts : List Task} (hG : Good reload ts) {i : Nat} (hi : i < ts.length) {bl long q : Int} (hb0 : 0 ≤ bl) (h : actF reload ts i bl = some long) (h0 : 0 ≤ q) (hq : q * (gT ts i).T < long) :
    ∀ x, 0 ≤ x → x ≤ long → sumL (bl + (q + 1) * workI ts i) (loadsI reload ts i) x ≤ long := by
  intro x hx0 hx1
  obtain ⟨g1, g2, g3⟩ := leastF_some h
  unfold actL at g3
  rw [sumL_snoc] at g3
  simp only at g3
  have h1 := sumL_mono (base := bl) (loadsI_ok hG (show i ≤ ts.length by omega)) hx1
  have h2 := (lt_ceilD (T_bound hG hi).1).1 hq
  have h3 : (q + 1) * workI ts i ≤ ceilD long (gT ts i).T * workI ts i := Int.mul_le_mul_of_nonneg_right (by omega) (by have := work_bound hG hi; omega)
  rw [sumL_shift, Int.mul_comm (ceilD _ _)] at *
  omega
structure WithSt (reload : Int) (ts : List Task) (i : Nat) (bl long : Int) (v : Value) (B : Nat) (vr : Value) (w0 : World) (q f r : Int) (W : World) : Prop where
  q0 : 0 ≤ q
  q1 : q ≤ 1000000
  f0 : 1 ≤ f
  f1 : f ≤ long
  r0 : 0 ≤ r
  r1 : r ≤ long
  go : ∃ k : Nat, 1000001 ≤ k + q ∧ withR bl (gT ts i).T (workI ts i) long (loadsI reload ts i) = withGo bl (gT ts i).T (workI ts i) long (loadsI reload ts i) k q f r
  box : Blk W B ((gT ts i).cells vr) 41
  row : RdL W v (loadsI reload ts i)
  below : Below w0.heap.size w0 W
theorem WithSt.stop {reload : Int} {ts : List Task} {i : Nat} {bl long : Int} {v : Value} {B : Nat} {vr : Value} {w0 : World} {q f r : Int} {W : World} (h : WithSt reload ts i bl long v B vr w0 q f r W) (hq : ¬ q * (gT ts i).T < long) :
    withR bl (gT ts i).T (workI ts i) long (loadsI reload ts i) = r := by
  obtain ⟨k, h1, h2⟩ := h.go
  have := h.q1
  obtain ⟨k, rfl⟩ : ∃ g, k = g + 1 := ⟨k - 1, by omega⟩
  rw [h2, withGo, if_neg hq]
theorem WithSt.next {reload : Int} {ts : List Task} {i : Nat} {bl long : Int} {v : Value} {B : Nat} {vr : Value} {w0 : World} {q f r : Int} {W W1 : World} (h : WithSt reload ts i bl long v B vr w0 q f r W) (hG : Good reload ts) (hi : i < ts.length) (hb0 : 0 ≤ bl) (ha : actF reload ts i bl = some long)
    (hq : q * (gT ts i).T < long) (hb : Below W.heap.size W W1) : WithSt reload ts i bl long v B vr w0 (q + 1) (doneF (bl + (q + 1) * workI ts i) (loadsI reload ts i) f) (max r (doneF (bl + (q + 1) * workI ts i) (loadsI reload ts i) f - q * (gT ts i).T)) W1 := by
  obtain ⟨k, h1, h2⟩ := h.go
  have hq1 := h.q1
  have hq0 := h.q0
  have hf0 := h.f0
  have hf1 := h.f1
  have hr0 := h.r0
  have hr1 := h.r1
  obtain ⟨k, rfl⟩ : ∃ g, k = g + 1 := ⟨k - 1, by omega⟩
  have hl := leastF_some ha
  have hd := doneF_end (busy_bound hG hi hb0 ha hq0 hq) hl.2.1 (w := f) (by omega) hf1
  have hT := T_bound hG hi
  have hqT : q ≤ q * (gT ts i).T := by have := Int.mul_le_mul_of_nonneg_left hT.1 hq0; omega
  refine ⟨by omega, by omega, by omega, hd.2.1, by omega, by omega, ⟨k, by omega, ?_⟩, h.box.kept hb, h.row.kept CLoad.mono hb, below_tr h.below hb⟩
  rw [h2, withGo, if_pos hq]
theorem nn_mul {a b A B : Int} (h0 : 0 ≤ a) (h1 : a ≤ A) (h2 : 0 ≤ b) (h3 : b ≤ B) : 0 ≤ a * b ∧ a * b ≤ A * B := ⟨Int.mul_nonneg h0 h2, Int.mul_le_mul h1 h3 h2 (by omega)⟩
set_option maxRecDepth 100000 in
set_option maxHeartbeats 2000000 in
theorem with_any (reload : Int) (vs : Value) (ts : List Task) (i : Nat) (bl : Int) (w : World) (hv : RdT w vs ts) (hcap : CapOk vs) (hG : Good reload ts) (hi : i < ts.length) (h0 : 0 ≤ bl) (h1 : bl ≤ 1000000) :
    Calls Tryz.prog 42 #[.agg #[.int .i64 reload, vs], .int .i64 i, .int .i64 bl] w fun e w' => e = .returned (.tuple #[.int .i64 (withF reload ts i bl).1, .int .i64 (withF reload ts i bl).2]) ∧ Below w.heap.size w w' := by
  have HAC := Lib.hid (fun W (h : Below w.heap.size w W) => actOf_any reload vs ts i bl W (hv.kept CTask.mono h) hcap hG hi h0 h1)
  have HLO := Lib.hid (fun W (h : Below w.heap.size w W) => loads_any reload vs ts i W (hv.kept CTask.mono h) hcap hG hi)
  have hl := hG.n8
  have hgood := Lib.hid hG
  have HTB := Lib.hid (T_bound hG hi)
  have HWB := Lib.hid (work_bound hG hi)
  obtain ⟨A, c, rfl, hle, hat⟩ := hv.at
  obtain ⟨b, o, vr, rfl, hr, hcell⟩ := hat i hi
  have HWK := Lib.hid (fun W (h : Below w.heap.size w W) => work_any (gT ts i) vr W (hr.kept CInt.mono h) (hG.regs i hi))
  have HWI : Hid ((gT ts i).regs.sum = workI ts i) := Lib.hid rfl
  obtain ⟨c0, c1, c2, c3, c4, c5, c6, c7, c8⟩ := task_cells hcell
  obtain ⟨Ar, cr, rfl, -⟩ := id hr
  have HC : Hid (_ ∧ _ ∧ _ ∧ _ ∧ _ ∧ _ ∧ _ ∧ _ ∧ _) := Lib.hid ⟨c0, c1, c2, c3, c4, c5, c6, c7, c8⟩
  clear hG hv hat hcap hcell hr
  cases ha : actF reload ts i bl with
  | none =>
    have HF : Hid (withF reload ts i bl = (0, 3)) := Lib.hid (by unfold withF; rw [ha])
    have HA := Lib.hid ha
    clear ha
    go_enter Tryz.func42, Tryz.ntmps42
    go_wp2_with (go_at_call 54; refine (HAC.out _ (by repeat (first | exact Below.refl _ _ | refine Below.drew ?_ | refine Below.alloc ?_ (by simp <;> omega) _))).mono ?_; rintro e w1 ⟨rfl, hb1⟩; rw [HA.out])
    go_ret2
    exact ⟨by rw [HF.out]; rfl, below_tr (by repeat (first | exact Below.refl _ _ | refine Below.drew ?_ | refine Below.alloc ?_ (by simp <;> omega) _)) hb1⟩
  | some long =>
    have HA := Lib.hid ha
    have hlong : Hid (1 ≤ long ∧ long ≤ 1000000) := Lib.hid ⟨(leastF_some ha).1, (leastF_some ha).2.1⟩
    clear ha
    go_enter Tryz.func42, Tryz.ntmps42
    go_wp2_with (go_at_call 54; refine (HAC.out _ (by repeat (first | exact Below.refl _ _ | refine Below.drew ?_ | refine Below.alloc ?_ (by simp <;> omega) _))).mono ?_; rintro e w1 ⟨rfl, hb1⟩; rw [HA.out])
    have HS : Hid (SetC reload (.slice (some ⟨b, o, none⟩) ts.length c) w w1) := Lib.hid (SetC.kept ⟨Blk.newAt rfl, (by repeat (first | exact Below.refl _ _ | refine Below.drew ?_ | refine Below.alloc ?_ (by simp <;> omega) _))⟩ hb1)
    clear hb1
    have HZ : Hid (w1.cell? ⟨w.heap.size, 0, none⟩ = some (.int .i64 reload) ∧ w1.cell? ⟨w.heap.size, 1, none⟩ = some (.slice (some ⟨b, o, none⟩) ts.length c) ∧ w1.cell? ⟨b, o + i * 9, none⟩ = some (.string (gT ts i).name) ∧ w1.cell? ⟨b, o + i * 9 + 1, none⟩ = some (.int .i64 (gT ts i).T) ∧ w1.cell? ⟨b, o + i * 9 + 2, none⟩ = some (.int .i64 (gT ts i).D) ∧ w1.cell? ⟨b, o + i * 9 + 3, none⟩ = some (.int .i64 (gT ts i).mode) ∧ w1.cell? ⟨b, o + i * 9 + 4, none⟩ = some (.int .i64 (gT ts i).Q) ∧ w1.cell? ⟨b, o + i * 9 + 5, none⟩ = some (.int .i64 (gT ts i).theta) ∧ w1.cell? ⟨b, o + i * 9 + 6, none⟩ = some (.slice Ar (gT ts i).regs.length cr) ∧ w1.cell? ⟨b, o + i * 9 + 7, none⟩ = some (.int .u64 (gT ts i).ecb) ∧ w1.cell? ⟨b, o + i * 9 + 8, none⟩ = some (.int .u64 (gT ts i).ucb)) := Lib.hid ⟨HS.out.1.cell 0 rfl, HS.out.1.cell 1 rfl, cell_kept HS.out.2 HC.out.1, cell_kept HS.out.2 HC.out.2.1, cell_kept HS.out.2 HC.out.2.2.1, cell_kept HS.out.2 HC.out.2.2.2.1, cell_kept HS.out.2 HC.out.2.2.2.2.1, cell_kept HS.out.2 HC.out.2.2.2.2.2.1, cell_kept HS.out.2 HC.out.2.2.2.2.2.2.1, cell_kept HS.out.2 HC.out.2.2.2.2.2.2.2.1, cell_kept HS.out.2 HC.out.2.2.2.2.2.2.2.2⟩
    go_region_held3 (fun W => W.cell? ⟨w.heap.size, 0, none⟩ = some (.int .i64 reload) ∧ W.cell? ⟨w.heap.size, 1, none⟩ = some (.slice (some ⟨b, o, none⟩) ts.length c) ∧ W.cell? ⟨b, o + i * 9, none⟩ = some (.string (gT ts i).name) ∧ W.cell? ⟨b, o + i * 9 + 1, none⟩ = some (.int .i64 (gT ts i).T) ∧ W.cell? ⟨b, o + i * 9 + 2, none⟩ = some (.int .i64 (gT ts i).D) ∧ W.cell? ⟨b, o + i * 9 + 3, none⟩ = some (.int .i64 (gT ts i).mode) ∧ W.cell? ⟨b, o + i * 9 + 4, none⟩ = some (.int .i64 (gT ts i).Q) ∧ W.cell? ⟨b, o + i * 9 + 5, none⟩ = some (.int .i64 (gT ts i).theta) ∧ W.cell? ⟨b, o + i * 9 + 6, none⟩ = some (.slice Ar (gT ts i).regs.length cr) ∧ W.cell? ⟨b, o + i * 9 + 7, none⟩ = some (.int .u64 (gT ts i).ecb) ∧ W.cell? ⟨b, o + i * 9 + 8, none⟩ = some (.int .u64 (gT ts i).ucb)) (first | with_reducible exact keep11 (below_drew (Below.refl _ _)) HZ.out | with_reducible exact keep11 (below_drew ((Below.refl _ _).alloc (Nat.le_refl _) _)) HZ.out | with_reducible exact keep11 hB2 HZ.out | with_reducible exact keep11 (hB2.alloc hB2.size _) HZ.out | with_reducible exact keep11 (below_setCell (below_setCell (below_setCell (below_setCell (below_setCell (below_setCell (below_setCell (below_setCell (below_setCell hB2 (Nat.le_refl _) _) (Nat.le_refl _) _) (Nat.le_refl _) _) (Nat.le_refl _) _) (Nat.le_refl _) _) (Nat.le_refl _) _) (Nat.le_refl _) _) (Nat.le_refl _) _) (Nat.le_refl _) _) HZ.out | go_keep) (first
      | (go_at_call 55; refine (HLO.out _ (below_drew HS.out.2)).mono ?_; rintro e w2 ⟨v1, rfl, hown2, hb2⟩; have hB2 : Below w1.heap.size w1 w2 := below_tr (below_drew (Below.refl _ _)) hb2)
      | (go_at_call 55; refine (HLO.out _ (below_drew (Below.alloc HS.out.2 HS.out.2.size _))).mono ?_; rintro e w2 ⟨v1, rfl, hown2, hb2⟩; have hB2 : Below w1.heap.size w1 w2 := below_tr (below_drew ((Below.refl _ _).alloc (Nat.le_refl _) _)) hb2; have hbx : Blk w2 w1.heap.size [.string ⟨#[]⟩, .int .i64 0, .int .i64 0, .int .i64 0, .int .i64 0, .int .i64 0, .slice none 0 0, .int .u64 0, .int .u64 0] 41 := Blk.kept (Blk.drew (Blk.newAt rfl)) hb2; have e0 := hbx.cell 0 rfl; have g0 := hbx.free 0; have e1 := hbx.cell 1 rfl; have g1 := hbx.free 1; have e2 := hbx.cell 2 rfl; have g2 := hbx.free 2; have e3 := hbx.cell 3 rfl; have g3 := hbx.free 3; have e4 := hbx.cell 4 rfl; have g4 := hbx.free 4; have e5 := hbx.cell 5 rfl; have g5 := hbx.free 5; have e6 := hbx.cell 6 rfl; have g6 := hbx.free 6; have e7 := hbx.cell 7 rfl; have g7 := hbx.free 7; have e8 := hbx.cell 8 rfl; have g8 := hbx.free 8))
    · have HX : Hid (Blk (w2.alloc (Obj.cells #[.string (gT ts i).name, .int .i64 (gT ts i).T, .int .i64 (gT ts i).D, .int .i64 (gT ts i).mode, .int .i64 (gT ts i).Q, .int .i64 (gT ts i).theta, .slice Ar (gT ts i).regs.length cr, .int .u64 (gT ts i).ecb, .int .u64 (gT ts i).ucb] 41)) w2.heap.size ((gT ts i).cells (.slice Ar (gT ts i).regs.length cr)) 41 ∧ RdL (w2.alloc (Obj.cells #[.string (gT ts i).name, .int .i64 (gT ts i).T, .int .i64 (gT ts i).D, .int .i64 (gT ts i).mode, .int .i64 (gT ts i).Q, .int .i64 (gT ts i).theta, .slice Ar (gT ts i).regs.length cr, .int .u64 (gT ts i).ecb, .int .u64 (gT ts i).ucb] 41)) v1 (loadsI reload ts i) ∧ Below w.heap.size w (w2.alloc (Obj.cells #[.string (gT ts i).name, .int .i64 (gT ts i).T, .int .i64 (gT ts i).D, .int .i64 (gT ts i).mode, .int .i64 (gT ts i).Q, .int .i64 (gT ts i).theta, .slice Ar (gT ts i).regs.length cr, .int .u64 (gT ts i).ecb, .int .u64 (gT ts i).ucb] 41))) := Lib.hid ⟨Blk.newAt rfl, Rows'.kept CLoad.mono ((Below.refl _ _).alloc (Nat.le_refl _) _) (own_loads hown2 (loadsI_len _ _ _).symm (by omega)), (below_tr HS.out.2 hB2).alloc (below_tr HS.out.2 hB2).size _⟩
      generalize w2.alloc _ = W3 at *
      generalize w2.heap.size = B at *
      clear hown2 hB2 hb2
      have x0 := HX.out.1.cell 0 rfl
      have x1 := HX.out.1.cell 1 rfl
      have x2 := HX.out.1.cell 2 rfl
      have x3 := HX.out.1.cell 3 rfl
      have x4 := HX.out.1.cell 4 rfl
      have x5 := HX.out.1.cell 5 rfl
      have x6 := HX.out.1.cell 6 rfl
      have x7 := HX.out.1.cell 7 rfl
      have x8 := HX.out.1.cell 8 rfl
      go_wp2_with (go_at_call 18; refine (HWK.out _ HX.out.2.2).mono ?_; rintro e w4 ⟨rfl, hb4⟩; rw [HWI.out])
      go_loopw [6, 13, 14] (fun r f q W => ∃ q' f' r' : Int, q = .int .i64 q' ∧ f = .int .i64 f' ∧ r = .int .i64 r' ∧ Hid (WithSt reload ts i bl long v1 B (.slice Ar (gT ts i).regs.length cr) w q' f' r' W)) (fun _ _ q _ => (1000001 - intOf q).toNat)
      case atStart =>
        exact ⟨0, 1, 0, rfl, rfl, rfl, Lib.hid ⟨by omega, by omega, by omega, hlong.out.1, by omega, by have := hlong.out.1; omega, ⟨1000001, by omega, rfl⟩, HX.out.1.kept hb4, HX.out.2.1.kept CLoad.mono hb4, below_tr HX.out.2.2 hb4⟩⟩
      case round =>
        obtain ⟨q, f, r, rfl, rfl, rfl, HST⟩ := hrel
        clear x0 x1 x2 x3 x4 x5 x6 x7 x8
        have y1 := HST.out.box.cell 1 rfl
        have y2 := HST.out.box.cell 2 rfl
        have q0 := HST.out.q0
        have q1 := HST.out.q1
        have r0 := HST.out.r0
        have r1 := HST.out.r1
        obtain ⟨l1, l2⟩ := hlong.out
        obtain ⟨t1, t2⟩ := HTB.out
        obtain ⟨k1, k2⟩ := HWB.out
        obtain ⟨p1, p2⟩ := nn_mul q0 q1 (show 0 ≤ (gT ts i).T by omega) t2
        obtain ⟨p3, p4⟩ := nn_mul (show 0 ≤ q + 1 by omega) (show q + 1 ≤ 1000001 by omega) (show 0 ≤ workI ts i by omega) k2
        have HSTOP := Lib.hid (fun h => HST.out.stop h)
        by_cases hq : q * (gT ts i).T < long
        · have HNX := Lib.hid (fun W1 hb => HST.out.next (W1 := W1) hgood.out hi h0 HA.out hq hb)
          have hbb := busy_bound hgood.out hi h0 HA.out q0 hq
          have hf0 := HST.out.f0
          have hf1 := HST.out.f1
          have hbase : bl + (q + 1) * workI ts i ≤ 1000000 := by
            have z1 := hbb 0 (by omega) (by omega)
            have z2 := (sumK_bound (loadsI_ok hgood.out (show i ≤ ts.length by omega)) (base := bl + (q + 1) * workI ts i) (w := 0) (by omega) (by omega) (by omega) _ (Nat.le_refl _)).1
            unfold sumL at z1
            omega
          have hde := doneF_end hbb l2 (w := f) (by omega) hf1
          have HDO := Lib.hid (fun W (h : Below wr.heap.size wr W) => done_any (bl + (q + 1) * workI ts i) v1 (loadsI reload ts i) long f W (HST.out.row.kept CLoad.mono h) (loadsI_ok hgood.out (show i ≤ ts.length by omega)) (by omega) hbase hbb l2 (by omega) hf1)
          obtain ⟨m1, m2, -⟩ := hde
          have HBX := Lib.hid (fun W1 (h : Below wr.heap.size wr W1) => HST.out.box.kept h)
          clear hbb HST HSTOP
          generalize doneF (bl + (q + 1) * workI ts i) (loadsI reload ts i) f = f2 at *
          go_wp2_with (go_at_call 56; refine (HDO.out _ (Below.refl _ _)).mono ?_; rintro e w5 ⟨rfl, hb5⟩; have z1 := (HBX.out _ hb5).cell 1 rfl)
          go_roundw
          case rel => exact ⟨q + 1, f2, max r (f2 - q * (gT ts i).T), rfl, rfl, rfl, Lib.hid (HNX.out _ hb5)⟩
          case measure => simp [intOf]; omega
        · have HR := Lib.hid (HSTOP.out hq)
          have HBE := Lib.hid HST.out.below
          clear HST HSTOP
          by_cases hd : r ≤ (gT ts i).D
          · have HF : Hid (withF reload ts i bl = (r, 1)) := Lib.hid (by unfold withF; rw [HA.out]; simp only [HR.out, if_pos hd])
            go_wp2_with fail
            go_ret2
            exact ⟨by rw [HF.out]; rfl, HBE.out⟩
          · have HF : Hid (withF reload ts i bl = (r, 2)) := Lib.hid (by unfold withF; rw [HA.out]; simp only [HR.out, if_neg hd])
            go_wp2_with fail
            go_ret2
            exact ⟨by rw [HF.out]; rfl, HBE.out⟩
    · have hne : v1.ownBlock ≠ some w1.heap.size := fun he => by have := own_base hown2 _ he; simp at this; omega
      have HX : Hid (Blk (World.setCell (World.setCell (World.setCell (World.setCell (World.setCell (World.setCell (World.setCell (World.setCell (World.setCell w2 ⟨w1.heap.size, 0, none⟩ (.string (gT ts i).name)) ⟨w1.heap.size, 1, none⟩ (.int .i64 (gT ts i).T)) ⟨w1.heap.size, 2, none⟩ (.int .i64 (gT ts i).D)) ⟨w1.heap.size, 3, none⟩ (.int .i64 (gT ts i).mode)) ⟨w1.heap.size, 4, none⟩ (.int .i64 (gT ts i).Q)) ⟨w1.heap.size, 5, none⟩ (.int .i64 (gT ts i).theta)) ⟨w1.heap.size, 6, none⟩ (.slice Ar (gT ts i).regs.length cr)) ⟨w1.heap.size, 7, none⟩ (.int .u64 (gT ts i).ecb)) ⟨w1.heap.size, 8, none⟩ (.int .u64 (gT ts i).ucb)) w1.heap.size ((gT ts i).cells (.slice Ar (gT ts i).regs.length cr)) 41 ∧ RdL (World.setCell (World.setCell (World.setCell (World.setCell (World.setCell (World.setCell (World.setCell (World.setCell (World.setCell w2 ⟨w1.heap.size, 0, none⟩ (.string (gT ts i).name)) ⟨w1.heap.size, 1, none⟩ (.int .i64 (gT ts i).T)) ⟨w1.heap.size, 2, none⟩ (.int .i64 (gT ts i).D)) ⟨w1.heap.size, 3, none⟩ (.int .i64 (gT ts i).mode)) ⟨w1.heap.size, 4, none⟩ (.int .i64 (gT ts i).Q)) ⟨w1.heap.size, 5, none⟩ (.int .i64 (gT ts i).theta)) ⟨w1.heap.size, 6, none⟩ (.slice Ar (gT ts i).regs.length cr)) ⟨w1.heap.size, 7, none⟩ (.int .u64 (gT ts i).ecb)) ⟨w1.heap.size, 8, none⟩ (.int .u64 (gT ts i).ucb)) v1 (loadsI reload ts i) ∧ Below w.heap.size w (World.setCell (World.setCell (World.setCell (World.setCell (World.setCell (World.setCell (World.setCell (World.setCell (World.setCell w2 ⟨w1.heap.size, 0, none⟩ (.string (gT ts i).name)) ⟨w1.heap.size, 1, none⟩ (.int .i64 (gT ts i).T)) ⟨w1.heap.size, 2, none⟩ (.int .i64 (gT ts i).D)) ⟨w1.heap.size, 3, none⟩ (.int .i64 (gT ts i).mode)) ⟨w1.heap.size, 4, none⟩ (.int .i64 (gT ts i).Q)) ⟨w1.heap.size, 5, none⟩ (.int .i64 (gT ts i).theta)) ⟨w1.heap.size, 6, none⟩ (.slice Ar (gT ts i).regs.length cr)) ⟨w1.heap.size, 7, none⟩ (.int .u64 (gT ts i).ecb)) ⟨w1.heap.size, 8, none⟩ (.int .u64 (gT ts i).ucb))) := Lib.hid ⟨(((((((((hbx.set 0 _).set 1 _).set 2 _).set 3 _).set 4 _).set 5 _).set 6 _).set 7 _).set 8 _), own_loads (own_set (own_set (own_set (own_set (own_set (own_set (own_set (own_set (own_set hown2 hne _) hne _) hne _) hne _) hne _) hne _) hne _) hne _) hne _) (loadsI_len _ _ _).symm (by omega), below_tr HS.out.2 (below_setCell (below_setCell (below_setCell (below_setCell (below_setCell (below_setCell (below_setCell (below_setCell (below_setCell hB2 (Nat.le_refl _) _) (Nat.le_refl _) _) (Nat.le_refl _) _) (Nat.le_refl _) _) (Nat.le_refl _) _) (Nat.le_refl _) _) (Nat.le_refl _) _) (Nat.le_refl _) _) (Nat.le_refl _) _)⟩
      generalize World.setCell _ _ _ = W3 at *
      generalize w1.heap.size = B at *
      clear hown2 hB2 hb2 hbx hne
      have x0 := HX.out.1.cell 0 rfl
      have x1 := HX.out.1.cell 1 rfl
      have x2 := HX.out.1.cell 2 rfl
      have x3 := HX.out.1.cell 3 rfl
      have x4 := HX.out.1.cell 4 rfl
      have x5 := HX.out.1.cell 5 rfl
      have x6 := HX.out.1.cell 6 rfl
      have x7 := HX.out.1.cell 7 rfl
      have x8 := HX.out.1.cell 8 rfl
      go_wp2_with (go_at_call 18; refine (HWK.out _ HX.out.2.2).mono ?_; rintro e w4 ⟨rfl, hb4⟩; rw [HWI.out])
      go_loopw [6, 13, 14] (fun r f q W => ∃ q' f' r' : Int, q = .int .i64 q' ∧ f = .int .i64 f' ∧ r = .int .i64 r' ∧ Hid (WithSt reload ts i bl long v1 B (.slice Ar (gT ts i).regs.length cr) w q' f' r' W)) (fun _ _ q _ => (1000001 - intOf q).toNat)
      case atStart =>
        exact ⟨0, 1, 0, rfl, rfl, rfl, Lib.hid ⟨by omega, by omega, by omega, hlong.out.1, by omega, by have := hlong.out.1; omega, ⟨1000001, by omega, rfl⟩, HX.out.1.kept hb4, HX.out.2.1.kept CLoad.mono hb4, below_tr HX.out.2.2 hb4⟩⟩
      case round =>
        obtain ⟨q, f, r, rfl, rfl, rfl, HST⟩ := hrel
        clear x0 x1 x2 x3 x4 x5 x6 x7 x8
        have y1 := HST.out.box.cell 1 rfl
        have y2 := HST.out.box.cell 2 rfl
        have q0 := HST.out.q0
        have q1 := HST.out.q1
        have r0 := HST.out.r0
        have r1 := HST.out.r1
        obtain ⟨l1, l2⟩ := hlong.out
        obtain ⟨t1, t2⟩ := HTB.out
        obtain ⟨k1, k2⟩ := HWB.out
        obtain ⟨p1, p2⟩ := nn_mul q0 q1 (show 0 ≤ (gT ts i).T by omega) t2
        obtain ⟨p3, p4⟩ := nn_mul (show 0 ≤ q + 1 by omega) (show q + 1 ≤ 1000001 by omega) (show 0 ≤ workI ts i by omega) k2
        have HSTOP := Lib.hid (fun h => HST.out.stop h)
        by_cases hq : q * (gT ts i).T < long
        · have HNX := Lib.hid (fun W1 hb => HST.out.next (W1 := W1) hgood.out hi h0 HA.out hq hb)
          have hbb := busy_bound hgood.out hi h0 HA.out q0 hq
          have hf0 := HST.out.f0
          have hf1 := HST.out.f1
          have hbase : bl + (q + 1) * workI ts i ≤ 1000000 := by
            have z1 := hbb 0 (by omega) (by omega)
            have z2 := (sumK_bound (loadsI_ok hgood.out (show i ≤ ts.length by omega)) (base := bl + (q + 1) * workI ts i) (w := 0) (by omega) (by omega) (by omega) _ (Nat.le_refl _)).1
            unfold sumL at z1
            omega
          have hde := doneF_end hbb l2 (w := f) (by omega) hf1
          have HDO := Lib.hid (fun W (h : Below wr.heap.size wr W) => done_any (bl + (q + 1) * workI ts i) v1 (loadsI reload ts i) long f W (HST.out.row.kept CLoad.mono h) (loadsI_ok hgood.out (show i ≤ ts.length by omega)) (by omega) hbase hbb l2 (by omega) hf1)
          obtain ⟨m1, m2, -⟩ := hde
          have HBX := Lib.hid (fun W1 (h : Below wr.heap.size wr W1) => HST.out.box.kept h)
          clear hbb HST HSTOP
          generalize doneF (bl + (q + 1) * workI ts i) (loadsI reload ts i) f = f2 at *
          go_wp2_with (go_at_call 56; refine (HDO.out _ (Below.refl _ _)).mono ?_; rintro e w5 ⟨rfl, hb5⟩; have z1 := (HBX.out _ hb5).cell 1 rfl)
          go_roundw
          case rel => exact ⟨q + 1, f2, max r (f2 - q * (gT ts i).T), rfl, rfl, rfl, Lib.hid (HNX.out _ hb5)⟩
          case measure => simp [intOf]; omega
        · have HR := Lib.hid (HSTOP.out hq)
          have HBE := Lib.hid HST.out.below
          clear HST HSTOP
          by_cases hd : r ≤ (gT ts i).D
          · have HF : Hid (withF reload ts i bl = (r, 1)) := Lib.hid (by unfold withF; rw [HA.out]; simp only [HR.out, if_pos hd])
            go_wp2_with fail
            go_ret2
            exact ⟨by rw [HF.out]; rfl, HBE.out⟩
          · have HF : Hid (withF reload ts i bl = (r, 2)) := Lib.hid (by unfold withF; rw [HA.out]; simp only [HR.out, if_neg hd])
            go_wp2_with fail
            go_ret2
            exact ⟨by rw [HF.out]; rfl, HBE.out⟩
end Go.Proofs.YtopmnpkjhaabcaaGreatDoor
