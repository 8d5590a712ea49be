/- taskmasterlaw17.RaiseTells walked. -/
import Derived.Test.YtopmnpkjhaabcaaGreatDoorBl
import Derived.Test.YtopmnpkjhaabcaaGreatDoorBh
set_option linter.unusedVariables false
set_option linter.unusedSimpArgs false
namespace Go.Proofs.YtopmnpkjhaabcaaGreatDoor
open Go.RowKit

theorem RPost.reads {r : Option (List Int)} {w : World} {e : Ending} {w' : World} (h : RPost r w e w') (hl : (r.getD []).length ≤ 8) : ∃ v, e = .returned (.tuple #[v, .bool r.isSome]) ∧ RdI w' v (r.getD []) ∧ Below w.heap.size w w' := by
  cases r with
  | none => exact ⟨_, h.1, ⟨none, 0, rfl, by simp, fun j x hj => by simp at hj⟩, h.2⟩
  | some l =>
    obtain ⟨v, h1, h2, h3⟩ := h
    have hl8 : l.length ≤ 8 := hl
    exact ⟨v, h1, own_intsE h2 rfl (by omega), h3⟩
theorem PutPost.reads {reload : Int} {r : Option (List Task)} {w : World} {e : Ending} {w' : World} (h : PutPost reload r w e w') (hl : (r.getD []).length ≤ 8) (hr : ∀ t ∈ r.getD [], t.regs.length ≤ 8) :
    ∃ A c, e = .returned (.tuple #[.agg #[.int .i64 (if r.isSome then reload else 0), .slice A (r.getD []).length c], .bool r.isSome]) ∧ RdT w' (.slice A (r.getD []).length c) (r.getD []) ∧ Below w.heap.size w w' := by
  cases r with
  | none => exact ⟨none, 0, h.1, ⟨none, 0, rfl, by simp, fun j x hj => by simp at hj⟩, h.2⟩
  | some l =>
    obtain ⟨v, xs, h1, h2, h3, h4⟩ := h
    have hl8 : l.length ≤ 8 := hl
    have hlen : xs.length = l.length := by rw [← h2]; simp
    have hrd := h3.reads (fun x hx => by
      have hm : x.1 ∈ l := by rw [← h2]; exact List.mem_map_of_mem hx
      have := hr _ hm
      omega) (by omega)
    rw [h2] at hrd
    obtain ⟨A, c, hv, hle, hat⟩ := hrd.at
    subst hv
    exact ⟨A, c, h1, hrd, h4⟩
theorem raiseF_len (reload : Int) (ts : List Task) : ((raiseF reload ts).getD []).length ≤ ts.length := by
  unfold raiseF
  cases tolAllF reload ts with
  | none => simp
  | some b => simp [pL_len]
theorem raisePutF_len (reload : Int) (ts : List Task) : ((raisePutF reload ts).getD []).length ≤ ts.length := by
  unfold raisePutF
  cases tolAllF reload ts with
  | none => simp
  | some b => simp
theorem raisePutF_regs {reload : Int} {ts : List Task} (hG : Good reload ts) : ∀ t ∈ (raisePutF reload ts).getD [], t.regs.length ≤ 8 := by
  unfold raisePutF
  cases tolAllF reload ts with
  | none => simp
  | some b =>
    intro t ht
    simp only [Option.map_some, Option.getD_some, List.mem_map, List.mem_range] at ht
    obtain ⟨k, hk, rfl⟩ := ht
    have := (regsB_iff _).1 (hG.regs k hk)
    simp only [pTask]
    omega
set_option maxRecDepth 100000 in
set_option maxHeartbeats 4000000 in
theorem raiseTells_any (reload : Int) (vs : Value) (ts : List Task) (w : World) (hv : RdT w vs ts) (hcap : CapOk vs) (hn : ∀ t ∈ ts, t.name.size ≤ 140737488351232) (hT : SpaceTab w)
    (hu : ∀ k, k < ts.length → 0 ≤ (gT ts k).ucb ∧ (gT ts k).ucb < 18446744073709551616) (he : ∀ k, k < ts.length → 0 ≤ (gT ts k).ecb ∧ (gT ts k).ecb < 18446744073709551616) :
    Calls Tryz.prog 3 #[.agg #[.int .i64 reload, vs]] w fun e w' => e = .returned (.bool true) ∧ Below w.heap.size w w' := by
  have HMA := Lib.hid (fun W (h : Below w.heap.size w W) => may17_any reload vs ts W (hv.kept CTask.mono h) hn)
  have HVS := Lib.hid (fun W (h : Below w.heap.size w W) => (hv.kept CTask.mono h : RdT W vs ts))
  have HT := Lib.hid hT
  have HCP := Lib.hid hcap
  have HN := Lib.hid hn
  have HUE := Lib.hid (And.intro hu he)
  obtain ⟨A, c, rfl, hle, hat⟩ := hv.at
  clear hat hv hn hT hu he hcap
  cases hm : mayB reload ts
  · have HM := Lib.hid hm
    clear hm
    go_enter Tryz.func3, Tryz.ntmps3
    go_wp2_with (go_at_call 6; refine (HMA.out _ (by repeat (first | exact Below.refl _ _ | refine Below.drew ?_ | refine Below.alloc ?_ (by simp <;> omega) _))).mono ?_; rintro e w1 ⟨rfl, hb1⟩; rw [HM.out]; have HB1 := Lib.hid (below_tr (Below.alloc (Below.refl w.heap.size w) (Nat.le_refl _) _) hb1); clear hb1)
    go_ret
    exact ⟨rfl, HB1.out⟩
  · have HM := Lib.hid hm
    obtain ⟨hra, htd⟩ := mayB_at hm
    have HG := Lib.hid (refAll_good hra HUE.out.1 HUE.out.2)
    have HALL := Lib.hid (refAll_all hra)
    have hl8 := HG.out.n8
    clear hm hra htd
    have HO1 : Hid (∀ W, Below w.heap.size w W → Calls Tryz.prog 7 #[.agg #[.int .i64 reload, .slice A ts.length c]] W fun e w' => ∃ v, e = .returned (.tuple #[v, .bool (raiseF reload ts).isSome]) ∧ RdI w' v ((raiseF reload ts).getD []) ∧ Below W.heap.size W w') := Lib.hid (fun W hb => (raiseOf_any reload _ ts W (HVS.out W hb) HCP.out HG.out HALL.out HN.out (HT.out.below hb)).mono fun e w' h => h.reads (Nat.le_trans (raiseF_len reload ts) hl8))
    have HO2 : Hid (∀ W, Below w.heap.size w W → Calls Tryz.prog 8 #[.agg #[.int .i64 reload, .slice A ts.length c]] W fun e w' => ∃ v, e = .returned (.tuple #[v, .bool (raiseF reload ts).isSome]) ∧ RdI w' v ((raiseF reload ts).getD []) ∧ Below W.heap.size W w') := Lib.hid (fun W hb => (rraiseOf_any reload _ ts W (HVS.out W hb) HG.out).mono fun e w' h => h.reads (Nat.le_trans (raiseF_len reload ts) hl8))
    have HP1 : Hid (∀ W, Below w.heap.size w W → Calls Tryz.prog 9 #[.agg #[.int .i64 reload, .slice A ts.length c]] W fun e w' => ∃ B d, e = .returned (.tuple #[.agg #[.int .i64 (if (raisePutF reload ts).isSome then reload else 0), .slice B ((raisePutF reload ts).getD []).length d], .bool (raisePutF reload ts).isSome]) ∧ RdT w' (.slice B ((raisePutF reload ts).getD []).length d) ((raisePutF reload ts).getD []) ∧ Below W.heap.size W w') := Lib.hid (fun W hb => (raisePut_any reload _ ts W (HVS.out W hb) HCP.out HG.out HALL.out HN.out (HT.out.below hb)).mono fun e w' h => h.reads (Nat.le_trans (raisePutF_len reload ts) hl8) (raisePutF_regs HG.out))
    have HP2 : Hid (∀ W, Below w.heap.size w W → Calls Tryz.prog 10 #[.agg #[.int .i64 reload, .slice A ts.length c]] W fun e w' => ∃ B d, e = .returned (.tuple #[.agg #[.int .i64 (if (raisePutF reload ts).isSome then reload else 0), .slice B ((raisePutF reload ts).getD []).length d], .bool (raisePutF reload ts).isSome]) ∧ RdT w' (.slice B ((raisePutF reload ts).getD []).length d) ((raisePutF reload ts).getD []) ∧ Below W.heap.size W w') := Lib.hid (fun W hb => (rraisePut_any reload _ ts W (HVS.out W hb) HG.out).mono fun e w' h => h.reads (Nat.le_trans (raisePutF_len reload ts) hl8) (raisePutF_regs HG.out))
    have hll : ((raisePutF reload ts).getD []).length ≤ 8 := Nat.le_trans (raisePutF_len reload ts) hl8
    generalize (if (raisePutF reload ts).isSome then reload else 0) = rl at *
    generalize (raiseF reload ts).isSome = ok at *
    generalize (raiseF reload ts).getD [] = l at *
    generalize (raisePutF reload ts).isSome = is at *
    generalize (raisePutF reload ts).getD [] = ls at *
    have HSM : Hid (sameB rl rl ls ls = true) := Lib.hid (sameB_yes rfl rfl)
    have HEQ : Hid (decide (l = l) = true) := Lib.hid (by simp)
    have hoo : (ok == ok) = true := by simp
    have hii : (is == is) = true := by simp
    go_enter Tryz.func3, Tryz.ntmps3
    go_upto_region 3 with (go_at_call 6; refine (HMA.out _ (by repeat (first | exact Below.refl _ _ | refine Below.drew ?_ | refine Below.alloc ?_ (by simp <;> omega) _))).mono ?_; rintro e w1 ⟨rfl, hb1⟩; rw [HM.out]; have HS : Hid (SetC reload (.slice A ts.length c) w w1) := Lib.hid (SetC.kept ⟨Blk.newAt rfl, (by repeat (first | exact Below.refl _ _ | refine Below.drew ?_ | refine Below.alloc ?_ (by simp <;> omega) _))⟩ hb1); clear hb1; have s0 := HS.out.1.cell 0 rfl; have s1 := HS.out.1.cell 1 rfl)
    go_upto_region 4 with (go_at_call 7; refine (HO1.out _ HS.out.2).mono ?_; rintro e w2 ⟨v1, rfl, hr1, hb2⟩; have HS2 := Lib.hid (HS.out.kept hb2); have HR1 := Lib.hid hr1; clear hb2 hr1)
    clear s0 s1 HS
    have s0 := HS2.out.1.cell 0 rfl
    have s1 := HS2.out.1.cell 1 rfl
    go_upto_region 5 with (go_at_call 8; refine (HO2.out _ HS2.out.2).mono ?_; rintro e w3 ⟨v2, rfl, hr2, hb3⟩; have HS3 := Lib.hid (HS2.out.kept hb3); have HR2 := Lib.hid (And.intro (HR1.out.kept CInt.mono hb3) hr2); clear hb3 hr2)
    clear s0 s1 HS2
    have s0 := HS3.out.1.cell 0 rfl
    have s1 := HS3.out.1.cell 1 rfl
    go_upto_region 6 with (go_at_call 9; refine (HP1.out _ HS3.out.2).mono ?_; rintro e w4 ⟨B1, d1, rfl, hr3, hb4⟩; have HS4 := Lib.hid (HS3.out.kept hb4); have HR3 := Lib.hid (And.intro (HR2.out.1.kept CInt.mono hb4) (And.intro (HR2.out.2.kept CInt.mono hb4) hr3)); clear hb4 hr3)
    clear s0 s1 HS3
    have H5 : Hid (SetC reload (.slice A ts.length c) w (w4.alloc (Obj.cells #[.int .i64 rl, .slice B1 ls.length d1] 24)) ∧ Blk (w4.alloc (Obj.cells #[.int .i64 rl, .slice B1 ls.length d1] 24)) w4.heap.size [.int .i64 rl, .slice B1 ls.length d1] 24 ∧ RdI (w4.alloc (Obj.cells #[.int .i64 rl, .slice B1 ls.length d1] 24)) v1 l ∧ RdI (w4.alloc (Obj.cells #[.int .i64 rl, .slice B1 ls.length d1] 24)) v2 l ∧ RdT (w4.alloc (Obj.cells #[.int .i64 rl, .slice B1 ls.length d1] 24)) (.slice B1 ls.length d1) ls) := Lib.hid (by
      have hb := (Below.refl w4.heap.size w4).alloc (Nat.le_refl _) (Obj.cells #[.int .i64 rl, .slice B1 ls.length d1] 24)
      exact ⟨HS4.out.kept hb, Blk.newAt rfl, HR3.out.1.kept CInt.mono hb, HR3.out.2.1.kept CInt.mono hb, HR3.out.2.2.kept CTask.mono hb⟩)
    generalize w4.alloc _ = W5 at *
    generalize w4.heap.size = X at *
    clear HS4 HR3
    have s0 := H5.out.1.1.cell 0 rfl
    have s1 := H5.out.1.1.cell 1 rfl
    go_upto_region 7 with (go_at_call 10; refine (HP2.out _ H5.out.1.2).mono ?_; rintro e w6 ⟨B2, d2, rfl, hr4, hb6⟩; have H6 := Lib.hid (And.intro (H5.out.1.kept hb6) (And.intro (H5.out.2.1.kept hb6) (And.intro (H5.out.2.2.1.kept CInt.mono hb6) (And.intro (H5.out.2.2.2.1.kept CInt.mono hb6) (And.intro (H5.out.2.2.2.2.kept CTask.mono hb6) hr4))))); clear hb6 hr4)
    clear s0 s1 H5
    have H7 : Hid (Below w.heap.size w (w6.alloc (Obj.cells #[.int .i64 rl, .slice B2 ls.length d2] 24)) ∧ Blk (w6.alloc (Obj.cells #[.int .i64 rl, .slice B2 ls.length d2] 24)) X [.int .i64 rl, .slice B1 ls.length d1] 24 ∧ Blk (w6.alloc (Obj.cells #[.int .i64 rl, .slice B2 ls.length d2] 24)) w6.heap.size [.int .i64 rl, .slice B2 ls.length d2] 24 ∧ RdI (w6.alloc (Obj.cells #[.int .i64 rl, .slice B2 ls.length d2] 24)) v1 l ∧ RdI (w6.alloc (Obj.cells #[.int .i64 rl, .slice B2 ls.length d2] 24)) v2 l ∧ RdT (w6.alloc (Obj.cells #[.int .i64 rl, .slice B2 ls.length d2] 24)) (.slice B1 ls.length d1) ls ∧ RdT (w6.alloc (Obj.cells #[.int .i64 rl, .slice B2 ls.length d2] 24)) (.slice B2 ls.length d2) ls) := Lib.hid (by
      have hb := (Below.refl w6.heap.size w6).alloc (Nat.le_refl _) (Obj.cells #[.int .i64 rl, .slice B2 ls.length d2] 24)
      exact ⟨below_tr H6.out.1.2 hb, H6.out.2.1.kept hb, Blk.newAt rfl, H6.out.2.2.1.kept CInt.mono hb, H6.out.2.2.2.1.kept CInt.mono hb, H6.out.2.2.2.2.1.kept CTask.mono hb, H6.out.2.2.2.2.2.kept CTask.mono hb⟩)
    generalize w6.alloc _ = W7 at *
    generalize w6.heap.size = Y at *
    clear H6
    have HNU := Lib.hid (rints_any v1 v2 l l W7 H7.out.2.2.2.1 H7.out.2.2.2.2.1)
    have HSA : Hid (∀ W, Below W7.heap.size W7 W → Calls Tryz.prog 12 #[.agg #[.int .i64 rl, .slice B1 ls.length d1], .agg #[.int .i64 rl, .slice B2 ls.length d2]] W fun e w' => e = .returned (.bool true) ∧ Below W.heap.size W w') := Lib.hid (fun W hb => by
      have h1 := rsame_any rl rl _ _ ls ls W (H7.out.2.2.2.2.2.1.kept CTask.mono hb) (H7.out.2.2.2.2.2.2.kept CTask.mono hb)
      rw [HSM.out] at h1
      exact h1)
    go_wp2_with (first
      | (go_at_call 11; refine HNU.out.mono ?_; rintro e w8 ⟨rfl, hb8⟩; rw [HEQ.out]; have H8 := Lib.hid (And.intro (H7.out.2.1.kept hb8) (H7.out.2.2.1.kept hb8)); have x0 := H8.out.1.cell 0 rfl; have x1 := H8.out.1.cell 1 rfl; have y0 := H8.out.2.cell 0 rfl; have y1 := H8.out.2.cell 1 rfl)
      | (go_at_call 12; refine (HSA.out _ hb8).mono ?_; rintro e w9 ⟨rfl, hb9⟩; have HB9 := Lib.hid (below_tr H7.out.1 (below_tr hb8 hb9)))
      | (go_at_call 13; refine (known17_any _ (HT.out.below HB9.out)).mono ?_; rintro e w10 ⟨rfl, hb10⟩))
    go_ret
    exact ⟨rfl, below_tr HB9.out hb10⟩
end Go.Proofs.YtopmnpkjhaabcaaGreatDoor
