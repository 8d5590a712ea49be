/- taskmasterlaw15.may, known walked. -/
import Derived.Test.YtopmnpkjhaabcaaDoorAe
set_option linter.unusedVariables false
set_option linter.unusedSimpArgs false
namespace Go.Proofs.YtopmnpkjhaabcaaDoor
open Go.RowKit

def mayK (ts : List Task) (k : Nat) : Bool := decide (3 ≤ (gT ts k).T) && decide ((gT ts k).D ≤ 300)
/-- What may answers. -/
def mayB (reload : Int) (ts : List Task) : Bool := decide (ts.length ≤ 10) && (refAllB reload ts && (List.range ts.length).all (mayK ts))
theorem mayB_no {reload : Int} {ts : List Task} {k : Nat} (hk : k < ts.length) (h : mayK ts k = false) : mayB reload ts = false := by
  have : (List.range ts.length).all (mayK ts) = false := by
    rw [List.all_eq_false]
    exact ⟨k, List.mem_range.2 hk, by simp [h]⟩
  simp [mayB, this]
theorem mayB_at {reload : Int} {ts : List Task} (h : mayB reload ts = true) : refAllB reload ts = true ∧ ∀ k, k < ts.length → 3 ≤ (gT ts k).T ∧ (gT ts k).D ≤ 300 := by
  unfold mayB mayK at h
  simp only [Bool.and_eq_true, decide_eq_true_eq, List.all_eq_true, List.mem_range] at h
  exact ⟨h.2.1, h.2.2⟩
set_option maxRecDepth 100000 in
set_option maxHeartbeats 2000000 in
theorem may_any (reload : Int) (vs : Value) (ts : List Task) (w : World) (hv : RdT w vs ts) (hn : ∀ t ∈ ts, t.name.size ≤ 140737488351232) :
    Calls Tryd.prog 5 #[.agg #[.int .i64 reload, vs]] w fun e w' => e = .returned (.bool (mayB reload ts)) ∧ Below w.heap.size w w' := by
  have HRA := Lib.hid (fun W (h : Below w.heap.size w W) => rall_any reload vs ts W (hv.kept CTask.mono h) hn)
  obtain ⟨A, c, rfl, hle, hat⟩ := hv.at
  have HAT := Lib.hid hat
  clear hat hv hn
  by_cases h1 : ts.length ≤ 10
  · cases h2 : refAllB reload ts
    · have HA := Lib.hid h2
      have HF : Hid (mayB reload ts = false) := Lib.hid (by simp [mayB, h2])
      clear h2
      go_enter Tryd.func5, Tryd.ntmps5
      go_wp2_with (go_at_call 13; refine (HRA.out _ (by repeat (first | exact Below.refl _ _ | refine Below.drew ?_ | refine Below.alloc ?_ (by simp <;> omega) _))).mono ?_; rintro e w1 ⟨rfl, hb1⟩; rw [HA.out]; have HB1 := Lib.hid (below_tr (Below.alloc (Below.refl w.heap.size w) (Nat.le_refl _) _) hb1); clear hb1)
      go_ret
      exact ⟨ret_bool (by rw [HF.out]), HB1.out⟩
    · have HA := Lib.hid h2
      have HR : Hid (mayB reload ts = (List.range ts.length).all (mayK ts)) := Lib.hid (by simp [mayB, h1, h2])
      clear h2
      go_enter Tryd.func5, Tryd.ntmps5
      go_wp2_with (go_at_call 13; refine (HRA.out _ (by repeat (first | exact Below.refl _ _ | refine Below.drew ?_ | refine Below.alloc ?_ (by simp <;> omega) _))).mono ?_; rintro e w1 ⟨rfl, hb1⟩; rw [HA.out]; have HS : Hid (SetC reload (.slice A ts.length c) w w1) := Lib.hid (SetC.kept ⟨Blk.newAt rfl, (by repeat (first | exact Below.refl _ _ | refine Below.drew ?_ | refine Below.alloc ?_ (by simp <;> omega) _))⟩ hb1); clear hb1; have b1 := HS.out.1.cell 1 rfl)
      go_loop [3] (fun i => ∃ k : Nat, k ≤ ts.length ∧ i = .int .i64 k ∧ Hid (∀ j, j < k → mayK ts j = true)) (fun i => ts.length - (intOf i).toNat)
      case atStart => exact ⟨0, Nat.zero_le _, rfl, Lib.hid (fun j hj => by omega)⟩
      case round =>
        obtain ⟨k, hk, rfl, HALL⟩ := hrel
        by_cases hlt : k < ts.length
        · obtain ⟨b, o, vr, rfl, -, hcell⟩ := HAT.out k hlt
          have hcell2 := fun j u hu => cell_kept HS.out.2 (hcell j u hu)
          obtain ⟨c0, c1, c2, c3, c4, c5, c6, c7, c8⟩ := task_cells hcell2
          clear hcell hcell2
          by_cases h3 : 3 ≤ (gT ts k).T
          · by_cases h4 : (gT ts k).D ≤ 300
            · have d4 : decide (300 < (gT ts k).D) = false := by simp; omega
              have d3 : decide ((gT ts k).T < 3) = false := by simp; omega
              have HALL2 : Hid (∀ j, j < k + 1 → mayK ts j = true) := Lib.hid (fun j hj => by
                by_cases h : j = k
                · subst h; simp [mayK, h3, h4]
                · exact HALL.out j (by omega))
              go_wp2
              go_round
              case rel => exact ⟨k + 1, hlt, by go_num, HALL2⟩
              case measure => simp [intOf]; omega
            · have d4 : decide (300 < (gT ts k).D) = true := by simp; omega
              have d3 : decide ((gT ts k).T < 3) = false := by simp; omega
              have HF : Hid (mayB reload ts = false) := Lib.hid (mayB_no hlt (by simp [mayK, h4]))
              go_wp2
              go_ret
              exact ⟨ret_bool (by rw [HF.out]), HS.out.2⟩
          · have d3 : decide ((gT ts k).T < 3) = true := by simp; omega
            have HF : Hid (mayB reload ts = false) := Lib.hid (mayB_no hlt (by simp [mayK, h3]))
            go_wp2
            go_ret
            exact ⟨ret_bool (by rw [HF.out]), HS.out.2⟩
        · obtain rfl : k = ts.length := by omega
          have HF : Hid (mayB reload ts = true) := Lib.hid (by
            rw [HR.out, List.all_eq_true]
            intro j hj
            exact HALL.out j (List.mem_range.1 hj))
          go_wp2
          go_ret
          exact ⟨ret_bool (by rw [HF.out]), HS.out.2⟩
  · have HF : Hid (mayB reload ts = false) := Lib.hid (by simp [mayB, h1])
    go_enter Tryd.func5, Tryd.ntmps5
    go_wp2
    go_ret
    exact ⟨ret_bool (by rw [HF.out]), (by repeat (first | exact Below.refl _ _ | refine Below.drew ?_ | refine Below.alloc ?_ (by simp <;> omega) _))⟩

/-- The one task of known. -/
def oneTask : Task := ⟨⟨#[97]⟩, 5, 5, 0, 0, 0, [2, 1], 0, 0⟩
theorem one_refAll : refAllB 0 [oneTask] = true := by decide +kernel
theorem one_good : Good 0 [oneTask] := refAll_good one_refAll (fun k hk => by obtain rfl : k = 0 := by simp at hk; omega
                                                                              decide) (fun k hk => by obtain rfl : k = 0 := by simp at hk; omega
                                                                                                      decide)
theorem one_reads {W : World} {p q c d : Nat} (h1 : Blk W p [.int .i64 2, .int .i64 1] 2) (h2 : Blk W q (oneTask.cells (.slice (some ⟨p, 0, none⟩) 2 c)) 34) : RdT W (.slice (some ⟨q, 0, none⟩) 1 d) [oneTask] := by
  refine ⟨_, d, rfl, by simp, fun j x hj => ?_⟩
  match j, hj with
  | 0, hj =>
    cases hj
    refine ⟨q, 0, _, rfl, ⟨_, rfl, ⟨_, c, rfl, by simp [oneTask], fun j x hj => ?_⟩⟩, fun k u hu => by have := h2.cell k hu; simpa using this⟩
    match j, hj with
    | 0, hj => cases hj; exact ⟨p, 0, _, rfl, rfl, fun k u hu => by
        match k, hu with
        | 0, hu => cases hu; exact h1.cell 0 rfl
        | k + 1, hu => simp at hu⟩
    | 1, hj => cases hj; exact ⟨p, 0, _, rfl, rfl, fun k u hu => by
        match k, hu with
        | 0, hu => cases hu; exact h1.cell 1 rfl
        | k + 1, hu => simp at hu⟩
    | j + 2, hj => simp [oneTask] at hj
  | j + 1, hj => simp at hj
theorem one_names : ∀ t ∈ [oneTask], t.name.size ≤ 140737488351232 := by
  intro t ht
  rw [List.mem_singleton] at ht
  subst ht
  decide
theorem one_spread : spreadF 0 [oneTask] = some [3] := by decide +kernel
theorem one_spreadPut : spreadPutF 0 [oneTask] = some [{ oneTask with mode := 1, Q := 3 }] := by
  unfold spreadPutF
  have h : (tolAllF 0 [oneTask]).isSome = true := by decide +kernel
  obtain ⟨bear, hb⟩ := Option.isSome_iff_exists.1 h
  rw [hb]
  rfl
def KnowSt (w W : World) : Prop := Blk W w.heap.size [.int .i64 2, .int .i64 1] 2 ∧ Blk W (w.heap.size + 1) (oneTask.cells (.slice (some ⟨w.heap.size, 0, none⟩) 2 2)) 34 ∧ Blk W (w.heap.size + 2) [.int .i64 0, .slice (some ⟨w.heap.size + 1, 0, none⟩) 1 1] 24 ∧ Below w.heap.size w W
theorem KnowSt.kept {w W W' : World} (h : KnowSt w W) (hb : Below W.heap.size W W') : KnowSt w W' := ⟨h.1.kept hb, h.2.1.kept hb, h.2.2.1.kept hb, below_tr h.2.2.2 hb⟩
theorem KnowSt.reads {w W : World} (h : KnowSt w W) : RdT W (.slice (some ⟨w.heap.size + 1, 0, none⟩) 1 1) [oneTask] := one_reads h.1 h.2.1
theorem one_list {α β : Type} {xs : List (α × β)} {t : α} (h : xs.map Prod.fst = [t]) : ∃ x, xs = [x] ∧ x.1 = t := by
  cases xs with
  | nil => simp at h
  | cons x l =>
    cases l with
    | nil => exact ⟨x, rfl, by simpa using h⟩
    | cons y l => simp at h
theorem one_cap {A : Option Addr} : CapOk (.slice A 1 1) := by intro A' n c he; cases he; exact Nat.le_refl _
set_option maxRecDepth 100000 in
set_option maxHeartbeats 2000000 in
theorem known15_any (w : World) (hT : SpaceTab w) : Calls Tryd.prog 9 #[] w fun e w' => e = .returned (.bool true) ∧ Below w.heap.size w w' := by
  have HSO : Hid (∀ W, KnowSt w W → Calls Tryd.prog 14 #[.agg #[.int .i64 0, .slice (some ⟨w.heap.size + 1, 0, none⟩) 1 1]] W fun e w' => ∃ v, e = .returned (.tuple #[v, .bool true]) ∧ w'.ownsRow W.heap.size 2 1 v 1 [.int .i64 3] ∧ Below W.heap.size W w') := Lib.hid (fun W h => by
    have h1 := spreadOf_any 0 _ [oneTask] W h.reads one_cap one_good (refAll_all one_refAll) one_names (hT.below h.2.2.2)
    rw [one_spread] at h1
    exact h1)
  have HPU : Hid (∀ W, KnowSt w W → Calls Tryd.prog 7 #[.agg #[.int .i64 0, .slice (some ⟨w.heap.size + 1, 0, none⟩) 1 1]] W fun e w' => ∃ v xs, e = .returned (.tuple #[.agg #[.int .i64 0, v], .bool true]) ∧ xs.map Prod.fst = [{ oneTask with mode := 1, Q := 3 }] ∧ OwnT w' W.heap.size v xs ∧ Below W.heap.size W w') := Lib.hid (fun W h => by
    have h1 := spreadPut_any 0 _ [oneTask] W h.reads one_cap one_good (refAll_all one_refAll) one_names (hT.below h.2.2.2)
    rw [one_spreadPut] at h1
    exact h1)
  clear hT
  go_enter Tryd.func9, Tryd.ntmps9
  go_upto_region 2 with (fail)
  have HK : Hid (KnowSt w (((w.alloc (Obj.cells #[.int .i64 2, .int .i64 1] 2)).alloc (Obj.cells #[.string { data := #[97] }, .int .i64 5, .int .i64 5, .int .i64 0, .int .i64 0, .int .i64 0, .slice (some ⟨w.heap.size, 0, none⟩) 2 2, .int .u64 0, .int .u64 0] 34)).alloc (Obj.cells #[.int .i64 0, .slice (some ⟨w.heap.size + 1, 0, none⟩) 1 1] 24))) := Lib.hid ⟨((Blk.newAt rfl).alloc _).alloc _, (Blk.newAt (by simp)).alloc _, Blk.newAt (by simp), (by repeat (first | exact Below.refl _ _ | refine Below.drew ?_ | refine Below.alloc ?_ (by simp <;> omega) _))⟩
  generalize ((w.alloc _).alloc _).alloc _ = W3 at *
  have b0 := HK.out.2.2.1.cell 0 rfl
  have b1 := HK.out.2.2.1.cell 1 rfl
  go_upto_region 3 with (go_at_call 14; refine (HSO.out _ HK.out).mono ?_; rintro e w4 ⟨v, rfl, hown, hb4⟩; have HK4 := Lib.hid (HK.out.kept hb4); obtain ⟨g, cg, rfl, hg1, -, hgc⟩ := own_cells hown (by omega); have HQ := Lib.hid (hgc 0 _ rfl); clear hown hgc hb4)
  clear b0 b1 HK
  have b0 := HK4.out.2.2.1.cell 0 rfl
  have b1 := HK4.out.2.2.1.cell 1 rfl
  go_upto_region 4 with (go_at_call 7; refine (HPU.out _ HK4.out).mono ?_; rintro e w5 ⟨v, xs, rfl, hxs, hown, hb5⟩; have HB5 := Lib.hid (below_tr HK4.out.2.2.2 hb5); have q0 := cell_kept hb5 HQ.out; obtain ⟨x, rfl, hx1⟩ := one_list hxs; obtain ⟨g2, cg2, rfl, hg2, -, hgc2⟩ := own_cells hown.row (by simp); have x3 := hgc2 3 (.int .i64 1) (by simp [tasksC, hx1, Task.cells]); have x4 := hgc2 4 (.int .i64 3) (by simp [tasksC, hx1, Task.cells]); clear hown hgc2 hxs hx1 hb5)
  have y3 := cell_kept ((Below.refl w5.heap.size w5).alloc (Nat.le_refl _) (Obj.cells #[.int .i64 0, .slice (some ⟨g2, 0, none⟩) 1 cg2] 24)) x3
  have y4 := cell_kept ((Below.refl w5.heap.size w5).alloc (Nat.le_refl _) (Obj.cells #[.int .i64 0, .slice (some ⟨g2, 0, none⟩) 1 cg2] 24)) x4
  have q1 := cell_kept ((Below.refl w5.heap.size w5).alloc (Nat.le_refl _) (Obj.cells #[.int .i64 0, .slice (some ⟨g2, 0, none⟩) 1 cg2] 24)) q0
  clear x3 x4 q0
  go_wp2
  go_ret
  exact ⟨rfl, HB5.out.alloc HB5.out.size _⟩
end Go.Proofs.YtopmnpkjhaabcaaDoor
