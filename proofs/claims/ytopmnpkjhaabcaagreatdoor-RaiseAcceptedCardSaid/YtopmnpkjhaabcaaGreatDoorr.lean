/- active.Of walked, at a set that may be. -/
import Derived.Test.YtopmnpkjhaabcaaGreatDoorq
set_option linter.unusedVariables false
set_option linter.unusedSimpArgs false
namespace Go.Proofs.YtopmnpkjhaabcaaGreatDoor
open Go.RowKit

section
variable {P : Program} {ops : Array Oper} {o : Oper} {a : Act} {Q : Exit → Act → World → Prop}
/-- 'append(v, y)' in a region that draws its order, v a row of the call's own, y just laid in a block of its own. -/
theorem step_append_one {K : Act → World → Prop} {E : Prop} {w0 W : World} {B0 : Nat} (base : Nat) (hgd : o.guard = none) (s x : Operand) (t e : TypeId) (z : Value) (sz bytes : Nat)
    (ho : o.op = .call { callee := .builtin .append, args := #[s, x], argTypes := #[t, t] })
    (ht : P.underlying t = some (.slice e)) (hinfo : (P.info? e).map (fun i => (i.zero, i.size, i.bytes)) = some (some z, sz, bytes)) (hz : z.cells.size = sz) (hsz : 0 < sz) (hb0 : 0 < bytes)
    (v : Value) (n : Nat) (xs ys : List Value) (hys : ys.length = sz) (hs : a.eval s = v) (hx : a.eval x = .slice (some ⟨W.heap.size, 0, none⟩) 1 1) (h1 : ∀ y ∈ ys, y.oneCell' = true)
    (HO : W.ownsRow base e sz v n xs) (HB : Below B0 w0 W) (hB0 : B0 ≤ base) (hbase : base ≤ W.heap.size) (hl : (n + 1) * bytes ≤ 140737488355328)
    (h : ∀ v1 w1, w1.ownsRow base e sz v1 (n + 1) (xs ++ ys) → Below B0 w0 w1 → W.grownBy w1 v.ownBlock → K (a.put o.dst v1) w1) :
    if Region.wanted o (yielded ops a.tmps) = true then Oper.wp P o a (W.alloc (.cells ys.toArray e)) K Q else E := by
  obtain ⟨i0, hi, hzz⟩ := Option.map_eq_some_iff.1 hinfo
  simp only [Prod.mk.injEq] at hzz
  obtain ⟨hz0, hz1, hz2⟩ := hzz
  have hlen : n + 1 ≤ 140737488355328 := Nat.le_trans (Nat.le_mul_of_pos_right _ hb0) hl
  refine step_append_lies (P := P) (W.alloc (.cells ys.toArray e)) hgd s x t ho base e i0 z sz bytes ht hi hz0 hz1 hz2 hz hsz v n xs hs (HO.alloc _) ⟨W.heap.size, 0, none⟩ 1 1 ys hx (by rw [hys, Nat.one_mul])
    (by have := World.news_of_block (heap_alloc_new W (.cells ys.toArray e)); simpa using this) h1 (by omega) (by simp only [maxLen]; omega) hl (by simp; omega) (W.heap.size + 1) (by simp) ?_
  intro g cap w1 hown hg hat hlt
  exact h _ w1 hown ((HB.alloc (Nat.le_trans hB0 hbase) _).grown hg (by simp; omega) (fun k hk => Nat.le_trans hB0 (own_base HO k hk))) (World.grownBy.trans (World.grownBy_alloc W _ _) hg)
end
theorem keep11 {W W' : World} (hb : Below W.heap.size W W') {a0 a1 a2 a3 a4 a5 a6 a7 a8 a9 a10 : Addr} {v0 v1 v2 v3 v4 v5 v6 v7 v8 v9 v10 : Value} (h : W.cell? a0 = some v0 ∧ W.cell? a1 = some v1 ∧ W.cell? a2 = some v2 ∧ W.cell? a3 = some v3 ∧ W.cell? a4 = some v4 ∧ W.cell? a5 = some v5 ∧ W.cell? a6 = some v6 ∧ W.cell? a7 = some v7 ∧ W.cell? a8 = some v8 ∧ W.cell? a9 = some v9 ∧ W.cell? a10 = some v10) : W'.cell? a0 = some v0 ∧ W'.cell? a1 = some v1 ∧ W'.cell? a2 = some v2 ∧ W'.cell? a3 = some v3 ∧ W'.cell? a4 = some v4 ∧ W'.cell? a5 = some v5 ∧ W'.cell? a6 = some v6 ∧ W'.cell? a7 = some v7 ∧ W'.cell? a8 = some v8 ∧ W'.cell? a9 = some v9 ∧ W'.cell? a10 = some v10 := by
  obtain ⟨h0, h1, h2, h3, h4, h5, h6, h7, h8, h9, h10⟩ := h
  exact ⟨cell_kept hb h0, cell_kept hb h1, cell_kept hb h2, cell_kept hb h3, cell_kept hb h4, cell_kept hb h5, cell_kept hb h6, cell_kept hb h7, cell_kept hb h8, cell_kept hb h9, cell_kept hb h10⟩
theorem ldC_at (l : List Ld) (j : Nat) (h : j < l.length) : (ldC l)[j * 2]? = some (.int .i64 (gL l j).1) ∧ (ldC l)[j * 2 + 1]? = some (.int .i64 (gL l j).2) := by
  induction l generalizing j with
  | nil => simp at h
  | cons x l ih =>
    cases j with
    | zero => exact ⟨rfl, rfl⟩
    | succ j =>
      have := ih j (by simpa using h)
      rw [show (j + 1) * 2 = j * 2 + 2 by omega]
      exact this
/-- A row of loads that the run owns reads as these loads. -/
theorem own_loads {W : World} {base n : Nat} {v : Value} {l : List Ld} (h : W.ownsRow base 79 2 v n (ldC l)) (hn : n = l.length) (h0 : n ≤ 64) : RdL W v l := by
  subst hn
  obtain ⟨A, c, rfl⟩ := own_slice h
  refine ⟨A, c, rfl, by omega, fun j x hx => ?_⟩
  have hj : j < l.length := (List.getElem?_eq_some_iff.1 hx).1
  obtain ⟨g, c', hv, -, -, hc⟩ := own_cells h (by omega)
  cases hv
  have hx2 : gL l j = x := by rw [gL_at hj]; exact (List.getElem?_eq_some_iff.1 hx).2
  obtain ⟨k1, k2⟩ := ldC_at l j hj
  rw [hx2] at k1 k2
  refine ⟨g, 0, _, rfl, rfl, fun k u hu => ?_⟩
  match k, hu with
  | 0, hu => cases hu; rw [Nat.zero_add, Nat.add_zero]; exact hc _ _ k1
  | 1, hu => cases hu; rw [Nat.zero_add]; exact hc _ _ k2
  | k + 2, hu => simp at hu
/-- The loads of active.Of: all ahead, and the task's own. -/
def actL (reload : Int) (ts : List Task) (i : Nat) : List Ld := loadsI reload ts i ++ [((gT ts i).T, workI ts i)]
theorem gL_snoc_lt {l : List Ld} {x : Ld} {k : Nat} (h : k < l.length) : gL (l ++ [x]) k = gL l k := by unfold gL; rw [List.getD_eq_getElem?_getD, List.getElem?_append_left h, ← List.getD_eq_getElem?_getD]
theorem gL_snoc_eq {l : List Ld} {x : Ld} : gL (l ++ [x]) l.length = x := by unfold gL; rw [List.getD_eq_getElem?_getD, List.getElem?_append_right (Nat.le_refl _)]; simp
theorem gL_loads {reload : Int} {ts : List Task} {i k : Nat} (h : k < i) : gL (loadsI reload ts i) k = loadI reload ts k := by
  unfold gL loadsI
  simp [List.getD_eq_getElem?_getD, h]
theorem T_bound {reload : Int} {ts : List Task} (hG : Good reload ts) {j : Nat} (hj : j < ts.length) : 1 ≤ (gT ts j).T ∧ (gT ts j).T ≤ 10000 := by
  have h1 := work_bound hG hj
  have h2 := hG.cd j hj
  have h3 := hG.dt j hj
  have h4 := hG.tm j hj
  unfold workI at h1; omega
theorem loadsI_ok {reload : Int} {ts : List Task} (hG : Good reload ts) {i : Nat} (hi : i ≤ ts.length) : OkL (loadsI reload ts i) := by
  have h8 := hG.n8
  refine ⟨by rw [loadsI_len]; omega, fun k hk => ?_, fun k hk => ?_⟩ <;> rw [loadsI_len] at hk <;> rw [gL_loads hk] <;> unfold loadI
  · have := T_bound hG (show k < ts.length by omega); simp only; omega
  · have h1 := work_bound hG (show k < ts.length by omega)
    have h2 := made_bound hG k
    simp only; omega
theorem actL_len (reload : Int) (ts : List Task) (i : Nat) : (actL reload ts i).length = i + 1 := by simp [actL, loadsI_len]
theorem actL_ok {reload : Int} {ts : List Task} (hG : Good reload ts) {i : Nat} (hi : i < ts.length) : OkL (actL reload ts i) := by
  have h0 := loadsI_ok hG (show i ≤ ts.length by omega)
  have h8 := hG.n8
  have hl := loadsI_len reload ts i
  have hT := T_bound hG hi
  have hW := work_bound hG hi
  refine ⟨by rw [actL_len]; omega, fun k hk => ?_, fun k hk => ?_⟩ <;> rw [actL_len] at hk <;> unfold actL
  · by_cases h : k < i
    · rw [gL_snoc_lt (by omega)]; exact h0.t k (by omega)
    · have hk2 : k = (loadsI reload ts i).length := by omega
      subst hk2
      rw [gL_snoc_eq]; simp only; omega
  · by_cases h : k < i
    · rw [gL_snoc_lt (by omega)]; exact h0.c k (by omega)
    · have hk2 : k = (loadsI reload ts i).length := by omega
      subst hk2
      rw [gL_snoc_eq]; simp only; omega
def actF (reload : Int) (ts : List Task) (i : Nat) (b : Int) : Option Int := leastF b (actL reload ts i)
set_option maxRecDepth 100000 in
set_option maxHeartbeats 1000000 in
theorem actOf_any (reload : Int) (vs : Value) (ts : List Task) (i : Nat) (bl : Int) (w : World) (hv : RdT w vs ts) (hcap : CapOk vs) (hG : Good reload ts) (hi : i < ts.length) (h0 : 0 ≤ bl) (h1 : bl ≤ 1000000) :
    Calls Tryz.prog 54 #[.agg #[.int .i64 reload, vs], .int .i64 i, .int .i64 bl] w fun e w' => e = .returned (.tuple #[.int .i64 ((actF reload ts i bl).getD 0), .bool (actF reload ts i bl).isSome]) ∧ Below w.heap.size w w' := by
  have HLO := Lib.hid (fun W (h : Below w.heap.size w W) => loads_any reload vs ts i W (hv.kept CTask.mono h) hcap hG hi)
  have HLE := Lib.hid (fun W v (hl : RdL W v (actL reload ts i)) => least_any bl v (actL reload ts i) W hl (actL_ok hG hi) h0 h1)
  have hl := hG.n8
  obtain ⟨A, c, rfl, hle, hat⟩ := hv.at
  have hcc := hcap _ _ _ rfl
  obtain ⟨b, o, vr, rfl, hr, hcell⟩ := hat i hi
  have HWK := Lib.hid (fun W (h : Below w.heap.size w W) => work_any (gT ts i) vr W (hr.kept CInt.mono h) (hG.regs i hi))
  obtain ⟨c0, c1, c2, c3, c4, c5, c6, c7, c8⟩ := task_cells hcell
  obtain ⟨Ar, cr, rfl, -⟩ := id hr
  have hA : Hid (actF reload ts i bl = leastF bl (actL reload ts i)) := Lib.hid rfl
  have HAL : Hid (actL reload ts i = loadsI reload ts i ++ [((gT ts i).T, (gT ts i).regs.sum)]) := Lib.hid rfl
  have HLN := Lib.hid (loadsI_len reload ts i)
  have HC : Hid (_ ∧ _ ∧ _ ∧ _ ∧ _ ∧ _ ∧ _ ∧ _ ∧ _) := Lib.hid ⟨c0, c1, c2, c3, c4, c5, c6, c7, c8⟩
  clear hG hv hat hcap hcell hr
  have d1 : decide (ts.length ≤ i) = false := by simp; omega
  have d2 : decide ((i : Int) < 0) = false := by simp
  go_enter Tryz.func54, Tryz.ntmps54
  go_wp2_with fail
  have HZ : Hid ((w.alloc (Obj.cells #[.int .i64 reload, .slice (some ⟨b, o, none⟩) ts.length c] 24)).drew.cell? ⟨w.heap.size, 0, none⟩ = some (.int .i64 reload) ∧ (w.alloc (Obj.cells #[.int .i64 reload, .slice (some ⟨b, o, none⟩) ts.length c] 24)).drew.cell? ⟨w.heap.size, 1, none⟩ = some (.slice (some ⟨b, o, none⟩) ts.length c) ∧ (w.alloc (Obj.cells #[.int .i64 reload, .slice (some ⟨b, o, none⟩) ts.length c] 24)).drew.cell? ⟨b, o + i * 9, none⟩ = some (.string (gT ts i).name) ∧ (w.alloc (Obj.cells #[.int .i64 reload, .slice (some ⟨b, o, none⟩) ts.length c] 24)).drew.cell? ⟨b, o + i * 9 + 1, none⟩ = some (.int .i64 (gT ts i).T) ∧ (w.alloc (Obj.cells #[.int .i64 reload, .slice (some ⟨b, o, none⟩) ts.length c] 24)).drew.cell? ⟨b, o + i * 9 + 2, none⟩ = some (.int .i64 (gT ts i).D) ∧ (w.alloc (Obj.cells #[.int .i64 reload, .slice (some ⟨b, o, none⟩) ts.length c] 24)).drew.cell? ⟨b, o + i * 9 + 3, none⟩ = some (.int .i64 (gT ts i).mode) ∧ (w.alloc (Obj.cells #[.int .i64 reload, .slice (some ⟨b, o, none⟩) ts.length c] 24)).drew.cell? ⟨b, o + i * 9 + 4, none⟩ = some (.int .i64 (gT ts i).Q) ∧ (w.alloc (Obj.cells #[.int .i64 reload, .slice (some ⟨b, o, none⟩) ts.length c] 24)).drew.cell? ⟨b, o + i * 9 + 5, none⟩ = some (.int .i64 (gT ts i).theta) ∧ (w.alloc (Obj.cells #[.int .i64 reload, .slice (some ⟨b, o, none⟩) ts.length c] 24)).drew.cell? ⟨b, o + i * 9 + 6, none⟩ = some (.slice Ar (gT ts i).regs.length cr) ∧ (w.alloc (Obj.cells #[.int .i64 reload, .slice (some ⟨b, o, none⟩) ts.length c] 24)).drew.cell? ⟨b, o + i * 9 + 7, none⟩ = some (.int .u64 (gT ts i).ecb) ∧ (w.alloc (Obj.cells #[.int .i64 reload, .slice (some ⟨b, o, none⟩) ts.length c] 24)).drew.cell? ⟨b, o + i * 9 + 8, none⟩ = some (.int .u64 (gT ts i).ucb)) := Lib.hid ⟨(Blk.newAt rfl).drew.cell 0 rfl, (Blk.newAt rfl).drew.cell 1 rfl, cell_kept (by repeat (first | exact Below.refl _ _ | refine Below.drew ?_ | refine Below.alloc ?_ (by simp <;> omega) _)) HC.out.1, cell_kept (by repeat (first | exact Below.refl _ _ | refine Below.drew ?_ | refine Below.alloc ?_ (by simp <;> omega) _)) HC.out.2.1, cell_kept (by repeat (first | exact Below.refl _ _ | refine Below.drew ?_ | refine Below.alloc ?_ (by simp <;> omega) _)) HC.out.2.2.1, cell_kept (by repeat (first | exact Below.refl _ _ | refine Below.drew ?_ | refine Below.alloc ?_ (by simp <;> omega) _)) HC.out.2.2.2.1, cell_kept (by repeat (first | exact Below.refl _ _ | refine Below.drew ?_ | refine Below.alloc ?_ (by simp <;> omega) _)) HC.out.2.2.2.2.1, cell_kept (by repeat (first | exact Below.refl _ _ | refine Below.drew ?_ | refine Below.alloc ?_ (by simp <;> omega) _)) HC.out.2.2.2.2.2.1, cell_kept (by repeat (first | exact Below.refl _ _ | refine Below.drew ?_ | refine Below.alloc ?_ (by simp <;> omega) _)) HC.out.2.2.2.2.2.2.1, cell_kept (by repeat (first | exact Below.refl _ _ | refine Below.drew ?_ | refine Below.alloc ?_ (by simp <;> omega) _)) HC.out.2.2.2.2.2.2.2.1, cell_kept (by repeat (first | exact Below.refl _ _ | refine Below.drew ?_ | refine Below.alloc ?_ (by simp <;> omega) _)) HC.out.2.2.2.2.2.2.2.2⟩
  go_region_held3 (fun W => W.cell? ⟨w.heap.size, 0, none⟩ = some (.int .i64 reload) ∧ W.cell? ⟨w.heap.size, 1, none⟩ = some (.slice (some ⟨b, o, none⟩) ts.length c) ∧ W.cell? ⟨b, o + i * 9, none⟩ = some (.string (gT ts i).name) ∧ W.cell? ⟨b, o + i * 9 + 1, none⟩ = some (.int .i64 (gT ts i).T) ∧ W.cell? ⟨b, o + i * 9 + 2, none⟩ = some (.int .i64 (gT ts i).D) ∧ W.cell? ⟨b, o + i * 9 + 3, none⟩ = some (.int .i64 (gT ts i).mode) ∧ W.cell? ⟨b, o + i * 9 + 4, none⟩ = some (.int .i64 (gT ts i).Q) ∧ W.cell? ⟨b, o + i * 9 + 5, none⟩ = some (.int .i64 (gT ts i).theta) ∧ W.cell? ⟨b, o + i * 9 + 6, none⟩ = some (.slice Ar (gT ts i).regs.length cr) ∧ W.cell? ⟨b, o + i * 9 + 7, none⟩ = some (.int .u64 (gT ts i).ecb) ∧ W.cell? ⟨b, o + i * 9 + 8, none⟩ = some (.int .u64 (gT ts i).ucb)) (first | exact keep11 hB4 HZ.out | exact keep11 hB3 HZ.out | exact keep11 (hB2.alloc hB2.size _) HZ.out | exact keep11 hB2 HZ.out | exact keep11 hB1 HZ.out | go_keep) (first
    | (go_at_call 55; refine (HLO.out _ (by repeat (first | exact Below.refl _ _ | refine Below.drew ?_ | refine Below.alloc ?_ (by simp <;> omega) _))).mono ?_; rintro e w1 ⟨v1, rfl, hown1, hB1⟩; have B1 : Below w.heap.size w w1 := below_tr (below_drew ((Below.refl _ _).alloc (Nat.le_refl _) _)) hB1)
    | (go_at_call 18; (refine (HWK.out _ B1).mono ?_; rintro e w2 ⟨rfl, hb2⟩; have hB2 := below_tr hB1 hb2; have hown2 := own_kept hown1 hb2))
    | (refine step_append_one (w0 := (w.alloc (Obj.cells #[.int .i64 reload, .slice (some ⟨b, o, none⟩) ts.length c] 24)).drew) ((w.alloc (Obj.cells #[.int .i64 reload, .slice (some ⟨b, o, none⟩) ts.length c] 24)).drew.heap.size) rfl (.tmp 20) (.tmp 34) 70 79 (.agg #[.int .i64 0, .int .i64 0]) 2 16 rfl Tryz.underlying70 ld_info rfl (by decide) (by decide) v1 i (ldC (loadsI reload ts i)) [.int .i64 (gT ts i).T, .int .i64 (gT ts i).regs.sum] rfl rfl rfl (by simp [Value.oneCell']) hown2 hB2 (Nat.le_refl _) hB2.size (by omega) ?_; intro v3 w3 hown3 hB3 hg)
    | (go_at_call 67; refine (HLE.out _ _ ?_).mono ?_; (rw [HAL.out]; exact own_loads (l := loadsI reload ts i ++ [((gT ts i).T, (gT ts i).regs.sum)]) (by rw [ldC_snoc]; exact hown3) (by simp [HLN.out]) (by omega)); rintro e w4 ⟨rfl, hb4⟩; have hB4 := below_tr hB3 hb4))
  go_wp2
  go_ret2
  exact ⟨by rw [hA.out]; rfl, below_tr (below_drew ((Below.refl _ _).alloc (Nat.le_refl _) _)) hB4⟩
end Go.Proofs.YtopmnpkjhaabcaaGreatDoor
