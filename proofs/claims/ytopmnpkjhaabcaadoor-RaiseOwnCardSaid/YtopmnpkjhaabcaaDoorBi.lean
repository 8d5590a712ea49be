/- taskmasterlaw17.RaiseOwn walked. -/
import Derived.Test.YtopmnpkjhaabcaaDoorBh
set_option linter.unusedVariables false
set_option linter.unusedSimpArgs false
namespace Go.Proofs.YtopmnpkjhaabcaaDoor
open Go.RowKit

set_option maxRecDepth 100000 in
set_option maxHeartbeats 4000000 in
theorem raiseOwn_any (reload : Int) (vs : Value) (ts : List Task) (w : World) (hv : RdT w vs ts) (hn : ∀ t ∈ ts, t.name.size ≤ 140737488351232) (hT : SpaceTab w)
    (hu : ∀ k, k < ts.length → 0 ≤ (gT ts k).ucb ∧ (gT ts k).ucb < 18446744073709551616) (he : ∀ k, k < ts.length → 0 ≤ (gT ts k).ecb ∧ (gT ts k).ecb < 18446744073709551616) :
    Calls Tryd.prog 4 #[.agg #[.int .i64 reload, vs]] w fun e w' => e = .returned (.bool true) ∧ Below w.heap.size w w' := by
  have HMA := Lib.hid (fun W (h : Below w.heap.size w W) => may17_any reload vs ts W (hv.kept CTask.mono h) hn)
  have HVS := Lib.hid (fun W (h : Below w.heap.size w W) => (hv.kept CTask.mono h : RdT W vs ts))
  have HT := Lib.hid hT
  obtain ⟨A, c, rfl, hle, hat⟩ := hv.at
  have HAT := Lib.hid hat
  cases hm : mayB reload ts
  · have HM := Lib.hid hm
    clear hm hat hv hn hT hu he
    go_enter Tryd.func4, Tryd.ntmps4
    go_wp2_with (go_at_call 10; refine (HMA.out _ (by repeat (first | exact Below.refl _ _ | refine Below.drew ?_ | refine Below.alloc ?_ (by simp <;> omega) _))).mono ?_; rintro e w1 ⟨rfl, hb1⟩; rw [HM.out]; have HB1 := Lib.hid (below_tr (Below.alloc (Below.refl w.heap.size w) (Nat.le_refl _) _) hb1); clear hb1)
    go_ret
    exact ⟨rfl, HB1.out⟩
  · have HM := Lib.hid hm
    obtain ⟨hra, htd⟩ := mayB_at hm
    have HG := Lib.hid (refAll_good hra hu he)
    have HALL := Lib.hid (refAll_all hra)
    have HN := Lib.hid hn
    have hl8 := HG.out.n8
    have hl1 := HG.out.n1
    have HREG : Hid (∀ k, k < ts.length → 1 ≤ (gT ts k).regs.length ∧ (gT ts k).regs.length ≤ 8) := Lib.hid (fun k hk => by have := (regsB_iff _).1 (HG.out.regs k hk); omega)
    have HRD : Hid (∀ W B v (xs : List (Task × Value)), xs.map Prod.fst = ts → OwnT W B v xs → RdT W v ts) := Lib.hid (fun W B v xs hxs ho => by
      have h1 := ho.reads (fun x hx => by
        have hmem : x.1 ∈ ts := by rw [← hxs]; exact List.mem_map_of_mem hx
        obtain ⟨j, hj, hjx⟩ := List.getElem_of_mem hmem
        have := HREG.out j hj
        rw [gT_at hj, hjx] at this
        omega) (by have := congrArg List.length hxs; simp at this; omega)
      rw [hxs] at h1
      exact h1)
    clear hm hat hv hn hT hu he hra htd
    have HPU := Lib.hid (fun W v (xs : List (Task × Value)) (h1 : xs.map Prod.fst = ts) B (h2 : OwnT W B v xs) (hb : Below w.heap.size w W) => raisePut_any reload v ts W (HRD.out W B v xs h1 h2) h2.cap HG.out HALL.out HN.out (HT.out.below hb))
    have HSAME : Hid (sameB reload reload ts ts = true) := Lib.hid (sameB_yes rfl rfl)
    cases hp : raisePutF reload ts with
    | none =>
      rw [hp] at HPU
      have HPU2 : Hid (∀ W v (xs : List (Task × Value)) (h1 : xs.map Prod.fst = ts) B (h2 : OwnT W B v xs) (hb : Below w.heap.size w W), Calls Tryd.prog 11 #[.agg #[.int .i64 reload, v]] W fun e w' => e = .returned (.tuple #[.agg #[.int .i64 0, .slice none 0 0], .bool false]) ∧ Below W.heap.size W w') := Lib.hid (fun W v xs h1 B h2 hb => HPU.out W v xs h1 B h2 hb)
      clear HPU hp
      go_enter Tryd.func4, Tryd.ntmps4
      go_upto_region 4 with (first
        | (go_at_call 10; refine (HMA.out _ (by repeat (first | exact Below.refl _ _ | refine Below.drew ?_ | refine Below.alloc ?_ (by simp <;> omega) _))).mono ?_; rintro e w1 ⟨rfl, hb1⟩; rw [HM.out]; have HS : Hid (SetC reload (.slice A ts.length c) w w1) := Lib.hid (SetC.kept ⟨Blk.newAt rfl, (by repeat (first | exact Below.refl _ _ | refine Below.drew ?_ | refine Below.alloc ?_ (by simp <;> omega) _))⟩ hb1); clear hb1; have s0 := HS.out.1.cell 0 rfl; have s1 := HS.out.1.cell 1 rfl)
        | (go_at_call 6; refine (rput_any reload _ ts _ (HVS.out _ HS.out.2) hl8 HREG.out).mono ?_; rintro e w2 ⟨v1, xs, rfl, hxs, hown, hb2⟩; obtain ⟨A1, c1, rfl⟩ := own_slice hown.row; have HXS := Lib.hid hxs; have HO := Lib.hid hown; have HS2 := Lib.hid (HS.out.kept hb2); clear hxs hown hb2))
      clear s0 s1
      have H3 : Hid (SetC reload (.slice A ts.length c) w (w2.alloc (Obj.cells #[.int .i64 reload, .slice A1 xs.length c1] 24)) ∧ Blk (w2.alloc (Obj.cells #[.int .i64 reload, .slice A1 xs.length c1] 24)) w2.heap.size [.int .i64 reload, .slice A1 xs.length c1] 24 ∧ OwnT (w2.alloc (Obj.cells #[.int .i64 reload, .slice A1 xs.length c1] 24)) (w1.heap.size + 3) (.slice A1 xs.length c1) xs) := Lib.hid ⟨HS2.out.kept ((Below.refl _ _).alloc (Nat.le_refl _) _), Blk.newAt rfl, HO.out.kept ((Below.refl _ _).alloc (Nat.le_refl _) _)⟩
      generalize w2.alloc _ = W3 at *
      generalize w2.heap.size = P at *
      clear HO HS2
      have p0 := H3.out.2.1.cell 0 rfl
      have p1 := H3.out.2.1.cell 1 rfl
      go_upto_region 5 with (go_at_call 11; refine (HPU2.out _ _ xs HXS.out _ H3.out.2.2 H3.out.1.2).mono ?_; rintro e w4 ⟨rfl, hb4⟩; have H4 := Lib.hid (And.intro (H3.out.1.kept hb4) (And.intro (H3.out.2.1.kept hb4) (H3.out.2.2.kept hb4))); clear hb4)
      clear p0 p1 H3
      have H5 : Hid (SetC reload (.slice A ts.length c) w (w4.alloc (Obj.cells #[.int .i64 0, .slice none 0 0] 24)) ∧ Blk (w4.alloc (Obj.cells #[.int .i64 0, .slice none 0 0] 24)) P [.int .i64 reload, .slice A1 xs.length c1] 24 ∧ OwnT (w4.alloc (Obj.cells #[.int .i64 0, .slice none 0 0] 24)) (w1.heap.size + 3) (.slice A1 xs.length c1) xs) := Lib.hid ⟨H4.out.1.kept ((Below.refl _ _).alloc (Nat.le_refl _) _), H4.out.2.1.kept ((Below.refl _ _).alloc (Nat.le_refl _) _), H4.out.2.2.kept ((Below.refl _ _).alloc (Nat.le_refl _) _)⟩
      generalize w4.alloc _ = W5 at *
      clear H4
      have s0 := H5.out.1.1.cell 0 rfl
      have s1 := H5.out.1.1.cell 1 rfl
      have p0 := H5.out.2.1.cell 0 rfl
      have p1 := H5.out.2.1.cell 1 rfl
      go_wp2_with (first
        | (go_at_call 8; refine (rsame_any reload reload _ _ ts ts _ (HRD.out _ _ _ xs HXS.out H5.out.2.2) (HVS.out _ H5.out.1.2)).mono ?_; rintro e w6 ⟨rfl, hb6⟩; rw [HSAME.out]; have HB6 := Lib.hid (below_tr H5.out.1.2 hb6); clear hb6)
        | (go_at_call 12; refine (known17_any _ (HT.out.below HB6.out)).mono ?_; rintro e w7 ⟨rfl, hb7⟩))
      go_ret
      exact ⟨rfl, below_tr HB6.out hb7⟩
    | some l =>
      obtain ⟨hll, hrs⟩ := raise_reset hp
      have HLL := Lib.hid hll
      have HRS := Lib.hid hrs
      rw [hp] at HPU
      have HPU2 : Hid (∀ W v (xs : List (Task × Value)) (h1 : xs.map Prod.fst = ts) B (h2 : OwnT W B v xs) (hb : Below w.heap.size w W), Calls Tryd.prog 11 #[.agg #[.int .i64 reload, v]] W fun e w' => ∃ v xs, e = .returned (.tuple #[.agg #[.int .i64 reload, v], .bool true]) ∧ xs.map Prod.fst = l ∧ OwnT w' W.heap.size v xs ∧ Below W.heap.size W w') := Lib.hid (fun W v xs h1 B h2 hb => HPU.out W v xs h1 B h2 hb)
      clear HPU hp hll hrs
      go_enter Tryd.func4, Tryd.ntmps4
      go_upto_region 4 with (first
        | (go_at_call 10; refine (HMA.out _ (by repeat (first | exact Below.refl _ _ | refine Below.drew ?_ | refine Below.alloc ?_ (by simp <;> omega) _))).mono ?_; rintro e w1 ⟨rfl, hb1⟩; rw [HM.out]; have HS : Hid (SetC reload (.slice A ts.length c) w w1) := Lib.hid (SetC.kept ⟨Blk.newAt rfl, (by repeat (first | exact Below.refl _ _ | refine Below.drew ?_ | refine Below.alloc ?_ (by simp <;> omega) _))⟩ hb1); clear hb1; have s0 := HS.out.1.cell 0 rfl; have s1 := HS.out.1.cell 1 rfl)
        | (go_at_call 6; refine (rput_any reload _ ts _ (HVS.out _ HS.out.2) hl8 HREG.out).mono ?_; rintro e w2 ⟨v1, xs, rfl, hxs, hown, hb2⟩; obtain ⟨A1, c1, rfl⟩ := own_slice hown.row; have HXS := Lib.hid hxs; have HO := Lib.hid hown; have HS2 := Lib.hid (HS.out.kept hb2); clear hxs hown hb2))
      clear s0 s1
      have H3 : Hid (SetC reload (.slice A ts.length c) w (w2.alloc (Obj.cells #[.int .i64 reload, .slice A1 xs.length c1] 24)) ∧ Blk (w2.alloc (Obj.cells #[.int .i64 reload, .slice A1 xs.length c1] 24)) w2.heap.size [.int .i64 reload, .slice A1 xs.length c1] 24 ∧ OwnT (w2.alloc (Obj.cells #[.int .i64 reload, .slice A1 xs.length c1] 24)) (w1.heap.size + 3) (.slice A1 xs.length c1) xs) := Lib.hid ⟨HS2.out.kept ((Below.refl _ _).alloc (Nat.le_refl _) _), Blk.newAt rfl, HO.out.kept ((Below.refl _ _).alloc (Nat.le_refl _) _)⟩
      have HW1 : Hid (w.heap.size ≤ w1.heap.size + 3) := Lib.hid (by have := HS.out.1.lt; omega)
      generalize w2.alloc _ = W3 at *
      generalize w2.heap.size = P at *
      clear HO HS2
      have p0 := H3.out.2.1.cell 0 rfl
      have p1 := H3.out.2.1.cell 1 rfl
      go_upto_region 5 with (go_at_call 11; refine (HPU2.out _ _ xs HXS.out _ H3.out.2.2 H3.out.1.2).mono ?_; rintro e w4 ⟨v2, ys, rfl, hys, hown, hb4⟩; have hyl : ys.length = ts.length := (by have := congrArg List.length hys; simp at this; rw [this, HLL.out]); obtain ⟨g, cg, hv2, -, -, -⟩ := own_cells hown.row (by omega); rw [hyl] at hv2; subst hv2; have HYL := Lib.hid hyl; clear hyl; have H4 : Hid (∀ Q, Q = w4.heap.size → OwnLaw reload (.slice A ts.length c) w P (.slice A1 xs.length c1) xs W3.heap.size Q (.slice (some ⟨g, 0, none⟩) ts.length cg) ys (w4.alloc (Obj.cells #[.int .i64 reload, .slice (some ⟨g, 0, none⟩) ts.length cg] 24))) := Lib.hid (fun Q hQ => ⟨(H3.out.1.1.kept hb4).alloc _, (H3.out.2.1.kept hb4).alloc _, Blk.newAt hQ, ⟨own_weak ((H3.out.2.2.kept hb4).kept ((Below.refl _ _).alloc (Nat.le_refl _) _)).row HW1.out, fun x hx => ⟨own_weak (((H3.out.2.2.kept hb4).kept ((Below.refl _ _).alloc (Nat.le_refl _) _)).regs x hx).1 HW1.out, (H3.out.2.2.regs x hx).2⟩⟩, hown.kept ((Below.refl _ _).alloc (Nat.le_refl _) _), H3.out.1.1.lt, H3.out.2.1.lt, fun k hk => own_lt H3.out.2.2.row k hk, fun x hx k hk => own_lt (H3.out.2.2.regs x hx).1 k hk, fun k hk => by rw [hQ]; exact own_lt hown.row k hk, (below_tr H3.out.1.2 hb4).alloc (below_tr H3.out.1.2 hb4).size _⟩); have HYS := Lib.hid hys; clear hys hown hb4)
      clear p0 p1 H3
      have H5 := Lib.hid (H4.out w4.heap.size rfl)
      clear H4
      generalize w4.alloc _ = W5 at *
      generalize w4.heap.size = Q at *
      generalize W3.heap.size = B at *
      have s1 := H5.out.s.cell 1 rfl
      have q1 := H5.out.q.cell 1 rfl
      go_wp2_with fail
      go_loopw [6] (fun i W => ∃ (k : Nat) (zs : List (Task × Value)), k ≤ ts.length ∧ i = .int .i64 k ∧ Hid (zs.map Prod.fst = ts.take k ++ l.drop k) ∧ Hid (OwnLaw reload (.slice A ts.length c) w P (.slice A1 xs.length c1) xs B Q (.slice (some ⟨g, 0, none⟩) ts.length cg) zs W)) (fun i _ => ts.length - (intOf i).toNat)
      case atStart => exact ⟨0, ys, Nat.zero_le _, rfl, Lib.hid (by rw [HYS.out]; rfl), H5⟩
      case round =>
        obtain ⟨k, zs, hk, rfl, HZS, HST⟩ := hrel
        clear H5 s1 q1
        have s0 := HST.out.s.cell 0 rfl
        have s1 := HST.out.s.cell 1 rfl
        have p0 := HST.out.p.cell 0 rfl
        have p1 := HST.out.p.cell 1 rfl
        have q0 := HST.out.q.cell 0 rfl
        have q1 := HST.out.q.cell 1 rfl
        have HZL : Hid (zs.length = ts.length) := Lib.hid (by have := congrArg List.length HZS.out; simp at this; rw [this, HLL.out]; omega)
        by_cases hlt : k < ts.length
        · obtain ⟨b, o, vr, rfl, -, hcell⟩ := HAT.out k hlt
          have hcell2 := fun j u hu => cell_kept HST.out.below (hcell j u hu)
          obtain ⟨c0, c1, c2, c3, c4, c5, c6, c7, c8⟩ := task_cells hcell2
          have hbw := World.block_lt_of_cell? _ _ (hcell 0 _ rfl)
          simp only at hbw
          have e1 := HST.out.lt1
          have e4 := HST.out.lt4 g rfl
          have hB := own_base HST.out.x2.row g rfl
          have n1 : ¬ b = g := by omega
          have n1' : ¬ g = b := by omega
          have n2 : ¬ w.heap.size = g := by omega
          have n2' : ¬ g = w.heap.size := by omega
          have n3 : ¬ Q = g := by omega
          have n3' : ¬ g = Q := by omega
          have hzl := HZL.out
          have hkz : k < zs.length := by omega
          have hrow := HST.out.x2.row
          rw [hzl] at hrow
          have d3 : wr.cell? ⟨g, k * 9 + 3, none⟩ = some (.int .i64 (zs[k]).1.mode) := by rw [World.ownsRow.cellAt hrow (k * 9 + 3) (by omega), tasksC_at zs k 3 hkz (by omega)]; rfl
          have d4 : wr.cell? ⟨g, k * 9 + 4, none⟩ = some (.int .i64 (zs[k]).1.Q) := by rw [World.ownsRow.cellAt hrow (k * 9 + 4) (by omega), tasksC_at zs k 4 hkz (by omega)]; rfl
          have d5 : wr.cell? ⟨g, k * 9 + 5, none⟩ = some (.int .i64 (zs[k]).1.theta) := by rw [World.ownsRow.cellAt hrow (k * 9 + 5) (by omega), tasksC_at zs k 5 hkz (by omega)]; rfl
          have f3 := World.ownsRow.frozenAt hrow (k * 9 + 3)
          have f4 := World.ownsRow.frozenAt hrow (k * 9 + 4)
          have f5 := World.ownsRow.frozenAt hrow (k * 9 + 5)
          have HNEW : Hid ((zs.set k ({ (zs[k]).1 with mode := (gT ts k).mode, Q := (gT ts k).Q, theta := (gT ts k).theta }, (zs[k]).2)).map Prod.fst = ts.take (k + 1) ++ l.drop (k + 1)) := Lib.hid (by
            have hz1 : (zs[k]).1 = gT l k := by
              have h1 : (zs.map Prod.fst)[k]? = some (zs[k]).1 := by rw [List.getElem?_map, List.getElem?_eq_getElem hkz]; rfl
              rw [HZS.out, List.getElem?_append_right (by rw [List.length_take]; omega), List.length_take, List.getElem?_drop, show k + (k - min k ts.length) = k by omega] at h1
              have hkl : k < l.length := by rw [HLL.out]; omega
              rw [List.getElem?_eq_getElem hkl] at h1
              rw [gT_at hkl]
              exact (Option.some.inj h1).symm
            have h2 := HRS.out k hlt
            rw [List.map_set, HZS.out, hz1]
            change (ts.take k ++ l.drop k).set k (resetT (gT l k) (gT ts k)) = _
            rw [h2]
            exact restore HLL.out hlt)
          have HOL := Lib.hid ((HST.out.put3 k hkz (gT ts k).mode (gT ts k).Q (gT ts k).theta).drew)
          clear hcell hcell2 hrow e1 e4 hB hzl c0 c1 c2 c6 c7 c8 p0 p1 q0 s0
          have hi1 : (k : Int) < (ts.length : Int) := by omega
          generalize (gT ts k).mode = tm at *
          generalize (gT ts k).Q = tq at *
          generalize (gT ts k).theta = tt at *
          generalize (zs[k]).1.mode = zm at *
          generalize (zs[k]).1.Q = zq at *
          generalize (zs[k]).1.theta = zt at *
          go_upto_region 12 with (fail)
          go_region_held3 (fun W => W.cell? ⟨w.heap.size, 1, none⟩ = some (.slice (some ⟨b, o, none⟩) ts.length c) ∧ W.cell? ⟨Q, 1, none⟩ = some (.slice (some ⟨g, 0, none⟩) ts.length cg) ∧ W.cell? ⟨b, o + k * 9 + 3, none⟩ = some (.int .i64 tm) ∧ W.cell? ⟨b, o + k * 9 + 4, none⟩ = some (.int .i64 tq) ∧ W.cell? ⟨b, o + k * 9 + 5, none⟩ = some (.int .i64 tt)) (go_keep) (fail)
          generalize World.drew _ = W9 at *
          go_wp2_with fail
          go_roundw
          case rel => exact ⟨k + 1, _, hlt, by go_num, HNEW, HOL⟩
          case measure => simp [intOf]; omega
        · obtain rfl : k = ts.length := by omega
          have HZE : Hid (zs.map Prod.fst = ts) := Lib.hid (by rw [HZS.out, List.take_length, List.drop_eq_nil_of_le (by rw [HLL.out]; exact Nat.le_refl _), List.append_nil])
          have HIN := Lib.hid (HRD.out _ _ _ xs HXS.out HST.out.x1)
          have HVW := Lib.hid (HVS.out _ HST.out.below)
          have HRD2 : Hid (∀ W, OwnLaw reload (.slice A ts.length c) w P (.slice A1 xs.length c1) xs B Q (.slice (some ⟨g, 0, none⟩) ts.length cg) zs W → RdT W (.slice (some ⟨g, 0, none⟩) ts.length cg) ts ∧ RdT W (.slice A ts.length c) ts) := Lib.hid (fun W h => ⟨HRD.out _ _ _ zs HZE.out h.x2, HVS.out _ h.below⟩)
          go_wp2_with (first
            | (go_at_call 8; (with_reducible refine (rsame_any reload reload _ _ ts ts _ HIN.out HVW.out).mono ?_); rintro e w6 ⟨rfl, hb6⟩; rw [HSAME.out]; have H6 := Lib.hid (HST.out.kept hb6); have q0 := H6.out.q.cell 0 rfl; have q1 := H6.out.q.cell 1 rfl; have s0 := H6.out.s.cell 0 rfl; have s1 := H6.out.s.cell 1 rfl; clear hb6)
            | (go_at_call 8; (with_reducible refine (rsame_any reload reload _ _ ts ts _ (HRD2.out _ H6.out).1 (HRD2.out _ H6.out).2).mono ?_); rintro e w7 ⟨rfl, hb7⟩; rw [HSAME.out]; have HB7 := Lib.hid (below_tr H6.out.below hb7); clear hb7)
            | (go_at_call 12; refine (known17_any _ (HT.out.below HB7.out)).mono ?_; rintro e w8 ⟨rfl, hb8⟩))
          go_ret
          exact ⟨rfl, below_tr HB7.out hb8⟩
end Go.Proofs.YtopmnpkjhaabcaaDoor
