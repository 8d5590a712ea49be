/- taskmasterref17.Of, Put walked, at sets that may be. -/
import Derived.Test.YtopmnpkjhaabcaaGreatDoorBk
import Derived.Test.YtopmnpkjhaabcaaGreatDoorBg
import Derived.Test.YtopmnpkjhaabcaaGreatDoorAo
set_option linter.unusedVariables false
set_option linter.unusedSimpArgs false
namespace Go.Proofs.YtopmnpkjhaabcaaGreatDoor
open Go.RowKit

set_option maxRecDepth 100000 in
set_option maxHeartbeats 2000000 in
theorem rraiseOf_any (reload : Int) (vs : Value) (ts : List Task) (w : World) (hv : RdT w vs ts) (hG : Good reload ts) :
    Calls Tryz.prog 8 #[.agg #[.int .i64 reload, vs]] w (RPost (raiseF reload ts) w) := by
  have HTO := Lib.hid (fun W (h : Below w.heap.size w W) => rtolAll_any reload vs ts W (hv.kept CTask.mono h) hG)
  have HWA := Lib.hid (fun W (h : Below w.heap.size w W) k (hk : k < ts.length) => rwhole_any reload vs ts k W (hv.kept CTask.mono h) hG hk)
  have hl := hG.n8
  have hl1 := hG.n1
  have HGD := Lib.hid hG
  obtain ⟨A, c, rfl, hle, hat⟩ := hv.at
  have HAT := Lib.hid hat
  clear hv hG hat
  cases ht : tolAllF reload ts with
  | none =>
    have HF : Hid (raiseF reload ts = none) := Lib.hid (by unfold raiseF; rw [ht]; rfl)
    have HP : Hid (∀ W e w', TolPost reload ts W e w' → e = .returned (.tuple #[.slice none 0 0, .bool false]) ∧ Below W.heap.size W w') := Lib.hid (fun W e w' h => by unfold TolPost at h; rw [ht] at h; exact h)
    clear ht
    go_enter Tryz.func8, Tryz.ntmps8
    go_wp2_with (go_at_call 20; refine Calls.mono (HTO.out _ ?_) ?_; (exact (by repeat (first | exact Below.refl _ _ | refine Below.drew ?_ | refine Below.alloc ?_ (by simp <;> omega) _))); intro e w1 hpost; obtain ⟨rfl, hb1⟩ := HP.out _ _ _ hpost; clear hpost)
    go_ret2
    unfold RPost
    rw [HF.out]
    exact ⟨rfl, below_tr (Below.alloc (Below.refl _ _) (Nat.le_refl _) _) hb1⟩
  | some bear =>
    have HF : Hid (raiseF reload ts = some (pL reload ts bear ts.length)) := Lib.hid (by unfold raiseF; rw [ht]; rfl)
    have HBL : Hid (bear.length = ts.length) := Lib.hid (by unfold tolAllF at ht; split at ht; cases ht; exact bearL_len _ _ _; cases ht)
    have HP : Hid (∀ W e w', TolPost reload ts W e w' → ∃ v, e = .returned (.tuple #[v, .bool true]) ∧ w'.ownsRow W.heap.size 2 1 v bear.length (intC bear) ∧ Below W.heap.size W w') := Lib.hid (fun W e w' h => by unfold TolPost at h; rw [ht] at h; exact h)
    clear ht
    go_enter Tryz.func8, Tryz.ntmps8
    go_wp2_with (go_at_call 20; refine Calls.mono (HTO.out _ ?_) ?_; (exact (by repeat (first | exact Below.refl _ _ | refine Below.drew ?_ | refine Below.alloc ?_ (by simp <;> omega) _))); intro e w1 hpost; obtain ⟨bv, rfl, hown, hb1⟩ := HP.out _ _ _ hpost; have HS : Hid (SetC reload (.slice A ts.length c) w w1) := Lib.hid (SetC.kept ⟨Blk.newAt rfl, (by repeat (first | exact Below.refl _ _ | refine Below.drew ?_ | refine Below.alloc ?_ (by simp <;> omega) _))⟩ hb1); clear hpost hb1; rw [HBL.out] at hown; have s1 := HS.out.1.cell 1 rfl; obtain ⟨g, cb, rfl, hg1, hg2, hgc⟩ := own_cells hown (by omega); have HOWN := Lib.hid hown; clear hown hgc)
    have H3 : Hid (RSt reload (.slice A ts.length c) ts w w1.heap.size (.slice (some ⟨g, 0, none⟩) ts.length cb) bear (.slice none 0 0) 0 w1) := Lib.hid ⟨HS.out, own_nil _ _ _ _, own_weak HOWN.out (by simp), HS.out.1.lt, fun k hk => own_lt HOWN.out k hk, Nat.le_refl _⟩
    generalize w1.heap.size = B at *
    clear HS HOWN s1
    go_loopg [6, 7, 8] ts.length (fun gg v i _ W => ∃ k : Nat, k ≤ ts.length ∧ gg = ts.length - k ∧ i = .int .i64 k ∧ Hid (RSt reload (.slice A ts.length c) ts w B (.slice (some ⟨g, 0, none⟩) ts.length cb) bear v k W))
    case atStart => exact ⟨0, Nat.zero_le _, rfl, rfl, H3⟩
    case round =>
      obtain ⟨k, hk, hgg, rfl, HST⟩ := hrel
      have HGG := Lib.hid hgg
      clear hgg H3
      obtain ⟨v, hv6⟩ : ∃ v, v = u6 := ⟨_, rfl⟩
      subst hv6
      have b1 := HST.out.s.1.cell 1 rfl
      by_cases hlt : k < ts.length
      · obtain ⟨b, o, vr, rfl, -, -⟩ := HAT.out k hlt
        have HWH := Lib.hid (fun W (h : Below w.heap.size w W) => HWA.out W h k hlt)
        have HUPD : Hid (∀ p : Nat, upGo bear (wholeI reload ts k) (p + 1) = if wholeI reload ts k ≤ gI bear p then upGo bear (wholeI reload ts k) p else p + 1) := Lib.hid (fun p => rfl)
        have HPI : Hid (pI reload ts bear k = (upGo bear (wholeI reload ts k) k : Nat)) := Lib.hid rfl
        have HWW : Hid (workI ts k + ownI reload ts k - 1 = wholeI reload ts k) := Lib.hid rfl
        rw [HWW.out] at HWH
        clear HWW
        generalize wholeI reload ts k = ww at *
        go_wp2_with fail
        clear b1
        go_loopg [8] k (fun gi i W => ∃ p : Nat, p ≤ k ∧ gi = p ∧ i = .int .i64 p ∧ Hid (upGo bear ww k = upGo bear ww p) ∧ Hid (RSt reload (.slice (some ⟨b, o, none⟩) ts.length c) ts w B (.slice (some ⟨g, 0, none⟩) ts.length cb) bear v k W))
        case atStart => exact ⟨k, Nat.le_refl _, rfl, rfl, Lib.hid rfl, HST⟩
        case round =>
          obtain ⟨p, hp, hgi, rfl, HUQ, HS3⟩ := hrel
          have HGI := Lib.hid hgi
          clear hgi HST
          by_cases hp0 : p = 0
          · subst hp0
            have HUP : Hid (upGo bear ww k = 0) := Lib.hid HUQ.out
            go_wp2_with fail
            refine wp_region_cls (fun w' => Hid (RSt reload (.slice (some ⟨b, o, none⟩) ts.length c) ts w B (.slice (some ⟨g, 0, none⟩) ts.length cb) bear v k w')) (by kernel_rfl) (by kernel_rfl) (Lib.hid (HS3.out.kept (Below.refl _ _).drew)) ?_
            repeat (first
              | go_big_quiet_skip
              | (go_big_quiet_want; go_big_quiet_op; first
                | go_big_quiet_on
                | (refine ⟨_, fun _ _ => rfl, ?_⟩; go_big_quiet_on)
                | (apply Exists.intro; refine ⟨fun W HC => ?_, ?_⟩; (have c0 := HC.out.s.1.cell 0 rfl; have c1 := HC.out.s.1.cell 1 rfl; simp only [c0, c1, Result.andThen_ok]; exact ⟨trivial, rfl⟩); go_big_quiet_on)
                | (fail)
                | (apply Exists.intro; refine ⟨fun W HC => ?_, ?_⟩; (go_at_call 21; refine (HWH.out _ HC.out.s.2).mono ?_; rintro e w2 ⟨rfl, hb2⟩; exact ⟨rfl, Lib.hid (HC.out.kept hb2)⟩); go_big_quiet_on)))
            refine wpQuiet_nil ?_
            intro W5 HC
            have HLS : Hid (pL reload ts bear (k + 1) = pL reload ts bear k ++ [((0 : Nat) : Int)]) := Lib.hid (by rw [pL_succ, HPI.out, HUP.out])
            go_wp2_with (at_builtin; refine append_one (w0 := w) B rfl (.tmp 39) (.tmp 41) 26 3 (.int .i64 0) 1 8 rfl Tryz.underlying26 int_info rfl (by decide) (by decide) v k (intC (pL reload ts bear k)) [.int .i64 ((0 : Nat) : Int)] rfl rfl rfl (by simp [Value.oneCell']) HC.out.l HC.out.s.2 (by have := HC.out.lt1; omega) HC.out.lt3 (by omega) ?_; intro v1 w6 hown hB hg hat; have HG6 : Hid (RSt reload (.slice (some ⟨b, o, none⟩) ts.length c) ts w B (.slice (some ⟨g, 0, none⟩) ts.length cb) bear v1 (k + 1) w6) := Lib.hid (by
              obtain ⟨h1, h2, h3, h4, h5, h6⟩ := HC.out
              refine ⟨⟨h1.1.grown hg (fun he => by have hc := own_base h2 _ he.symm; omega), hB⟩, by rw [HLS.out, intC_snoc]; exact hown, h3.kept hg (.inr fun he => ?_), h4, h5, Nat.le_trans h6 (hg.size)⟩
              have e1 := own_base h2 g he.symm
              have e2 := h5 g rfl
              omega))
            go_roundg (ts.length - (k + 1))
            case rel => exact ⟨k + 1, hlt, rfl, by go_num, HG6⟩
            case measure => have := HGG.out; omega
          · obtain ⟨q, rfl⟩ : ∃ q, p = q + 1 := ⟨p - 1, by omega⟩
            have HCB : Hid (∀ W, RSt reload (.slice (some ⟨b, o, none⟩) ts.length c) ts w B (.slice (some ⟨g, 0, none⟩) ts.length cb) bear v k W → W.cell? ⟨g, q, none⟩ = some (.int .i64 (gI bear q))) := Lib.hid (fun W h => by
              have hc := World.ownsRow.cellAt h.b q (by omega)
              rw [show (intC bear)[q]? = some (.int .i64 (gI bear q)) by
                unfold intC
                have hq : q < bear.length := by rw [HBL.out]; omega
                rw [List.getElem?_map, List.getElem?_eq_getElem hq, gI_at hq]; rfl] at hc
              exact hc)
            have d0 : decide ((0 : Int) < ((q + 1 : Nat) : Int)) = true := decide_eq_true (by omega)
            have hqi : (q : Int) < (ts.length : Int) := by omega
            have hqn : q < ts.length := by omega
            have hqz : (0 : Int) ≤ (q : Int) := by omega
            have hw1 : IntKind.i64.wrap (((q + 1 : Nat) : Int) - 1) = (q : Int) := by rw [IntWalk.i64_in _ (by omega)]; omega
            by_cases hw : ww ≤ gI bear q
            · have HUQ2 : Hid (upGo bear ww k = upGo bear ww q) := Lib.hid (by rw [HUQ.out, HUPD.out, if_pos hw])
              go_wp2_with fail
              refine wp_region_cls (fun w' => Hid (RSt reload (.slice (some ⟨b, o, none⟩) ts.length c) ts w B (.slice (some ⟨g, 0, none⟩) ts.length cb) bear v k w')) (by kernel_rfl) (by kernel_rfl) (Lib.hid (HS3.out.kept (Below.refl _ _).drew)) ?_
              repeat (first
                | go_big_quiet_skip
                | (go_big_quiet_want; go_big_quiet_op; first
                  | go_big_quiet_on
                  | (refine ⟨_, fun _ _ => rfl, ?_⟩; go_big_quiet_on)
                  | (apply Exists.intro; refine ⟨fun W HC => ?_, ?_⟩; (have c0 := HC.out.s.1.cell 0 rfl; have c1 := HC.out.s.1.cell 1 rfl; simp only [c0, c1, Result.andThen_ok]; exact ⟨trivial, rfl⟩); go_big_quiet_on)
                  | (apply Exists.intro; refine ⟨fun W HC => ?_, ?_⟩; (rw [HCB.out W HC.out]; exact ⟨rfl, rfl⟩); go_big_quiet_on)
                  | (apply Exists.intro; refine ⟨fun W HC => ?_, ?_⟩; (go_at_call 21; refine (HWH.out _ HC.out.s.2).mono ?_; rintro e w2 ⟨rfl, hb2⟩; exact ⟨rfl, Lib.hid (HC.out.kept hb2)⟩); go_big_quiet_on)))
              refine wpQuiet_nil ?_
              intro W5 HC
              go_wp2
              go_roundg q
              case rel => exact ⟨q, by omega, rfl, by go_num, HUQ2, HC⟩
              case measure => have := HGI.out; omega
            · have HUP : Hid (upGo bear ww k = q + 1) := Lib.hid (by rw [HUQ.out, HUPD.out, if_neg hw])
              have dw : decide (ww ≤ gI bear q) = false := by simp [hw]
              go_wp2_with fail
              refine wp_region_cls (fun w' => Hid (RSt reload (.slice (some ⟨b, o, none⟩) ts.length c) ts w B (.slice (some ⟨g, 0, none⟩) ts.length cb) bear v k w')) (by kernel_rfl) (by kernel_rfl) (Lib.hid (HS3.out.kept (Below.refl _ _).drew)) ?_
              repeat (first
                | go_big_quiet_skip
                | (go_big_quiet_want; go_big_quiet_op; first
                  | go_big_quiet_on
                  | (refine ⟨_, fun _ _ => rfl, ?_⟩; go_big_quiet_on)
                  | (apply Exists.intro; refine ⟨fun W HC => ?_, ?_⟩; (have c0 := HC.out.s.1.cell 0 rfl; have c1 := HC.out.s.1.cell 1 rfl; simp only [c0, c1, Result.andThen_ok]; exact ⟨trivial, rfl⟩); go_big_quiet_on)
                  | (apply Exists.intro; refine ⟨fun W HC => ?_, ?_⟩; (rw [HCB.out W HC.out]; exact ⟨rfl, rfl⟩); go_big_quiet_on)
                  | (apply Exists.intro; refine ⟨fun W HC => ?_, ?_⟩; (go_at_call 21; refine (HWH.out _ HC.out.s.2).mono ?_; rintro e w2 ⟨rfl, hb2⟩; exact ⟨rfl, Lib.hid (HC.out.kept hb2)⟩); go_big_quiet_on)))
              refine wpQuiet_nil ?_
              intro W5 HC
              have HLS : Hid (pL reload ts bear (k + 1) = pL reload ts bear k ++ [((q + 1 : Nat) : Int)]) := Lib.hid (by rw [pL_succ, HPI.out, HUP.out])
              go_wp2_with (at_builtin; refine append_one (w0 := w) B rfl (.tmp 39) (.tmp 41) 26 3 (.int .i64 0) 1 8 rfl Tryz.underlying26 int_info rfl (by decide) (by decide) v k (intC (pL reload ts bear k)) [.int .i64 ((q + 1 : Nat) : Int)] rfl rfl rfl (by simp [Value.oneCell']) HC.out.l HC.out.s.2 (by have := HC.out.lt1; omega) HC.out.lt3 (by omega) ?_; intro v1 w6 hown hB hg hat; have HG6 : Hid (RSt reload (.slice (some ⟨b, o, none⟩) ts.length c) ts w B (.slice (some ⟨g, 0, none⟩) ts.length cb) bear v1 (k + 1) w6) := Lib.hid (by
                obtain ⟨h1, h2, h3, h4, h5, h6⟩ := HC.out
                refine ⟨⟨h1.1.grown hg (fun he => by have hc := own_base h2 _ he.symm; omega), hB⟩, by rw [HLS.out, intC_snoc]; exact hown, h3.kept hg (.inr fun he => ?_), h4, h5, Nat.le_trans h6 (hg.size)⟩
                have e1 := own_base h2 g he.symm
                have e2 := h5 g rfl
                omega))
              go_roundg (ts.length - (k + 1))
              case rel => exact ⟨k + 1, hlt, rfl, by go_num, HG6⟩
              case measure => have := HGG.out; omega
      · obtain rfl : k = ts.length := by omega
        go_wp2
        go_ret2
        unfold RPost
        rw [HF.out]
        exact ⟨_, rfl, by rw [pL_len]; exact own_weak HST.out.l (by have := HST.out.lt1; omega), HST.out.s.2⟩
/-- What holds at the head of the round of taskmasterref17.Put. -/
structure RPut (reload : Int) (vs : Value) (w : World) (n : Nat) (pv : Value) (pl : List Int) (O : Nat) (v : Value) (ys : List (Task × Value)) (W : World) : Prop where
  s : SetC reload vs w W
  r : Blk W (w.heap.size + 1) [.int .i64 0, .slice none 0 0] 24
  p : W.ownsRow (w.heap.size + 2) 3 1 pv n (intC pl)
  q : Blk W O [.int .i64 reload, v] 24
  x : OwnT W (w.heap.size + 2) v ys
  ne1 : ∀ k, v.ownBlock = some k → k < O
  ne2 : ∀ k, v.ownBlock = some k → pv.ownBlock ≠ some k
theorem RPut.put3 {reload : Int} {vs : Value} {w : World} {N : Nat} {pv : Value} {pl : List Int} {O g n c : Nat} {ys : List (Task × Value)} {W : World} (h : RPut reload vs w N pv pl O (.slice (some ⟨g, 0, none⟩) n c) ys W) (k : Nat) (hk : k < ys.length) (m q th : Int) :
    RPut reload vs w N pv pl O (.slice (some ⟨g, 0, none⟩) n c) (ys.set k ({ (ys[k]).1 with mode := m, Q := q, theta := th }, (ys[k]).2)) ((((W.setCell ⟨g, k * 9 + 3, none⟩ (.int .i64 m)).setCell ⟨g, k * 9 + 4, none⟩ (.int .i64 q)).setCell ⟨g, k * 9 + 5, none⟩ (.int .i64 th)).drew) := by
  have hB := own_base h.x.row g rfl
  have hQ := h.ne1 g rfl
  have n1 : g ≠ w.heap.size := by omega
  have n2 : g ≠ w.heap.size + 1 := by omega
  have n3 : g ≠ O := by omega
  have n4 : pv.ownBlock ≠ some g := h.ne2 g rfl
  have hd := fun W : World => below_drew (Below.refl W.heap.size W)
  exact ⟨⟨(((h.s.1.far n1 _).far n1 _).far n1 _).drew, below_drew (below_setCell (below_setCell (below_setCell h.s.2 (by simp; omega) _) (by simp; omega) _) (by simp; omega) _)⟩, (((h.r.far n2 _).far n2 _).far n2 _).drew, own_kept (own_set (own_set (own_set h.p n4 _) n4 _) n4 _) (hd _), (((h.q.far n3 _).far n3 _).far n3 _).drew, (h.x.put3 k hk m q th).kept (hd _), h.ne1, h.ne2⟩
set_option maxRecDepth 100000 in
set_option maxHeartbeats 4000000 in
theorem rraisePut_any (reload : Int) (vs : Value) (ts : List Task) (w : World) (hv : RdT w vs ts) (hG : Good reload ts) :
    Calls Tryz.prog 10 #[.agg #[.int .i64 reload, vs]] w (PutPost reload (raisePutF reload ts) w) := by
  have HSO := Lib.hid (fun W (h : Below w.heap.size w W) => rraiseOf_any reload vs ts W (hv.kept CTask.mono h) hG)
  have HREG : Hid (∀ k, k < ts.length → 1 ≤ (gT ts k).regs.length ∧ (gT ts k).regs.length ≤ 8) := Lib.hid (fun k hk => by have := (regsB_iff _).1 (hG.regs k hk); omega)
  have hl := hG.n8
  have HPC := Lib.hid (fun W (h : Below w.heap.size w W) => rput_any reload vs ts W (hv.kept CTask.mono h) hl HREG.out)
  have hl1 := hG.n1
  obtain ⟨A, c, rfl, hle, hat⟩ := hv.at
  clear hv hG hat
  cases ht : tolAllF reload ts with
  | none =>
    have HF : Hid (raisePutF reload ts = none) := Lib.hid (by unfold raisePutF; rw [ht]; rfl)
    have HP : Hid (∀ W e w', RPost (raiseF reload ts) W e w' → e = .returned (.tuple #[.slice none 0 0, .bool false]) ∧ Below W.heap.size W w') := Lib.hid (fun W e w' h => by unfold RPost raiseF at h; rw [ht] at h; exact h)
    clear ht
    go_enter Tryz.func10, Tryz.ntmps10
    go_upto_region 3 with (go_at_call 8; refine Calls.mono (HSO.out _ ?_) ?_; (exact (by repeat (first | exact Below.refl _ _ | refine Below.drew ?_ | refine Below.alloc ?_ (by simp <;> omega) _))); intro e w1 hpost; obtain ⟨rfl, hb1⟩ := HP.out _ _ _ hpost; clear hpost)
    have B1 : Hid (Blk w1 (w.heap.size + 1) [.int .i64 0, .slice none 0 0] 24) := Lib.hid (Blk.kept (Blk.newAt (by simp)) hb1)
    have e0 := B1.out.cell 0 rfl
    have e1 := B1.out.cell 1 rfl
    have g0 := B1.out.free 0
    have g1 := B1.out.free 1
    go_wp2
    have B2 : Hid (Blk ((w1.setCell ⟨w.heap.size + 1, 0, none⟩ (.int .i64 0)).setCell ⟨w.heap.size + 1, 1, none⟩ (.slice none 0 0)) (w.heap.size + 1) [.int .i64 0, .slice none 0 0] 24) := Lib.hid ((B1.out.set 0 _).set 1 _)
    have r0 := B2.out.cell 0 rfl
    have r1 := B2.out.cell 1 rfl
    refine bodyPost_ret (v := .tuple #[.agg #[.int .i64 0, .slice none 0 0], .bool false]) (by simp [results, Tryz.results10, go_sem, r0, r1]) rfl ?_
    unfold PutPost
    rw [HF.out]
    exact ⟨rfl, below_setCell (below_setCell (below_tr (Below.alloc (Below.alloc (Below.refl _ _) (Nat.le_refl _) _) (by simp) _) hb1) (by simp) _) (by simp) _⟩
  | some bear =>
    have HF : Hid (raisePutF reload ts = some ((List.range ts.length).map (pTask reload ts bear))) := Lib.hid (by unfold raisePutF; rw [ht]; rfl)
    have HP : Hid (∀ W e w', RPost (raiseF reload ts) W e w' → ∃ v, e = .returned (.tuple #[v, .bool true]) ∧ w'.ownsRow W.heap.size 3 1 v ts.length (intC (pL reload ts bear ts.length)) ∧ Below W.heap.size W w') := Lib.hid (fun W e w' h => by unfold RPost raiseF at h; rw [ht] at h; simp only [Option.map_some, pL_len] at h; exact h)
    clear ht
    have HLL : Hid (((List.range ts.length).map (pTask reload ts bear)).length = ts.length) := Lib.hid (by simp)
    have HLG : Hid (∀ k, k < ts.length → gT ((List.range ts.length).map (pTask reload ts bear)) k = pTask reload ts bear k) := Lib.hid (fun k hk => by rw [gT_at (by simpa using hk)]; simp)
    have HPG : Hid (∀ k, k < ts.length → pTask reload ts bear k = { gT ts k with mode := 2, Q := 0, theta := pI reload ts bear k }) := Lib.hid (fun k hk => rfl)
    have HPK : Hid (∀ k, k < ts.length → (intC (pL reload ts bear ts.length))[k]? = some (.int .i64 (pI reload ts bear k))) := Lib.hid (fun k hk => by unfold intC pL; simp [hk])
    generalize (List.range ts.length).map (pTask reload ts bear) = l at *
    go_enter Tryz.func10, Tryz.ntmps10
    go_upto_region 4 with (go_at_call 8; refine Calls.mono (HSO.out _ ?_) ?_; (exact (by repeat (first | exact Below.refl _ _ | refine Below.drew ?_ | refine Below.alloc ?_ (by simp <;> omega) _))); intro e w1 hpost; obtain ⟨pv, rfl, hown, hb1⟩ := HP.out _ _ _ hpost; have HS : Hid (SetC reload (.slice A ts.length c) w w1) := Lib.hid (SetC.kept ⟨(Blk.newAt rfl).alloc _, (by repeat (first | exact Below.refl _ _ | refine Below.drew ?_ | refine Below.alloc ?_ (by simp <;> omega) _))⟩ hb1); have B1 : Hid (Blk w1 (w.heap.size + 1) [.int .i64 0, .slice none 0 0] 24) := Lib.hid (Blk.kept (Blk.newAt (by simp)) hb1); clear hpost hb1; have s0 := HS.out.1.cell 0 rfl; have s1 := HS.out.1.cell 1 rfl; obtain ⟨gp, cp, rfl, -, -, -⟩ := own_cells hown (by omega); have HOP := Lib.hid hown; clear hown)
    go_upto_region 5 with (go_at_call 16; refine (HPC.out _ HS.out.2).mono ?_; rintro e w2 ⟨v, ys, rfl, hys, hown, hb2⟩; have hyl : ys.length = ts.length := (by have := congrArg List.length hys; simp at this; exact this); obtain ⟨g, cg, hvg, hgb, -, -⟩ := own_cells hown.row (by omega); rw [hyl] at hvg; subst hvg; have HYS := Lib.hid hys; have HYL := Lib.hid hyl; have HOB := Lib.hid (And.intro hown hb2); clear hyl hys hown hb2)
    have H5 : Hid (RPut reload (.slice A ts.length c) w ts.length (.slice (some ⟨gp, 0, none⟩) ts.length cp) (pL reload ts bear ts.length) w2.heap.size (.slice (some ⟨g, 0, none⟩) ts.length cg) ys (w2.alloc (Obj.cells #[.int .i64 reload, .slice (some ⟨g, 0, none⟩) ts.length cg] 24))) := Lib.hid (by
      obtain ⟨hown, hb2⟩ := HOB.out
      have hb3 := (Below.refl w2.heap.size w2).alloc (Nat.le_refl _) (Obj.cells #[.int .i64 reload, .slice (some ⟨g, 0, none⟩) ts.length cg] 24)
      have hw1 := B1.out.lt
      have hgp := own_lt HOP.out gp rfl
      refine ⟨(HS.out.kept hb2).kept hb3, (B1.out.kept hb2).kept hb3, own_kept (own_kept (own_weak HOP.out (by simp)) hb2) hb3, Blk.newAt rfl, ⟨own_weak (own_kept hown.row hb3) (by omega), fun x hx => ⟨own_weak (own_kept (hown.regs x hx).1 hb3) (by omega), (hown.regs x hx).2⟩⟩, fun k hk => own_lt hown.row k hk, fun k hk he => ?_⟩
      simp [Value.ownBlock] at hk he
      omega)
    clear s0 s1 HS B1 HOP HOB
    generalize w2.alloc _ = W5 at *
    generalize w2.heap.size = O at *
    go_wp2_with fail
    go_loopw [7] (fun i W => ∃ (k : Nat) (zs : List (Task × Value)), k ≤ ts.length ∧ i = .int .i64 k ∧ Hid (zs.map Prod.fst = l.take k ++ ts.drop k) ∧ Hid (RPut reload (.slice A ts.length c) w ts.length (.slice (some ⟨gp, 0, none⟩) ts.length cp) (pL reload ts bear ts.length) O (.slice (some ⟨g, 0, none⟩) ts.length cg) zs W)) (fun i _ => ts.length - (intOf i).toNat)
    case atStart => exact ⟨0, ys, Nat.zero_le _, rfl, Lib.hid (by rw [HYS.out]; rfl), H5⟩
    case round =>
      obtain ⟨k, zs, hk, rfl, HZS, HST⟩ := hrel
      clear H5
      have HZL : Hid (zs.length = ts.length) := Lib.hid (by have := congrArg List.length HZS.out; simp at this; rw [this, HLL.out]; omega)
      by_cases hlt : k < ts.length
      · have q1 := HST.out.q.cell 1 rfl
        have e4 := HST.out.ne1 g rfl
        have hzl := HZL.out
        have hkz : k < zs.length := by omega
        have hrow := HST.out.x.row
        rw [hzl] at hrow
        have d3 : wr.cell? ⟨g, k * 9 + 3, none⟩ = some (.int .i64 (zs[k]).1.mode) := by rw [World.ownsRow.cellAt hrow (k * 9 + 3) (by omega), tasksC_at zs k 3 hkz (by omega)]; rfl
        have d4 : wr.cell? ⟨g, k * 9 + 4, none⟩ = some (.int .i64 (zs[k]).1.Q) := by rw [World.ownsRow.cellAt hrow (k * 9 + 4) (by omega), tasksC_at zs k 4 hkz (by omega)]; rfl
        have d5 : wr.cell? ⟨g, k * 9 + 5, none⟩ = some (.int .i64 (zs[k]).1.theta) := by rw [World.ownsRow.cellAt hrow (k * 9 + 5) (by omega), tasksC_at zs k 5 hkz (by omega)]; rfl
        have f3 := World.ownsRow.frozenAt hrow (k * 9 + 3)
        have f4 := World.ownsRow.frozenAt hrow (k * 9 + 4)
        have f5 := World.ownsRow.frozenAt hrow (k * 9 + 5)
        have c0 : wr.cell? ⟨gp, k, none⟩ = some (.int .i64 (pI reload ts bear k)) := by rw [World.ownsRow.cellAt HST.out.p k (by omega), HPK.out k hlt]
        have HNEW : Hid ((zs.set k ({ (zs[k]).1 with mode := 2, Q := 0, theta := pI reload ts bear k }, (zs[k]).2)).map Prod.fst = l.take (k + 1) ++ ts.drop (k + 1)) := Lib.hid (by
          have hz1 : (zs[k]).1 = gT ts k := by
            have h1 : (zs.map Prod.fst)[k]? = some (zs[k]).1 := by rw [List.getElem?_map, List.getElem?_eq_getElem hkz]; rfl
            rw [HZS.out, List.getElem?_append_right (by rw [List.length_take, HLL.out]; omega), List.length_take, HLL.out, List.getElem?_drop, show k + (k - min k ts.length) = k by omega] at h1
            rw [List.getElem?_eq_getElem hlt] at h1
            rw [gT_at hlt]
            exact (Option.some.inj h1).symm
          rw [List.map_set, HZS.out, hz1, ← HPG.out k hlt, ← HLG.out k hlt]
          exact restore HLL.out.symm (by rw [HLL.out]; exact hlt))
        have HOL := Lib.hid (HST.out.put3 k hkz 2 0 (pI reload ts bear k))
        have n1 : ¬ gp = g := fun he => HST.out.ne2 g rfl (by rw [he]; rfl)
        have n1' : ¬ g = gp := fun he => n1 he.symm
        have n3 : ¬ O = g := by omega
        have n3' : ¬ g = O := by omega
        have hi1 : (k : Int) < (ts.length : Int) := by omega
        clear hrow e4 hzl
        generalize pI reload ts bear k = tt at *
        generalize (zs[k]).1.mode = zm at *
        generalize (zs[k]).1.Q = zq at *
        generalize (zs[k]).1.theta = zt at *
        go_upto_region 8 with (fail)
        go_region_held3 (fun W => W.cell? ⟨O, 1, none⟩ = some (.slice (some ⟨g, 0, none⟩) ts.length cg) ∧ W.cell? ⟨gp, k, none⟩ = some (.int .i64 tt)) (go_keep) (fail)
        generalize World.drew _ = W9 at *
        go_wp2_with fail
        go_roundw
        case rel => exact ⟨k + 1, _, hlt, by go_num, HNEW, HOL⟩
        case measure => simp [intOf]; omega
      · obtain rfl : k = ts.length := by omega
        have HZE : Hid (zs.map Prod.fst = l) := Lib.hid (by rw [HZS.out, List.drop_length, List.append_nil, List.take_of_length_le (by rw [HLL.out]; exact Nat.le_refl _)])
        have z0 := HST.out.q.cell 0 rfl
        have z1 := HST.out.q.cell 1 rfl
        have y0 := HST.out.r.cell 0 rfl
        have y1 := HST.out.r.cell 1 rfl
        have yf0 := HST.out.r.free 0
        have yf1 := HST.out.r.free 1
        go_wp2
        have HY : Hid (Blk ((wr.setCell ⟨w.heap.size + 1, 0, none⟩ (.int .i64 reload)).setCell ⟨w.heap.size + 1, 1, none⟩ (.slice (some ⟨g, 0, none⟩) ts.length cg)) (w.heap.size + 1) [.int .i64 reload, .slice (some ⟨g, 0, none⟩) ts.length cg] 24) := Lib.hid ((HST.out.r.set 0 _).set 1 _)
        have r0 := HY.out.cell 0 rfl
        have r1 := HY.out.cell 1 rfl
        refine bodyPost_ret (v := .tuple #[.agg #[.int .i64 reload, .slice (some ⟨g, 0, none⟩) ts.length cg], .bool true]) (by simp [results, Tryz.results10, go_sem, r0, r1]) rfl ?_
        unfold PutPost
        rw [HF.out]
        refine ⟨_, zs, rfl, HZE.out, ?_, below_setCell (below_setCell HST.out.s.2 (by simp) _) (by simp) _⟩
        have hh := (HST.out.x.setFar (p := ⟨w.heap.size + 1, 0, none⟩) (by simp) (.int .i64 reload)).setFar (p := ⟨w.heap.size + 1, 1, none⟩) (by simp) (.slice (some ⟨g, 0, none⟩) ts.length cg)
        exact ⟨own_weak hh.row (by omega), fun x hx => ⟨own_weak (hh.regs x hx).1 (by omega), (hh.regs x hx).2⟩⟩
end Go.Proofs.YtopmnpkjhaabcaaGreatDoor
