/- raise.Of, raise.Put walked. -/
import Derived.Test.YtopmnpkjhaabcaaGreatDoorwa
import Derived.Deep.LoopGhost
import Derived.IntWalk
import Derived.Deep.CutBlock
import Derived.Deep.DeepCutAuto
set_option linter.unusedVariables false
set_option linter.unusedSimpArgs false
namespace Go.Proofs.YtopmnpkjhaabcaaGreatDoor
open Go.RowKit

/-- How far a threshold goes: from a priority on upward, while the next one bears so much. -/
def upGo (bear : List Int) (w : Int) : Nat → Nat
  | 0 => 0
  | p + 1 => if w ≤ gI bear p then upGo bear w p else p + 1
theorem upGo_le (bear : List Int) (w : Int) (p : Nat) : upGo bear w p ≤ p := by
  induction p with
  | zero => exact Nat.le_refl _
  | succ p ih => rw [upGo]; split <;> omega
def wholeI (reload : Int) (ts : List Task) (k : Nat) : Int := workI ts k + ownI reload ts k - 1
/-- The highest threshold of a task. -/
def pI (reload : Int) (ts : List Task) (bear : List Int) (k : Nat) : Int := (upGo bear (wholeI reload ts k) k : Nat)
def pL (reload : Int) (ts : List Task) (bear : List Int) (k : Nat) : List Int := (List.range k).map (pI reload ts bear)
theorem pL_succ (reload : Int) (ts : List Task) (bear : List Int) (k : Nat) : pL reload ts bear (k + 1) = pL reload ts bear k ++ [pI reload ts bear k] := by simp [pL, List.range_succ]
theorem pL_len (reload : Int) (ts : List Task) (bear : List Int) (k : Nat) : (pL reload ts bear k).length = k := by simp [pL]
def raiseF (reload : Int) (ts : List Task) : Option (List Int) := (tolAllF reload ts).map fun bear => pL reload ts bear ts.length
def RPost (r : Option (List Int)) (w : World) (e : Ending) (w' : World) : Prop :=
  match r with
  | none => e = .returned (.tuple #[.slice none 0 0, .bool false]) ∧ Below w.heap.size w w'
  | some l => ∃ v, e = .returned (.tuple #[v, .bool true]) ∧ w'.ownsRow w.heap.size 3 1 v l.length (intC l) ∧ Below w.heap.size w w'
structure RSt (reload : Int) (vs : Value) (ts : List Task) (w : World) (B : Nat) (bv : Value) (bear : List Int) (v : Value) (k : Nat) (W : World) : Prop where
  s : SetC reload vs w W
  l : W.ownsRow B 3 1 v k (intC (pL reload ts bear k))
  b : W.ownsRow (w.heap.size + 1) 2 1 bv ts.length (intC bear)
  lt1 : w.heap.size + 1 ≤ B
  lt2 : ∀ k, bv.ownBlock = some k → k < B
  lt3 : B ≤ W.heap.size
theorem RSt.kept {reload : Int} {vs : Value} {ts : List Task} {w : World} {B : Nat} {bv : Value} {bear : List Int} {v : Value} {k : Nat} {W W' : World} (h : RSt reload vs ts w B bv bear v k W) (hb : Below W.heap.size W W') : RSt reload vs ts w B bv bear v k W' :=
  ⟨h.s.kept hb, own_kept h.l hb, own_kept h.b hb, h.lt1, h.lt2, Nat.le_trans h.lt3 hb.size⟩
theorem whole_bound {reload : Int} {ts : List Task} (hG : Good reload ts) {k : Nat} (hk : k < ts.length) : 0 ≤ ownI reload ts k ∧ ownI reload ts k ≤ 640000 ∧ 0 ≤ wholeI reload ts k ∧ wholeI reload ts k ≤ 650000 := by
  have h1 := work_bound hG hk
  have h2 := ticks_bound (x := (gT ts k).ucb) hG.r0 hG.r1
  unfold wholeI ownI
  omega
set_option maxRecDepth 100000 in
set_option maxHeartbeats 2000000 in
theorem raiseOf_any (reload : Int) (vs : Value) (ts : List Task) (w : World) (hv : RdT w vs ts) (hcap : CapOk vs) (hG : Good reload ts) (hall : allB reload ts = true) (hn : ∀ t ∈ ts, t.name.size ≤ 140737488351232) (hT : SpaceTab w) :
    Calls Tryz.prog 7 #[.agg #[.int .i64 reload, vs]] w (RPost (raiseF reload ts) w) := by
  have HTO := Lib.hid (fun W (h : Below w.heap.size w W) => tolAll_any reload vs ts W (hv.kept CTask.mono h) hcap hG hall hn (hT.below h))
  have hl := hG.n8
  have hl1 := hG.n1
  have HGD := Lib.hid hG
  have HVV := Lib.hid (fun W (h : Below w.heap.size w W) => (hv.kept CTask.mono h : RdT W vs ts))
  obtain ⟨A, c, rfl, hle, hat⟩ := hv.at
  have HAT := Lib.hid hat
  clear hv hcap hG hat hn hT hall
  cases ht : tolAllF reload ts with
  | none =>
    have HF : Hid (raiseF reload ts = none) := Lib.hid (by unfold raiseF; rw [ht]; rfl)
    have HP : Hid (∀ W e w', TolPost reload ts W e w' → e = .returned (.tuple #[.slice none 0 0, .bool false]) ∧ Below W.heap.size W w') := Lib.hid (fun W e w' h => by unfold TolPost at h; rw [ht] at h; exact h)
    clear ht
    go_enter Tryz.func7, Tryz.ntmps7
    go_wp2_with (go_at_call 17; refine Calls.mono (HTO.out _ ?_) ?_; (exact (by repeat (first | exact Below.refl _ _ | refine Below.drew ?_ | refine Below.alloc ?_ (by simp <;> omega) _))); intro e w1 hpost; obtain ⟨rfl, hb1⟩ := HP.out _ _ _ hpost; clear hpost)
    go_ret2
    unfold RPost
    rw [HF.out]
    exact ⟨rfl, below_tr (Below.alloc (Below.refl _ _) (Nat.le_refl _) _) hb1⟩
  | some bear =>
    have HF : Hid (raiseF reload ts = some (pL reload ts bear ts.length)) := Lib.hid (by unfold raiseF; rw [ht]; rfl)
    have HBL : Hid (bear.length = ts.length) := Lib.hid (by unfold tolAllF at ht; split at ht; cases ht; exact bearL_len _ _ _; cases ht)
    have HP : Hid (∀ W e w', TolPost reload ts W e w' → ∃ v, e = .returned (.tuple #[v, .bool true]) ∧ w'.ownsRow W.heap.size 2 1 v bear.length (intC bear) ∧ Below W.heap.size W w') := Lib.hid (fun W e w' h => by unfold TolPost at h; rw [ht] at h; exact h)
    clear ht
    go_enter Tryz.func7, Tryz.ntmps7
    go_wp2_with (go_at_call 17; refine Calls.mono (HTO.out _ ?_) ?_; (exact (by repeat (first | exact Below.refl _ _ | refine Below.drew ?_ | refine Below.alloc ?_ (by simp <;> omega) _))); intro e w1 hpost; obtain ⟨bv, rfl, hown, hb1⟩ := HP.out _ _ _ hpost; have HS : Hid (SetC reload (.slice A ts.length c) w w1) := Lib.hid (SetC.kept ⟨Blk.newAt rfl, (by repeat (first | exact Below.refl _ _ | refine Below.drew ?_ | refine Below.alloc ?_ (by simp <;> omega) _))⟩ hb1); clear hpost hb1; rw [HBL.out] at hown; have s1 := HS.out.1.cell 1 rfl; obtain ⟨g, cb, rfl, hg1, hg2, hgc⟩ := own_cells hown (by omega); have HOWN := Lib.hid hown; clear hown hgc)
    have H3 : Hid (RSt reload (.slice A ts.length c) ts w w1.heap.size (.slice (some ⟨g, 0, none⟩) ts.length cb) bear (.slice none 0 0) 0 w1) := Lib.hid ⟨HS.out, own_nil _ _ _ _, own_weak HOWN.out (by simp), HS.out.1.lt, fun k hk => own_lt HOWN.out k hk, Nat.le_refl _⟩
    generalize w1.heap.size = B at *
    clear HS HOWN s1
    go_loopg [6, 21] ts.length (fun gg v i W => ∃ k : Nat, k ≤ ts.length ∧ gg = ts.length - k ∧ i = .int .i64 k ∧ Hid (RSt reload (.slice A ts.length c) ts w B (.slice (some ⟨g, 0, none⟩) ts.length cb) bear v k W))
    case atStart => exact ⟨0, Nat.zero_le _, rfl, rfl, H3⟩
    case round =>
      obtain ⟨k, hk, hgg, rfl, HST⟩ := hrel
      have HGG := Lib.hid hgg
      clear hgg H3
      obtain ⟨v, hv6⟩ : ∃ v, v = u6 := ⟨_, rfl⟩
      subst hv6
      by_cases hlt : k < ts.length
      · obtain ⟨b, o, vr, rfl, hr, hcell⟩ := HAT.out k hlt
        obtain ⟨Ar, cr, rfl, -⟩ := id hr
        have hcell2 := fun j u hu => cell_kept HST.out.s.2 (hcell j u hu)
        obtain ⟨c0, c1, c2, c3, c4, c5, c6, c7, c8⟩ := task_cells hcell2
        have HWK := Lib.hid (fun W (h : Below w.heap.size w W) => work_any (gT ts k) (.slice Ar (gT ts k).regs.length cr) W (hr.kept CInt.mono h) (HGD.out.regs k hlt))
        have HOW := Lib.hid (fun W (h : Below w.heap.size w W) => own_any reload (.slice (some ⟨b, o, none⟩) ts.length c) ts k W (HVV.out W h) HGD.out hlt)
        clear hcell hcell2 hr
        obtain ⟨wb1, wb2, wb3, wb4⟩ := whole_bound HGD.out hlt
        obtain ⟨wb5, wb6⟩ := work_bound HGD.out hlt
        have HWI : Hid ((gT ts k).regs.sum = workI ts k) := Lib.hid rfl
        have HWH : Hid (wholeI reload ts k = workI ts k + ownI reload ts k - 1) := Lib.hid rfl
        go_upto_region 8 with (fail)
        have H4 : Hid (RSt reload (.slice (some ⟨b, o, none⟩) ts.length c) ts w B (.slice (some ⟨g, 0, none⟩) ts.length cb) bear v k (wr.alloc (Obj.cells #[.string (gT ts k).name, .int .i64 (gT ts k).T, .int .i64 (gT ts k).D, .int .i64 (gT ts k).mode, .int .i64 (gT ts k).Q, .int .i64 (gT ts k).theta, .slice Ar (gT ts k).regs.length cr, .int .u64 (gT ts k).ecb, .int .u64 (gT ts k).ucb] 41)) ∧ Blk (wr.alloc (Obj.cells #[.string (gT ts k).name, .int .i64 (gT ts k).T, .int .i64 (gT ts k).D, .int .i64 (gT ts k).mode, .int .i64 (gT ts k).Q, .int .i64 (gT ts k).theta, .slice Ar (gT ts k).regs.length cr, .int .u64 (gT ts k).ecb, .int .u64 (gT ts k).ucb] 41)) wr.heap.size ((gT ts k).cells (.slice Ar (gT ts k).regs.length cr)) 41) := Lib.hid ⟨HST.out.kept (by repeat (first | exact Below.refl _ _ | refine Below.drew ?_ | refine Below.alloc ?_ (by simp <;> omega) _)), Blk.newAt rfl⟩
        generalize wr.alloc _ = W4 at *
        generalize wr.heap.size = X at *
        clear c0 c1 c2 c3 c4 c5 c6 c7 c8 HST
        have hs1 : IntKind.i64.wrap (workI ts k + ownI reload ts k) = workI ts k + ownI reload ts k := IntWalk.i64_in _ (by omega)
        have hs2 : IntKind.i64.wrap (workI ts k + ownI reload ts k - 1) = workI ts k + ownI reload ts k - 1 := IntWalk.i64_in _ (by omega)
        refine wp_region_cls (fun w' => Hid (RSt reload (.slice (some ⟨b, o, none⟩) ts.length c) ts w B (.slice (some ⟨g, 0, none⟩) ts.length cb) bear v k w' ∧ Blk w' X ((gT ts k).cells (.slice Ar (gT ts k).regs.length cr)) 41)) (by kernel_rfl) (by kernel_rfl) (Lib.hid ⟨H4.out.1.kept (Below.refl _ _).drew, H4.out.2.drew⟩) ?_
        repeat (first
          | go_big_quiet_skip
          | (go_big_quiet_want; go_big_quiet_op; first
            | go_big_quiet_on
            | (refine ⟨_, fun _ _ => rfl, ?_⟩; go_big_quiet_on)
            | (apply Exists.intro; refine ⟨fun W HC => ?_, ?_⟩; (have c0 := HC.out.1.s.1.cell 0 rfl; have c1 := HC.out.1.s.1.cell 1 rfl; simp only [c0, c1, Result.andThen_ok]; exact ⟨trivial, rfl⟩); go_big_quiet_on)
            | (apply Exists.intro; refine ⟨fun W HC => ?_, ?_⟩; (have c0 := HC.out.2.cell 0 rfl; have c1 := HC.out.2.cell 1 rfl; have c2 := HC.out.2.cell 2 rfl; have c3 := HC.out.2.cell 3 rfl; have c4 := HC.out.2.cell 4 rfl; have c5 := HC.out.2.cell 5 rfl; have c6 := HC.out.2.cell 6 rfl; have c7 := HC.out.2.cell 7 rfl; have c8 := HC.out.2.cell 8 rfl; simp only [c0, c1, c2, c3, c4, c5, c6, c7, c8, Result.andThen_ok]; exact ⟨trivial, rfl⟩); go_big_quiet_on)
            | (apply Exists.intro; refine ⟨fun W HC => ?_, ?_⟩; (go_at_call 18; refine (HWK.out _ HC.out.1.s.2).mono ?_; rintro e w2 ⟨rfl, hb2⟩; rw [HWI.out]; exact ⟨rfl, Lib.hid ⟨HC.out.1.kept hb2, HC.out.2.kept hb2⟩⟩); go_big_quiet_on)
            | (apply Exists.intro; refine ⟨fun W HC => ?_, ?_⟩; (go_at_call 19; refine (HOW.out _ HC.out.1.s.2).mono ?_; rintro e w2 ⟨rfl, hb2⟩; exact ⟨rfl, Lib.hid ⟨HC.out.1.kept hb2, HC.out.2.kept hb2⟩⟩); go_big_quiet_on)))
        refine wpQuiet_nil ?_
        intro W5 HC
        rw [← HWH.out]
        clear hs1 hs2 H4
        have HW : Hid (0 ≤ wholeI reload ts k ∧ wholeI reload ts k ≤ 650000) := Lib.hid ⟨wb3, wb4⟩
        clear wb1 wb2 wb3 wb4 wb5 wb6 HWH HWI HWK HOW
        have HUPD : Hid (∀ p : Nat, upGo bear (wholeI reload ts k) (p + 1) = if wholeI reload ts k ≤ gI bear p then upGo bear (wholeI reload ts k) p else p + 1) := Lib.hid (fun p => rfl)
        have HPI : Hid (pI reload ts bear k = (upGo bear (wholeI reload ts k) k : Nat)) := Lib.hid rfl
        generalize wholeI reload ts k = ww at *
        have HC5 := Lib.hid HC.out.1
        clear HC
        go_wp2_with fail
        go_loopg [10] k (fun gi i W => ∃ p : Nat, p ≤ k ∧ gi = p ∧ i = .int .i64 p ∧ Hid (upGo bear ww k = upGo bear ww p) ∧ Hid (RSt reload (.slice (some ⟨b, o, none⟩) ts.length c) ts w B (.slice (some ⟨g, 0, none⟩) ts.length cb) bear v k W))
        case atStart => exact ⟨k, Nat.le_refl _, rfl, rfl, Lib.hid rfl, HC5⟩
        case round =>
          obtain ⟨p, hp, hgi, rfl, HUQ, HS3⟩ := hrel
          have HGI := Lib.hid hgi
          clear hgi HC5
          by_cases hp0 : p = 0
          · subst hp0
            have HUP : Hid (upGo bear ww k = 0) := Lib.hid HUQ.out
            have HLS : Hid (pL reload ts bear (k + 1) = pL reload ts bear k ++ [((0 : Nat) : Int)]) := Lib.hid (by rw [pL_succ, HPI.out, HUP.out])
            go_wp2_with (at_builtin; refine append_one (w0 := w) B rfl (.tmp 47) (.tmp 49) 26 3 (.int .i64 0) 1 8 rfl Tryz.underlying26 int_info rfl (by decide) (by decide) v k (intC (pL reload ts bear k)) [.int .i64 ((0 : Nat) : Int)] rfl rfl rfl (by simp [Value.oneCell']) HS3.out.l HS3.out.s.2 (by have := HS3.out.lt1; omega) HS3.out.lt3 (by omega) ?_; intro v1 w6 hown hB hg hat; have HG6 : Hid (RSt reload (.slice (some ⟨b, o, none⟩) ts.length c) ts w B (.slice (some ⟨g, 0, none⟩) ts.length cb) bear v1 (k + 1) w6) := Lib.hid (by
              obtain ⟨h1, h2, h3, h4, h5, h6⟩ := HS3.out
              refine ⟨⟨h1.1.grown hg (fun he => by have hc := own_base h2 _ he.symm; omega), hB⟩, by rw [HLS.out, intC_snoc]; exact hown, h3.kept hg (.inr fun he => ?_), h4, h5, Nat.le_trans h6 (hg.size)⟩
              have e1 := own_base h2 g he.symm
              have e2 := h5 g rfl
              omega))
            go_roundg (ts.length - (k + 1))
            case rel => exact ⟨k + 1, hlt, rfl, by go_num, HG6⟩
            case measure => have := HGG.out; omega
          · obtain ⟨q, rfl⟩ : ∃ q, p = q + 1 := ⟨p - 1, by omega⟩
            have hc := World.ownsRow.cellAt HS3.out.b q (by omega)
            rw [show (intC bear)[q]? = some (.int .i64 (gI bear q)) by
              unfold intC
              have hq : q < bear.length := by rw [HBL.out]; omega
              rw [List.getElem?_map, List.getElem?_eq_getElem hq, gI_at hq]; rfl] at hc
            have hqi : (q : Int) < (ts.length : Int) := by omega
            have hqn : q < ts.length := by omega
            by_cases hw : ww ≤ gI bear q
            · have HUQ2 : Hid (upGo bear ww k = upGo bear ww q) := Lib.hid (by rw [HUQ.out, HUPD.out, if_pos hw])
              go_wp2
              go_roundg q
              case rel => exact ⟨q, by omega, rfl, by go_num, HUQ2, HS3⟩
              case measure => have := HGI.out; omega
            · have HUP : Hid (upGo bear ww k = q + 1) := Lib.hid (by rw [HUQ.out, HUPD.out, if_neg hw])
              have HLS : Hid (pL reload ts bear (k + 1) = pL reload ts bear k ++ [((q + 1 : Nat) : Int)]) := Lib.hid (by rw [pL_succ, HPI.out, HUP.out])
              go_wp2_with (at_builtin; refine append_one (w0 := w) B rfl (.tmp 47) (.tmp 49) 26 3 (.int .i64 0) 1 8 rfl Tryz.underlying26 int_info rfl (by decide) (by decide) v k (intC (pL reload ts bear k)) [.int .i64 ((q + 1 : Nat) : Int)] rfl rfl rfl (by simp [Value.oneCell']) HS3.out.l HS3.out.s.2 (by have := HS3.out.lt1; omega) HS3.out.lt3 (by omega) ?_; intro v1 w6 hown hB hg hat; have HG6 : Hid (RSt reload (.slice (some ⟨b, o, none⟩) ts.length c) ts w B (.slice (some ⟨g, 0, none⟩) ts.length cb) bear v1 (k + 1) w6) := Lib.hid (by
                obtain ⟨h1, h2, h3, h4, h5, h6⟩ := HS3.out
                refine ⟨⟨h1.1.grown hg (fun he => by have hc := own_base h2 _ he.symm; omega), hB⟩, by rw [HLS.out, intC_snoc]; exact hown, h3.kept hg (.inr fun he => ?_), h4, h5, Nat.le_trans h6 (hg.size)⟩
                have e1 := own_base h2 g he.symm
                have e2 := h5 g rfl
                omega))
              go_roundg (ts.length - (k + 1))
              case rel => exact ⟨k + 1, hlt, rfl, by go_num, HG6⟩
              case measure => have := HGG.out; omega
      · obtain rfl : k = ts.length := by omega
        go_wp2
        go_ret2
        unfold RPost
        rw [HF.out]
        exact ⟨_, rfl, by rw [pL_len]; exact own_weak HST.out.l (by have := HST.out.lt1; omega), HST.out.s.2⟩
end Go.Proofs.YtopmnpkjhaabcaaGreatDoor
