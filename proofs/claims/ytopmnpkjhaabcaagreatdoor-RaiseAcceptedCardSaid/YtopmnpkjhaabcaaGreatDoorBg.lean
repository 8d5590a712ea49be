/- raise.Put walked. -/
import Derived.Test.YtopmnpkjhaabcaaGreatDoorBa
set_option linter.unusedVariables false
set_option linter.unusedSimpArgs false
namespace Go.Proofs.YtopmnpkjhaabcaaGreatDoor
open Go.RowKit

def pTask (reload : Int) (ts : List Task) (bear : List Int) (k : Nat) : Task := { gT ts k with mode := 2, Q := 0, theta := pI reload ts bear k }
/-- What is put: the tasks of the set, their Q the longest. -/
def RPutSt (reload : Int) (vs : Value) (ts : List Task) (w : World) (O : Nat) (qv : Value) (ql : List Int) (vo : Value) (xs : List (Task × Value)) (W : World) : Prop :=
  SetC reload vs w W ∧ Blk W (w.heap.size + 1) [.int .i64 0, .slice none 0 0] 24 ∧ Blk W O [.int .i64 reload, vo] 24 ∧ OwnT W (O + 1) vo xs ∧ W.ownsRow (w.heap.size + 2) 3 1 qv ts.length (intC ql) ∧ w.heap.size + 2 ≤ O ∧ (∀ k, qv.ownBlock = some k → k < O)
theorem RPutSt.kept {reload : Int} {vs : Value} {ts : List Task} {w : World} {O : Nat} {qv : Value} {ql : List Int} {vo : Value} {xs : List (Task × Value)} {W W' : World} (h : RPutSt reload vs ts w O qv ql vo xs W) (hb : Below W.heap.size W W') : RPutSt reload vs ts w O qv ql vo xs W' := by
  obtain ⟨h1, h2, h3, h4, h5, h6, h7⟩ := h
  exact ⟨h1.kept hb, h2.kept hb, h3.kept hb, h4.kept hb, own_kept h5 hb, h6, h7⟩
def raisePutF (reload : Int) (ts : List Task) : Option (List Task) := (tolAllF reload ts).map fun bear => (List.range ts.length).map (pTask reload ts bear)
set_option maxRecDepth 100000 in
set_option maxHeartbeats 1000000 in
theorem raisePut_any (reload : Int) (vs : Value) (ts : List Task) (w : World) (hv : RdT w vs ts) (hcap : CapOk vs) (hG : Good reload ts) (hall : allB reload ts = true) (hn : ∀ t ∈ ts, t.name.size ≤ 140737488351232) (hT : SpaceTab w) :
    Calls Tryz.prog 9 #[.agg #[.int .i64 reload, vs]] w (PutPost reload (raisePutF reload ts) w) := by
  have HSO := Lib.hid (fun W (h : Below w.heap.size w W) => raiseOf_any reload vs ts W (hv.kept CTask.mono h) hcap hG hall hn (hT.below h))
  have HRG := Lib.hid hG.regs
  have hl := hG.n8
  have hl1 := hG.n1
  obtain ⟨A, c, rfl, hle, hat⟩ := hv.at
  have HAT := Lib.hid hat
  clear hv hcap hG hat hn hT hall
  cases ht : tolAllF reload ts with
  | none =>
    have HF : Hid (raisePutF reload ts = none) := Lib.hid (by unfold raisePutF; rw [ht]; rfl)
    have HP : Hid (∀ W e w', RPost (raiseF reload ts) W e w' → e = .returned (.tuple #[.slice none 0 0, .bool false]) ∧ Below W.heap.size W w') := Lib.hid (fun W e w' h => by unfold RPost raiseF at h; rw [ht] at h; exact h)
    clear ht
    go_enter Tryz.func9, Tryz.ntmps9
    go_upto_region 3 with (go_at_call 7; refine Calls.mono (HSO.out _ ?_) ?_; (exact (by repeat (first | exact Below.refl _ _ | refine Below.drew ?_ | refine Below.alloc ?_ (by simp <;> omega) _))); intro e w1 hpost; obtain ⟨rfl, hb1⟩ := HP.out _ _ _ hpost; clear hpost)
    have B1 : Hid (Blk w1 (w.heap.size + 1) [.int .i64 0, .slice none 0 0] 24) := Lib.hid (Blk.kept (Blk.newAt (by simp)) hb1)
    have e0 := B1.out.cell 0 rfl
    have e1 := B1.out.cell 1 rfl
    have g0 := B1.out.free 0
    have g1 := B1.out.free 1
    go_wp2
    have B2 : Hid (Blk ((w1.setCell ⟨w.heap.size + 1, 0, none⟩ (.int .i64 0)).setCell ⟨w.heap.size + 1, 1, none⟩ (.slice none 0 0)) (w.heap.size + 1) [.int .i64 0, .slice none 0 0] 24) := Lib.hid ((B1.out.set 0 _).set 1 _)
    have r0 := B2.out.cell 0 rfl
    have r1 := B2.out.cell 1 rfl
    refine bodyPost_ret (v := .tuple #[.agg #[.int .i64 0, .slice none 0 0], .bool false]) (by simp [results, Tryz.results9, go_sem, r0, r1]) rfl ?_
    unfold PutPost
    rw [HF.out]
    exact ⟨rfl, below_setCell (below_setCell (below_tr (Below.alloc (Below.alloc (Below.refl _ _) (Nat.le_refl _) _) (by simp) _) hb1) (by simp) _) (by simp) _⟩
  | some bear =>
    have HF : Hid (raisePutF reload ts = some ((List.range ts.length).map (pTask reload ts bear))) := Lib.hid (by unfold raisePutF; rw [ht]; rfl)
    have HP : Hid (∀ W e w', RPost (raiseF reload ts) W e w' → ∃ v, e = .returned (.tuple #[v, .bool true]) ∧ w'.ownsRow W.heap.size 3 1 v ts.length (intC (pL reload ts bear ts.length)) ∧ Below W.heap.size W w') := Lib.hid (fun W e w' h => by unfold RPost raiseF at h; rw [ht] at h; simp only [Option.map_some, pL_len] at h; exact h)
    clear ht
    go_enter Tryz.func9, Tryz.ntmps9
    go_upto_region 5 with (go_at_call 7; refine Calls.mono (HSO.out _ ?_) ?_; (exact (by repeat (first | exact Below.refl _ _ | refine Below.drew ?_ | refine Below.alloc ?_ (by simp <;> omega) _))); intro e w1 hpost; obtain ⟨qv, rfl, hown, hb1⟩ := HP.out _ _ _ hpost; have HS : Hid (SetC reload (.slice A ts.length c) w w1) := Lib.hid (SetC.kept ⟨(Blk.newAt rfl).alloc _, (by repeat (first | exact Below.refl _ _ | refine Below.drew ?_ | refine Below.alloc ?_ (by simp <;> omega) _))⟩ hb1); have B1 : Hid (Blk w1 (w.heap.size + 1) [.int .i64 0, .slice none 0 0] 24) := Lib.hid (Blk.kept (Blk.newAt (by simp)) hb1); clear hpost hb1; have s0 := HS.out.1.cell 0 rfl; have s1 := HS.out.1.cell 1 rfl)
    have H3 : Hid (RPutSt reload (.slice A ts.length c) ts w w1.heap.size qv (pL reload ts bear ts.length) (.slice none 0 0) [] (w1.alloc (Obj.cells #[.int .i64 reload, .slice none 0 0] 24))) := Lib.hid (by
      have hb := (Below.refl w1.heap.size w1).alloc (Nat.le_refl _) (Obj.cells #[.int .i64 reload, .slice none 0 0] 24)
      refine ⟨HS.out.kept hb, B1.out.kept hb, Blk.newAt rfl, OwnT.nil _ _, ?_, by have := B1.out.lt; omega, fun k hk => own_lt hown k hk⟩
      exact own_kept (own_weak hown (by simp)) hb)
    generalize w1.alloc _ = W3 at *
    generalize w1.heap.size = O at *
    have s1 := H3.out.1.1.cell 1 rfl
    clear HS B1 s0
    have hbl := own_len hown
    obtain ⟨Ab, cb, rfl⟩ := own_slice hown
    clear hown
    go_wp2_with fail
    go_loopw [23] (fun i W => ∃ (k : Nat) (vo : Value) (xs : List (Task × Value)), k ≤ ts.length ∧ i = .int .i64 k ∧ xs.map Prod.fst = (List.range k).map (pTask reload ts bear) ∧ Hid (RPutSt reload (.slice A ts.length c) ts w O (.slice Ab ts.length cb) (pL reload ts bear ts.length) vo xs W)) (fun i _ => ts.length - (intOf i).toNat)
    case atStart => exact ⟨0, .slice none 0 0, [], Nat.zero_le _, rfl, rfl, H3⟩
    case round =>
      obtain ⟨k, vo, xs, hk, rfl, hxs, HST⟩ := hrel
      clear H3 s1
      have HXS := Lib.hid hxs
      clear hxs
      by_cases hlt : k < ts.length
      · obtain ⟨b, o, vr, rfl, hr, hcell⟩ := HAT.out k hlt
        have HRT := Lib.hid hr
        obtain ⟨Ar, cr, rfl, -⟩ := id hr
        have hcell2 := fun j u hu => cell_kept HST.out.1.2 (hcell j u hu)
        obtain ⟨c0, c1, c2, c3, c4, c5, c6, c7, c8⟩ := task_cells hcell2
        obtain ⟨g, c', hgv, hgb, hgc, hcells⟩ := own_cells HST.out.2.2.2.2.1 (by omega)
        cases hgv
        have q0 := hcells k (.int .i64 (pI reload ts bear k)) (by unfold intC pL; simp [hlt])
        clear hcell hcell2 hr hcells
        go_upto_region 8 with (fail)
        have HB4 : Hid (Below wr.heap.size wr (wr.alloc (Obj.cells #[.string (gT ts k).name, .int .i64 (gT ts k).T, .int .i64 (gT ts k).D, .int .i64 (gT ts k).mode, .int .i64 (gT ts k).Q, .int .i64 (gT ts k).theta, .slice Ar (gT ts k).regs.length cr, .int .u64 (gT ts k).ecb, .int .u64 (gT ts k).ucb] 41))) := Lib.hid ((Below.refl _ _).alloc (Nat.le_refl _) _)
        have HX4 : Hid (Blk (wr.alloc (Obj.cells #[.string (gT ts k).name, .int .i64 (gT ts k).T, .int .i64 (gT ts k).D, .int .i64 (gT ts k).mode, .int .i64 (gT ts k).Q, .int .i64 (gT ts k).theta, .slice Ar (gT ts k).regs.length cr, .int .u64 (gT ts k).ecb, .int .u64 (gT ts k).ucb] 41)) wr.heap.size ((gT ts k).cells (.slice Ar (gT ts k).regs.length cr)) 41) := Lib.hid (Blk.newAt rfl)
        have HO : Hid (O < wr.heap.size) := Lib.hid HST.out.2.2.1.lt
        have hgO : g < O := HST.out.2.2.2.2.2.2 g rfl
        have q1 := cell_kept HB4.out q0
        have hne : ¬ wr.heap.size = g := by have := HO.out; omega
        generalize wr.alloc _ = W4 at *
        have f3 := HX4.out.cell 3 rfl
        have f4 := HX4.out.cell 4 rfl
        have f5 := HX4.out.cell 5 rfl
        have g3 := HX4.out.free 3
        have g4 := HX4.out.free 4
        have g5 := HX4.out.free 5
        clear c0 c1 c2 c3 c4 c5 c6 c7 c8 q0
        go_region_held3 (fun W => W.cell? ⟨g, k, none⟩ = some (.int .i64 (pI reload ts bear k))) (go_keep) (fail)
        have HX5 : Hid (Blk ((((W4.setCell ⟨wr.heap.size, 3, none⟩ (.int .i64 2)).setCell ⟨wr.heap.size, 4, none⟩ (.int .i64 0)).setCell ⟨wr.heap.size, 5, none⟩ (.int .i64 (pI reload ts bear k))).drew) wr.heap.size ((pTask reload ts bear k).cells (.slice Ar (gT ts k).regs.length cr)) 41) := Lib.hid (((HX4.out.set 3 _).set 4 _).set 5 _).drew
        have HB5 : Hid (Below wr.heap.size wr ((((W4.setCell ⟨wr.heap.size, 3, none⟩ (.int .i64 2)).setCell ⟨wr.heap.size, 4, none⟩ (.int .i64 0)).setCell ⟨wr.heap.size, 5, none⟩ (.int .i64 (pI reload ts bear k))).drew)) := Lib.hid (below_drew (below_setCell (below_setCell (below_setCell HB4.out (Nat.le_refl _) _) (Nat.le_refl _) _) (Nat.le_refl _) _))
        clear f3 f4 f5 g3 g4 g5 q1 hne HX4 HB4
        generalize World.drew _ = W5 at *
        have f6 := HX5.out.cell 6 rfl
        have HRG5 : Hid (RdI W5 (.slice Ar (gT ts k).regs.length cr) (gT ts k).regs) := Lib.hid (HRT.out.kept CInt.mono (below_tr HST.out.1.2 HB5.out))
        have HRL := (regsB_iff _).1 (HRG.out k hlt)
        go_wp2_with fail
        go_upto_region 10 with (go_at_call 22; refine (clone_any _ _ _ _ _ HRG5.out (by omega) (by omega)).mono ?_; rintro e w6 ⟨vn, rfl, hown6, hb6⟩; have HX6 := Lib.hid (HX5.out.kept hb6); have HB6 := Lib.hid (below_tr HB5.out hb6); have e6 := HX6.out.cell 6 rfl; have g6 := HX6.out.free 6; obtain ⟨An, cn, rfl⟩ := own_slice hown6; have HN6 := Lib.hid hown6; clear hown6 hb6)
        have HX7 : Hid (Blk (w6.setCell ⟨wr.heap.size, 6, none⟩ (.slice An (gT ts k).regs.length cn)) wr.heap.size ((pTask reload ts bear k).cells (.slice An (gT ts k).regs.length cn)) 41) := Lib.hid (HX6.out.set 6 _)
        have HB7 : Hid (Below wr.heap.size wr (w6.setCell ⟨wr.heap.size, 6, none⟩ (.slice An (gT ts k).regs.length cn))) := Lib.hid (below_setCell HB6.out (Nat.le_refl _) _)
        have HN7 : Hid (Go.World.ownsRow (w6.setCell ⟨wr.heap.size, 6, none⟩ (.slice An (gT ts k).regs.length cn)) W5.heap.size 2 1 (.slice An (gT ts k).regs.length cn) (gT ts k).regs.length (intC (gT ts k).regs)) := Lib.hid (own_set HN6.out (fun he => by have e1 := own_base HN6.out _ he; have e2 := HX5.out.lt; simp at e1; omega) _)
        have HW5 : Hid (wr.heap.size < W5.heap.size) := Lib.hid HX5.out.lt
        generalize World.setCell _ _ _ = W7 at *
        clear f6 e6 g6 HX5 HB5 HX6 HB6 HN6 HRG5
        have HP7 := Lib.hid (HST.out.kept HB7.out)
        have o1 := HP7.out.2.2.1.cell 1 rfl
        have x0 := HX7.out.cell 0 rfl
        have x1 := HX7.out.cell 1 rfl
        have x2 := HX7.out.cell 2 rfl
        have x3 := HX7.out.cell 3 rfl
        have x4 := HX7.out.cell 4 rfl
        have x5 := HX7.out.cell 5 rfl
        have x6 := HX7.out.cell 6 rfl
        have x7 := HX7.out.cell 7 rfl
        have x8 := HX7.out.cell 8 rfl
        obtain ⟨z, hz, hinfo⟩ := task_info
        have HXL : Hid (xs.length = k) := Lib.hid (by have := congrArg List.length HXS.out; simpa using this)
        go_wp2_with (at_builtin; refine append_one (w0 := w) (O + 1) rfl (.tmp 40) (.tmp 42) 22 41 z 9 96 rfl Tryz.underlying22 hinfo hz (by decide) (by decide) vo xs.length (tasksC xs) ((pTask reload ts bear k).cells (.slice An (gT ts k).regs.length cn)) rfl rfl rfl (by simp [Value.oneCell', Task.cells]) HP7.out.2.2.2.1.row HP7.out.1.2 (by have := HP7.out.2.2.2.2.2.1; omega) HP7.out.2.2.1.lt (by rw [HXL.out]; omega) ?_; intro v1 w8 hown8 hB8 hg hat; have HO8 := Lib.hid (HP7.out.2.2.1.grown hg (fun he => by have hc := own_base HP7.out.2.2.2.1.row _ he.symm; omega)); have o2 := HO8.out.cell 1 rfl; have og := HO8.out.free 1; obtain ⟨A8, c8, rfl⟩ := own_slice hown8; have HH8 := Lib.hid (And.intro hown8 (And.intro hB8 (And.intro hg hat))); clear hown8 hB8 hg hat)
        have HG : Hid (RPutSt reload (.slice (some ⟨b, o, none⟩) ts.length c) ts w O (.slice (some ⟨g, 0, none⟩) ts.length cb) (pL reload ts bear ts.length) (.slice A8 (xs.length + 1) c8) (xs ++ [(pTask reload ts bear k, .slice An (gT ts k).regs.length cn)]) (w8.setCell ⟨O, 1, none⟩ (.slice A8 (xs.length + 1) c8))) := Lib.hid (by
          obtain ⟨hown8, hB8, hg, hat⟩ := HH8.out
          obtain ⟨h1, h2, h3, h4, h5, h6, h7⟩ := HP7.out
          have hO := HO.out
          have h5w := HW5.out
          have hvo : ∀ q, vo.ownBlock = some q → q < wr.heap.size := fun q hq => own_lt HST.out.2.2.2.1.row q hq
          have hpush := OwnT.push h4 (t := pTask reload ts bear k) (own_weak HN7.out (by omega)) (.inr fun he => by
            have e1 := own_base HN7.out
            cases An with
            | none => 
              have e2 := HN7.out.2
              rcases e2 with ⟨e3, e4⟩ | ⟨_, _, _, e3, _⟩
              · omega
              · cases e3
            | some a =>
              have e2 := e1 a.block rfl
              have e3 := hvo a.block he.symm
              omega) hown8 hg hat
          refine ⟨⟨((h1.1.grown hg (fun he => ?_)).far (by simp; omega) _), below_setCell hB8 (by simp; omega) _⟩, (h2.grown hg (fun he => ?_)).far (by simp; omega) _, HO8.out.set 1 _, hpush.setFar (by simp) _, own_set (h5.kept hg (.inr fun he => ?_)) (fun he => ?_) _, h6, h7⟩
          · have hc := own_base h4.row _ he.symm; omega
          · have hc := own_base h4.row _ he.symm; omega
          · have hc := own_base h4.row g he.symm
            omega
          · have := h7 _ he
            simp at this)
        have HXS2 : Hid ((xs ++ [(pTask reload ts bear k, Value.slice An (gT ts k).regs.length cn)]).map Prod.fst = (List.range (k + 1)).map (pTask reload ts bear)) := Lib.hid (by rw [List.map_append, HXS.out, List.range_succ, List.map_append]; rfl)
        go_roundw
        case rel => exact ⟨k + 1, _, _, hlt, by go_num, HXS2.out, HG⟩
        case measure => simp [intOf]; omega
      · obtain rfl : k = ts.length := by omega
        have z0 := HST.out.2.2.1.cell 0 rfl
        have z1 := HST.out.2.2.1.cell 1 rfl
        have y0 := HST.out.2.1.cell 0 rfl
        have y1 := HST.out.2.1.cell 1 rfl
        have yf0 := HST.out.2.1.free 0
        have yf1 := HST.out.2.1.free 1
        obtain ⟨Av, cv, rfl⟩ := own_slice HST.out.2.2.2.1.row
        go_wp2
        have HY : Hid (Blk ((wr.setCell ⟨w.heap.size + 1, 0, none⟩ (.int .i64 reload)).setCell ⟨w.heap.size + 1, 1, none⟩ (.slice Av xs.length cv)) (w.heap.size + 1) [.int .i64 reload, .slice Av xs.length cv] 24) := Lib.hid ((HST.out.2.1.set 0 _).set 1 _)
        have r0 := HY.out.cell 0 rfl
        have r1 := HY.out.cell 1 rfl
        refine bodyPost_ret (v := .tuple #[.agg #[.int .i64 reload, .slice Av xs.length cv], .bool true]) (by simp [results, Tryz.results9, go_sem, r0, r1]) rfl ?_
        unfold PutPost
        rw [HF.out]
        refine ⟨_, xs, rfl, HXS.out, ?_, below_setCell (below_setCell HST.out.1.2 (by simp) _) (by simp) _⟩
        have h6 := HST.out.2.2.2.2.2.1
        have hh := (HST.out.2.2.2.1.setFar (p := ⟨w.heap.size + 1, 0, none⟩) (by simp; omega) (.int .i64 reload)).setFar (p := ⟨w.heap.size + 1, 1, none⟩) (by simp; omega) (.slice Av xs.length cv)
        exact ⟨own_weak hh.row (by omega), fun x hx => ⟨own_weak (hh.regs x hx).1 (by omega), (hh.regs x hx).2⟩⟩
end Go.Proofs.YtopmnpkjhaabcaaGreatDoor
