/- slices.Min, spread.Of walked. -/
import Derived.Test.YtopmnpkjhaabcaaDoorv
import Derived.Laws.OwnMore
set_option linter.unusedVariables false
set_option linter.unusedSimpArgs false
namespace Go.Proofs.YtopmnpkjhaabcaaDoor
open Go.RowKit

/-- The least of the first k. -/
def minTo (l : List Int) : Nat → Int
  | 0 => gI l 0
  | k + 1 => min (minTo l k) (gI l k)
theorem minTo_one (l : List Int) : minTo l 1 = gI l 0 := by simp [minTo]
theorem min_any (b o n c : Nat) (l : List Int) (w : World) (h1 : 1 ≤ n) (h2 : n ≤ 140737488351232) (hc : ∀ j, j < n → w.cell? ⟨b, o + j, none⟩ = some (.int .i64 (gI l j))) :
    Calls Tryd.prog 23 #[.slice (some ⟨b, o, none⟩) n c] w fun e w' => e = .returned (.int .i64 (minTo l n)) ∧ w' = w := by
  have HC := Lib.hid hc
  have c0 := hc 0 (by omega)
  rw [Nat.add_zero] at c0
  clear hc
  go_enter Tryd.func23, Tryd.ntmps23
  go_wp2
  go_loop [3, 4] (fun m i => ∃ k : Nat, 1 ≤ k ∧ k ≤ n ∧ i = .int .i64 k ∧ m = .int .i64 (minTo l k)) (fun _ i => n - (intOf i).toNat)
  case atStart => exact ⟨1, Nat.le_refl _, h1, rfl, by rw [minTo_one]⟩
  case round =>
    obtain ⟨k, hk1, hk, rfl, rfl⟩ := hrel
    by_cases hlt : k < n
    · have hk := HC.out k hlt
      have HS : Hid (minTo l (k + 1) = min (minTo l k) (gI l k)) := Lib.hid rfl
      go_wp2
      go_round
      case rel => exact ⟨k + 1, by omega, hlt, by go_num, by rw [HS.out]⟩
      case measure => simp [intOf]; omega
    · obtain rfl : k = n := by omega
      go_wp2
      go_ret
      exact ⟨rfl, rfl⟩
/-- The longest Q of the first k tasks. -/
def qI (ts : List Task) (bear : List Int) (i : Nat) : Int := if i = 0 then workI ts 0 else minTo bear i
def qL (ts : List Task) (bear : List Int) (k : Nat) : List Int := (List.range k).map (qI ts bear)
theorem qL_succ (ts : List Task) (bear : List Int) (k : Nat) : qL ts bear (k + 1) = qL ts bear k ++ [qI ts bear k] := by simp [qL, List.range_succ]
theorem qL_len (ts : List Task) (bear : List Int) (k : Nat) : (qL ts bear k).length = k := by simp [qL]
def spreadF (reload : Int) (ts : List Task) : Option (List Int) := (tolAllF reload ts).map fun bear => qL ts bear ts.length
def QPost (r : Option (List Int)) (w : World) (e : Ending) (w' : World) : Prop :=
  match r with
  | none => e = .returned (.tuple #[.slice none 0 0, .bool false]) ∧ Below w.heap.size w w'
  | some l => ∃ v, e = .returned (.tuple #[v, .bool true]) ∧ w'.ownsRow w.heap.size 2 1 v l.length (intC l) ∧ Below w.heap.size w w'
def QSt (reload : Int) (vs : Value) (ts : List Task) (w : World) (B : Nat) (bv : Value) (bear : List Int) (v : Value) (k : Nat) (W : World) : Prop :=
  SetC reload vs w W ∧ W.ownsRow B 2 1 v k (intC (qL ts bear k)) ∧ W.ownsRow (w.heap.size + 1) 2 1 bv ts.length (intC bear) ∧ w.heap.size + 1 ≤ B ∧ (∀ k, bv.ownBlock = some k → k < B)
set_option maxRecDepth 100000 in
set_option maxHeartbeats 1000000 in
theorem spreadOf_any (reload : Int) (vs : Value) (ts : List Task) (w : World) (hv : RdT w vs ts) (hcap : CapOk vs) (hG : Good reload ts) (hall : allB reload ts = true) (hn : ∀ t ∈ ts, t.name.size ≤ 140737488351232) (hT : SpaceTab w) :
    Calls Tryd.prog 14 #[.agg #[.int .i64 reload, vs]] w (QPost (spreadF reload ts) w) := by
  have HTO := Lib.hid (fun W (h : Below w.heap.size w W) => tolAll_any reload vs ts W (hv.kept CTask.mono h) hcap hG hall hn (hT.below h))
  have hl := hG.n8
  have hl1 := hG.n1
  have HSF : Hid (spreadF reload ts = (tolAllF reload ts).map fun bear => qL ts bear ts.length) := Lib.hid rfl
  obtain ⟨A, c, rfl, hle, hat⟩ := hv.at
  obtain ⟨b, o, vr, rfl, hr, hcell⟩ := hat 0 (by omega)
  have HWK := Lib.hid (fun W (h : Below w.heap.size w W) => work_any (gT ts 0) vr W (hr.kept CInt.mono h) (hG.regs 0 (by omega)))
  have HWI : Hid ((gT ts 0).regs.sum = workI ts 0) := Lib.hid rfl
  obtain ⟨c0, c1, c2, c3, c4, c5, c6, c7, c8⟩ := task_cells hcell
  rw [show o + 0 * 9 = o by omega] at c0 c1 c2 c3 c4 c5 c6 c7 c8
  obtain ⟨Ar, cr, rfl, -⟩ := id hr
  have HC : Hid (_ ∧ _ ∧ _ ∧ _ ∧ _ ∧ _ ∧ _ ∧ _ ∧ _) := Lib.hid ⟨c0, c1, c2, c3, c4, c5, c6, c7, c8⟩
  clear hv hcap hG hat hn hT hall hcell hr c0 c1 c2 c3 c4 c5 c6 c7 c8
  cases ht : tolAllF reload ts with
  | none =>
    have HF : Hid (spreadF reload ts = none) := Lib.hid (by rw [HSF.out, ht]; rfl)
    have HP : Hid (∀ W e w', TolPost reload ts W e w' → e = .returned (.tuple #[.slice none 0 0, .bool false]) ∧ Below W.heap.size W w') := Lib.hid (fun W e w' h => by unfold TolPost at h; rw [ht] at h; exact h)
    clear ht
    go_enter Tryd.func14, Tryd.ntmps14
    go_wp2_with (go_at_call 21; refine Calls.mono (HTO.out _ ?_) ?_; (exact (by repeat (first | exact Below.refl _ _ | refine Below.drew ?_ | refine Below.alloc ?_ (by simp <;> omega) _))); intro e w1 hpost; obtain ⟨rfl, hb1⟩ := HP.out _ _ _ hpost; clear hpost)
    go_ret2
    unfold QPost
    rw [HF.out]
    exact ⟨rfl, below_tr (Below.alloc (Below.refl _ _) (Nat.le_refl _) _) hb1⟩
  | some bear =>
    have HF : Hid (spreadF reload ts = some (qL ts bear ts.length)) := Lib.hid (by rw [HSF.out, ht]; rfl)
    have HBL : Hid (bear.length = ts.length) := Lib.hid (by unfold tolAllF at ht; split at ht; cases ht; exact bearL_len _ _ _; cases ht)
    have HP : Hid (∀ W e w', TolPost reload ts W e w' → ∃ v, e = .returned (.tuple #[v, .bool true]) ∧ w'.ownsRow W.heap.size 2 1 v bear.length (intC bear) ∧ Below W.heap.size W w') := Lib.hid (fun W e w' h => by unfold TolPost at h; rw [ht] at h; exact h)
    clear ht
    go_enter Tryd.func14, Tryd.ntmps14
    go_wp2_with (first
      | (go_at_call 21; refine Calls.mono (HTO.out _ ?_) ?_; (exact (by repeat (first | exact Below.refl _ _ | refine Below.drew ?_ | refine Below.alloc ?_ (by simp <;> omega) _))); intro e w1 hpost; obtain ⟨bv, rfl, hown, hb1⟩ := HP.out _ _ _ hpost; have HS : Hid (SetC reload (.slice (some ⟨b, o, none⟩) ts.length c) w w1) := Lib.hid (SetC.kept ⟨Blk.newAt rfl, (by repeat (first | exact Below.refl _ _ | refine Below.drew ?_ | refine Below.alloc ?_ (by simp <;> omega) _))⟩ hb1); clear hpost hb1; rw [HBL.out] at hown; have s1 := HS.out.1.cell 1 rfl; have d0 := cell_kept HS.out.2 HC.out.1; have d1 := cell_kept HS.out.2 HC.out.2.1; have d2 := cell_kept HS.out.2 HC.out.2.2.1; have d3 := cell_kept HS.out.2 HC.out.2.2.2.1; have d4 := cell_kept HS.out.2 HC.out.2.2.2.2.1; have d5 := cell_kept HS.out.2 HC.out.2.2.2.2.2.1; have d6 := cell_kept HS.out.2 HC.out.2.2.2.2.2.2.1; have d7 := cell_kept HS.out.2 HC.out.2.2.2.2.2.2.2.1; have d8 := cell_kept HS.out.2 HC.out.2.2.2.2.2.2.2.2)
      | (go_at_call 22; refine Calls.mono (HWK.out _ HS.out.2) ?_; rintro e w2 ⟨rfl, hb2⟩; rw [HWI.out]))
    have H3 : Hid (QSt reload (.slice (some ⟨b, o, none⟩) ts.length c) ts w w2.heap.size bv bear (.slice (some ⟨w2.heap.size, 0, none⟩) 1 1) 1 (w2.alloc (Obj.cells #[.int .i64 (workI ts 0)] 2))) := Lib.hid (by
      have hb := (Below.refl w2.heap.size w2).alloc (Nat.le_refl _) (Obj.cells #[.int .i64 (workI ts 0)] 2)
      refine ⟨(HS.out.kept hb2).kept hb, ?_, own_kept (own_kept (own_weak hown (by have := HS.out.1.lt; simp)) hb2) hb, by have := (HS.out.kept hb2).1.lt; omega, fun k hk => own_lt (own_kept hown hb2) k hk⟩
      exact World.ownsRow_lit w2 #[.int .i64 (workI ts 0)] 1 (Nat.le_refl _) (by unfold maxLen; omega) rfl)
    generalize w2.alloc _ = W3 at *
    generalize w2.heap.size = B at *
    clear hb2 HS s1 d0 d1 d2 d3 d4 d5 d6 d7 d8
    have hbl := own_len hown
    obtain ⟨Ab, cb, rfl⟩ := own_slice hown
    clear hown
    go_loopw [6, 7] (fun v i W => ∃ k : Nat, 1 ≤ k ∧ k ≤ ts.length ∧ i = .int .i64 k ∧ Hid (QSt reload (.slice (some ⟨b, o, none⟩) ts.length c) ts w B (.slice Ab ts.length cb) bear v k W)) (fun _ i _ => ts.length - (intOf i).toNat)
    case atStart => exact ⟨1, Nat.le_refl _, hl1, rfl, H3⟩
    case round =>
      obtain ⟨k, hk1, hk, rfl, HST⟩ := hrel
      clear H3
      by_cases hlt : k < ts.length
      · have HLS : Hid (qL ts bear (k + 1) = qL ts bear k ++ [minTo bear k]) := Lib.hid (by rw [qL_succ]; unfold qI; rw [if_neg (by omega)])
        obtain ⟨g, c', hgv, hgb, hgc, hcells⟩ := own_cells HST.out.2.2.1 (by omega)
        cases hgv
        have HMI := Lib.hid (min_any g 0 k cb bear wr hk1 (by omega) (fun j hj => by rw [Nat.zero_add]; exact hcells j _ (by unfold intC; rw [List.getElem?_map, List.getElem?_eq_getElem (by rw [HBL.out]; omega), gI_at (by rw [HBL.out]; omega)]; rfl)))
        clear hcells
        have HBS : Hid (B ≤ wr.heap.size) := Lib.hid (by obtain ⟨g2, c2, hg2, hg3, -⟩ := own_cells HST.out.2.1 (by omega); have := own_lt HST.out.2.1 g2 (by rw [hg2]; rfl); omega)
        generalize minTo bear k = m at *
        go_wp2_with (first
          | (go_at_call 23; refine HMI.out.mono ?_; rintro e w5 ⟨rfl, rfl⟩)
          | (at_builtin; refine append_one (w0 := w) B rfl (.tmp 27) (.tmp 32) 31 2 (.int .i64 0) 1 8 rfl Tryd.underlying31 i64_info rfl (by decide) (by decide) u6 k (intC (qL ts bear k)) [.int .i64 m] rfl rfl rfl (by simp [Value.oneCell']) HST.out.2.1 HST.out.1.2 (by have := HST.out.2.2.2.1; omega) HBS.out (by omega) ?_; intro v1 w6 hown hB hg hat))
        have HG : Hid (QSt reload (.slice (some ⟨b, o, none⟩) ts.length c) ts w B (.slice (some ⟨g, 0, none⟩) ts.length cb) bear v1 (k + 1) w6) := Lib.hid (by
          obtain ⟨h1, h2, h3, h4, h5⟩ := HST.out
          refine ⟨⟨h1.1.grown hg (fun he => by have hc := own_base h2 _ he.symm; omega), hB⟩, by rw [HLS.out, intC_snoc]; exact hown, h3.kept hg (.inr fun he => ?_), h4, h5⟩
          have e1 := own_base h2 g he.symm
          have e2 := h5 g rfl
          omega)
        go_roundw
        case rel => exact ⟨k + 1, by omega, hlt, by go_num, HG⟩
        case measure => simp [intOf]; omega
      · obtain rfl : k = ts.length := by omega
        go_wp2
        go_ret2
        unfold QPost
        rw [HF.out]
        exact ⟨u6, rfl, by rw [qL_len]; exact own_weak HST.out.2.1 (by have := HST.out.2.2.2.1; omega), HST.out.1.2⟩
end Go.Proofs.YtopmnpkjhaabcaaDoor
