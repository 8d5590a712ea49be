/- task.All walked. -/
import Derived.Test.YtopmnpkjhaabcaaGreatDoori
import Derived.Maps.Own
import Derived.Maps.OwnOps
import Derived.Maps.Views
import Derived.Carry
set_option linter.unusedVariables false
set_option linter.unusedSimpArgs false
namespace Go.Proofs.YtopmnpkjhaabcaaGreatDoor
open Go.RowKit Go.WideMaps Go.Maps

theorem map_law : Keyed Tryz.prog 9 := string_keyed Tryz.underlying9
theorem map_zero (w : World) : (zeroValue 4).run Tryz.prog w = .ok (.bool false) w := by kernel_rfl
abbrev DU := DataW Unit
def memS (seen : List ByteArray) (s : ByteArray) : Bool := seen.any fun y => decide (y = s)
/-- A set of names, as a map reads. -/
def SeenAt (D : DU) (seen : List ByteArray) : Prop := IsMap D ∧ ∀ s : ByteArray, D.atKey (.string s.data.toList) (.lit (.bool false)) = .lit (.bool (memS seen s))
theorem seen_nil : SeenAt (.map []) [] := ⟨isMap_empty, fun s => rfl⟩
theorem seen_put {D : DU} {seen : List ByteArray} (h : SeenAt D seen) (x : ByteArray) : SeenAt (D.put (.string x.data.toList) (.lit (.bool true))) (x :: seen) := by
  refine ⟨h.1.put _ _, fun s => ?_⟩
  by_cases hs : s = x
  · subst hs
    rw [atKey_put_same h.1 (show WideAt.IsKeyLit (Lit.string _) from trivial)]
    simp [memS]
  · have hne : (Lit.string s.data.toList) ≠ (Lit.string x.data.toList) := by
      intro he
      injection he with he
      have : s.data = x.data := Array.toList_inj.1 he
      apply hs
      cases s; cases x
      simpa using this
    rw [atKey_put_other hne, h.2 s]
    have hs' : ¬ x = s := fun e => hs e.symm
    simp [memS, hs']
/-- Are these tasks such as may be, from priority k on, none of a name that was seen? -/
def allT : List Task → Nat → List ByteArray → Bool
  | [], _, _ => true
  | t :: ts, k, seen => isB t k && (!(memS seen t.name) && allT ts (k + 1) (t.name :: seen))
def allB (reload : Int) (ts : List Task) : Bool := timeB reload 0 && (decide (1 ≤ ts.length) && (decide (ts.length ≤ 8) && allT ts 0 []))
def seenTo (ts : List Task) (k : Nat) : List ByteArray := ((ts.take k).map Task.name).reverse
def noTask : Task := ⟨emptyS, 0, 0, 0, 0, 0, [], 0, 0⟩
def gT (ts : List Task) (k : Nat) : Task := ts.getD k noTask
theorem gT_at {l : List Task} {k : Nat} (h : k < l.length) : gT l k = l[k] := by unfold gT; rw [List.getD_eq_getElem?_getD, List.getElem?_eq_getElem h]; rfl
theorem seenTo_succ {ts : List Task} {k : Nat} (h : k < ts.length) : seenTo ts (k + 1) = (gT ts k).name :: seenTo ts k := by
  unfold seenTo
  rw [List.take_succ_eq_append_getElem h, gT_at h, List.map_append, List.reverse_append]
  simp
theorem allT_drop {ts : List Task} {k : Nat} (h : k < ts.length) (seen : List ByteArray) : allT (ts.drop k) k seen = (isB (gT ts k) k && (!(memS seen (gT ts k).name) && allT (ts.drop (k + 1)) (k + 1) ((gT ts k).name :: seen))) := by
  rw [List.drop_eq_getElem_cons h, allT, gT_at h]
theorem task_cells {W : World} {b p : Nat} {t : Task} {vr : Value} (h : ∀ k u, (t.cells vr)[k]? = some u → W.cell? ⟨b, p + k, none⟩ = some u) :
    W.cell? ⟨b, p, none⟩ = some (.string t.name) ∧ W.cell? ⟨b, p + 1, none⟩ = some (.int .i64 t.T) ∧ W.cell? ⟨b, p + 2, none⟩ = some (.int .i64 t.D) ∧ W.cell? ⟨b, p + 3, none⟩ = some (.int .i64 t.mode) ∧ W.cell? ⟨b, p + 4, none⟩ = some (.int .i64 t.Q) ∧ W.cell? ⟨b, p + 5, none⟩ = some (.int .i64 t.theta) ∧ W.cell? ⟨b, p + 6, none⟩ = some vr ∧ W.cell? ⟨b, p + 7, none⟩ = some (.int .u64 t.ecb) ∧ W.cell? ⟨b, p + 8, none⟩ = some (.int .u64 t.ucb) :=
  ⟨h 0 _ rfl, h 1 _ rfl, h 2 _ rfl, h 3 _ rfl, h 4 _ rfl, h 5 _ rfl, h 6 _ rfl, h 7 _ rfl, h 8 _ rfl⟩
theorem RdT.at {W : World} {v : Value} {l : List Task} (h : RdT W v l) : ∃ A c, v = .slice A l.length c ∧ l.length ≤ 140737488351232 ∧ ∀ j, j < l.length → ∃ b o vr, A = some ⟨b, o, none⟩ ∧ RdI W vr (gT l j).regs ∧ ∀ k u, ((gT l j).cells vr)[k]? = some u → W.cell? ⟨b, o + j * 9 + k, none⟩ = some u := by
  obtain ⟨A, c, hv, hl, h⟩ := h
  refine ⟨A, c, hv, hl, fun j hj => ?_⟩
  obtain ⟨b, o, cs, hA, ⟨vr, hc, hr⟩, hcell⟩ := h j l[j] (List.getElem?_eq_getElem hj)
  subst hc
  exact ⟨b, o, vr, hA, by rw [gT_at hj]; exact hr, by rw [gT_at hj]; exact hcell⟩

/-- What holds at the head of task.All's loop. -/
def AllSt (ts : List Task) (w : World) (k : Nat) (W : World) : Prop :=
  (∃ D : DU, W.ownsMap Tryz.prog 9 (plainElem Tryz.prog 4) (w.heap.size + 1) k D ∧ SeenAt D (seenTo ts k)) ∧ Below w.heap.size w W ∧ allT ts 0 [] = allT (ts.drop k) k (seenTo ts k)
theorem AllSt.kept {ts : List Task} {w W W1 : World} {k : Nat} (h : AllSt ts w k W) (hb : Below W.heap.size W W1) : AllSt ts w k W1 := by
  obtain ⟨⟨D, h1, h2⟩, h3, h4⟩ := h
  exact ⟨⟨D, h1.kept (row := none) ⟨hb.os, hb.tape, hb.output, hb.size, fun i hi _ => hb.block i hi⟩ (by simp), h2⟩, below_tr h3 hb, h4⟩
set_option maxRecDepth 100000 in
theorem AllSt.look {ts : List Task} {w W : World} {k : Nat} (h : AllSt ts w k W) (s : ByteArray) (hs : s.size ≤ maxLen) :
    (Instr.lookup 60 (.map (some (w.heap.size + 1))) (.string s) false).run Tryz.prog W = .ok (.bool (memS (seenTo ts k) s)) W := by
  obtain ⟨⟨D, h1, h2⟩, h3, h4⟩ := h
  obtain ⟨v, ps, hr, hv⟩ := h1.lookup map_law Tryz.underlying60 (map_zero W) (plainElem_bool Tryz.underlying4 false) (keyOf_string_mk Tryz.underlying9 hs)
  rw [h2.2 s] at hv
  rw [hr]
  unfold plainElem at hv
  rw [Tryz.underlying4] at hv
  cases v <;> simp at hv
  rename_i x
  rw [hv.1]

set_option maxRecDepth 100000 in
set_option maxHeartbeats 1000000 in
theorem all_any (reload : Int) (vs : Value) (ts : List Task) (w : World) (hv : RdT w vs ts) (hn : ∀ t ∈ ts, t.name.size ≤ 140737488351232) (hT : SpaceTab w) :
    Calls Tryz.prog 27 #[.agg #[.int .i64 reload, vs]] w fun e w' => e = .returned (.bool (allB reload ts)) ∧ Below w.heap.size w w' := by
  obtain ⟨A, c, rfl, hle, hat⟩ := hv.at
  have HAT := Lib.hid hat
  have HN := Lib.hid hn
  clear hat hv hn
  have hmm := @run_makeMap Tryz.prog
  cases h1 : timeB reload 0
  · have HM := Lib.hid h1
    have HF : Hid (allB reload ts = false) := Lib.hid (by simp [allB, h1])
    clear h1
    go_enter Tryz.func27, Tryz.ntmps27
    go_wp2_with (go_at_call 38; refine (isTime_any _ _ _).mono ?_; rintro e w' ⟨rfl, rfl⟩; rw [HM.out])
    go_ret
    exact ⟨ret_bool (by rw [HF.out]), (Below.refl _ _).alloc (Nat.le_refl _) _⟩
  · have HM := Lib.hid h1
    by_cases h2 : 1 ≤ ts.length
    · by_cases h3 : ts.length ≤ 8
      · have HR : Hid (allB reload ts = allT ts 0 []) := Lib.hid (by simp [allB, h1, h2, h3])
        clear h1
        go_enter Tryz.func27, Tryz.ntmps27
        go_wp2_with (go_at_call 38; refine (isTime_any _ _ _).mono ?_; rintro e w' ⟨rfl, rfl⟩; rw [HM.out])
        go_loopw [26] (fun i W => ∃ k : Nat, k ≤ ts.length ∧ i = .int .i64 k ∧ Hid (AllSt ts w k W)) (fun i _ => ts.length - (intOf i).toNat)
        case atStart => exact ⟨0, Nat.zero_le _, rfl, Lib.hid ⟨⟨.map [], by have := World.ownsMap_made (H := Unit) (w.alloc (Obj.cells #[Value.int IntKind.i64 reload, Value.slice A ts.length c] 24)) Tryz.prog 9 (plainElem Tryz.prog 4); simpa using this, seen_nil⟩, by repeat (first | exact Below.refl _ _ | refine Below.alloc ?_ (by simp <;> omega) _), rfl⟩⟩
        case round =>
          obtain ⟨k, hk, rfl, hst⟩ := hrel
          by_cases hlt : k < ts.length
          · obtain ⟨b, o, vr, rfl, hr, hcell⟩ := HAT.out k hlt
            have HT := Lib.hid (hT.below hst.out.2.1)
            obtain ⟨Ar, cr, rfl, -⟩ := id hr
            have hcell2 := fun j u hu => cell_kept hst.out.2.1 (hcell j u hu)
            obtain ⟨c0, c1, c2, c3, c4, c5, c6, c7, c8⟩ := task_cells hcell2
            have HC := Lib.hid (hr.kept CInt.mono hst.out.2.1)
            clear hcell hcell2 hr
            have HMEM : Hid (gT ts k ∈ ts) := Lib.hid (by rw [gT_at hlt]; exact List.getElem_mem hlt)
            have HSZ : Hid ((gT ts k).name.size ≤ maxLen) := Lib.hid (by have := HN.out _ HMEM.out; unfold maxLen; omega)
            have HD := Lib.hid (allT_drop hlt (seenTo ts k))
            cases hi : isB (gT ts k) k
            · have HI := Lib.hid hi
              have HS := Lib.hid (show memS (seenTo ts k) (gT ts k).name = memS (seenTo ts k) (gT ts k).name from rfl)
              have HF : Hid (allB reload ts = false) := Lib.hid (by rw [HR.out, hst.out.2.2, HD.out, hi]; rfl)
              clear hi
              go_wp2_with (go_at_call 39; refine (is_any (gT ts k) _ _ _ (HC.out.kept CInt.mono ((Below.refl _ _).alloc (Nat.le_refl _) _)) (HN.out _ HMEM.out) (HT.out.below ((Below.refl _ _).alloc (Nat.le_refl _) _))).mono ?_; rintro e w1 ⟨rfl, hb1⟩; rw [HI.out]; have HA := Lib.hid ((hst.out.kept ((Below.refl _ _).alloc (Nat.le_refl _) _)).kept hb1); have hbx := (Blk.newAt (W := wr) (cs := (gT ts k).cells (.slice Ar (gT ts k).regs.length cr)) (t := 41) rfl).kept hb1; have d0 := hbx.cell 0 rfl; clear hbx hst hb1; have hlook := HA.out.look (gT ts k).name HSZ.out; rw [HS.out] at hlook)
              go_ret
              exact ⟨ret_bool (by rw [HF.out]), HA.out.2.1⟩
            · have HI := Lib.hid hi
              cases hs : memS (seenTo ts k) (gT ts k).name
              · have HS := Lib.hid hs
                have HX : Hid (allT ts 0 [] = allT (ts.drop (k + 1)) (k + 1) (seenTo ts (k + 1))) := Lib.hid (by rw [hst.out.2.2, HD.out, hi, hs, seenTo_succ hlt]; rfl)
                clear hi hs
                go_wp2_with (first | (go_at_call 39; refine (is_any (gT ts k) _ _ _ (HC.out.kept CInt.mono ((Below.refl _ _).alloc (Nat.le_refl _) _)) (HN.out _ HMEM.out) (HT.out.below ((Below.refl _ _).alloc (Nat.le_refl _) _))).mono ?_; rintro e w1 ⟨rfl, hb1⟩; rw [HI.out]; have HA := Lib.hid ((hst.out.kept ((Below.refl _ _).alloc (Nat.le_refl _) _)).kept hb1); have hbx := (Blk.newAt (W := wr) (cs := (gT ts k).cells (.slice Ar (gT ts k).regs.length cr)) (t := 41) rfl).kept hb1; have d0 := hbx.cell 0 rfl; clear hbx hst hb1; have hlook := HA.out.look (gT ts k).name HSZ.out; rw [HS.out] at hlook) | (at_mapUpdate; obtain ⟨⟨D, g1, g2⟩, g3, g4⟩ := HA.out; refine wpList_mapUpdate_own _ rfl _ _ _ 60 rfl 9 4 map_law Tryz.underlying60 (plainElem (H := Unit) Tryz.prog 4) (w.heap.size + 1) k D rfl g1 ?_ (.string (gT ts k).name) (.bool true) (.string (gT ts k).name.data.toList) rfl rfl (keyOf_string_mk Tryz.underlying9 HSZ.out) (.lit (.bool true)) [] (plainElem_bool Tryz.underlying4 true) ?_; (unfold maxLen; omega); intro w2 hown2 hgrow2; have HG : Hid (AllSt ts w (k + 1) w2) := Lib.hid ⟨⟨_, hown2, by rw [seenTo_succ hlt]; exact seen_put g2 _⟩, g3.grown hgrow2 (by have := g1.lt; omega) (fun j hj => by cases hj; omega), HX.out⟩; clear g1 g2 g3 g4 hown2 hgrow2))
                go_roundw
                case rel => exact ⟨k + 1, hlt, by go_num, HG⟩
                case measure => simp [intOf]; omega
              · have HS := Lib.hid hs
                have HF : Hid (allB reload ts = false) := Lib.hid (by rw [HR.out, hst.out.2.2, HD.out, hi, hs]; rfl)
                clear hi hs
                go_wp2_with (go_at_call 39; refine (is_any (gT ts k) _ _ _ (HC.out.kept CInt.mono ((Below.refl _ _).alloc (Nat.le_refl _) _)) (HN.out _ HMEM.out) (HT.out.below ((Below.refl _ _).alloc (Nat.le_refl _) _))).mono ?_; rintro e w1 ⟨rfl, hb1⟩; rw [HI.out]; have HA := Lib.hid ((hst.out.kept ((Below.refl _ _).alloc (Nat.le_refl _) _)).kept hb1); have hbx := (Blk.newAt (W := wr) (cs := (gT ts k).cells (.slice Ar (gT ts k).regs.length cr)) (t := 41) rfl).kept hb1; have d0 := hbx.cell 0 rfl; clear hbx hst hb1; have hlook := HA.out.look (gT ts k).name HSZ.out; rw [HS.out] at hlook)
                go_ret
                exact ⟨ret_bool (by rw [HF.out]), HA.out.2.1⟩
          · obtain rfl : k = ts.length := by omega
            have HF : Hid (allB reload ts = true) := Lib.hid (by rw [HR.out, hst.out.2.2, List.drop_length]; rfl)
            go_wp2
            go_ret
            exact ⟨ret_bool (by rw [HF.out]), hst.out.2.1⟩
      · have HF : Hid (allB reload ts = false) := Lib.hid (by simp [allB, h3])
        clear h1
        go_enter Tryz.func27, Tryz.ntmps27
        go_wp2_with (go_at_call 38; refine (isTime_any _ _ _).mono ?_; rintro e w' ⟨rfl, rfl⟩; rw [HM.out])
        go_ret
        exact ⟨ret_bool (by rw [HF.out]), (Below.refl _ _).alloc (Nat.le_refl _) _⟩
    · have HF : Hid (allB reload ts = false) := Lib.hid (by simp [allB, h2])
      clear h1
      go_enter Tryz.func27, Tryz.ntmps27
      go_wp2_with (go_at_call 38; refine (isTime_any _ _ _).mono ?_; rintro e w' ⟨rfl, rfl⟩; rw [HM.out])
      go_ret
      exact ⟨ret_bool (by rw [HF.out]), (Below.refl _ _).alloc (Nat.le_refl _) _⟩
end Go.Proofs.YtopmnpkjhaabcaaGreatDoor
