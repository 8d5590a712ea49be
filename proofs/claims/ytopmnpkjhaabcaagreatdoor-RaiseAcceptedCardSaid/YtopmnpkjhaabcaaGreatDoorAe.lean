/- taskmasterref5.Put walked. -/
import Derived.Test.YtopmnpkjhaabcaaGreatDoorAd
import Derived.Laws.OwnMore
set_option linter.unusedVariables false
set_option linter.unusedSimpArgs false
namespace Go.Proofs.YtopmnpkjhaabcaaGreatDoor
open Go.RowKit

section
variable {P : Program} {ops : Array Oper} {rest : List Oper} {o : Oper} {a : Act} {Q : Exit → Act → World → Prop}
/-- 'append([]T{}, x...)', the elements of one cell. -/
theorem append_copy {W : World} (hgd : o.guard = none) (s x : Operand) (t e : TypeId) (z : Value) (bytes : Nat)
    (ho : o.op = .call { callee := .builtin .append, args := #[s, x], argTypes := #[t, t] })
    (ht : P.underlying t = some (.slice e)) (hinfo : (P.info? e).map (fun i => (i.zero, i.size, i.bytes)) = some (some z, 1, bytes)) (hz : z.cells.size = 1) (hb0 : bytes ≤ 1000)
    (b f n c : Nat) (xs : List Value) (hxs : xs.length = n) (hn : n ≤ 1000000) (hs : a.eval s = .slice (some ⟨W.heap.size, 0, none⟩) 0 0) (hx : a.eval x = .slice (some ⟨b, f, none⟩) n c) (hb : b < W.heap.size)
    (hnews : ∀ j u, xs[j]? = some u → W.cell? ⟨b, f + j, none⟩ = some u) (h1 : ∀ y ∈ xs, y.oneCell' = true)
    (h : ∀ v1 w1, w1.ownsRow W.heap.size e 1 v1 n xs → Below W.heap.size W w1 → wpList P ops Q rest (a.put o.dst v1) w1) :
    wpList P ops Q (o :: rest) a (W.alloc (.cells #[] e)) := by
  obtain ⟨i0, hi, hzz⟩ := Option.map_eq_some_iff.1 hinfo
  simp only [Prod.mk.injEq] at hzz
  obtain ⟨hz0, hz1, hz2⟩ := hzz
  have hbytes : n * bytes ≤ 1000000 * 1000 := Nat.mul_le_mul hn hb0
  refine wpList_append_own_at (W.alloc (.cells #[] e)) hgd s x t ho W.heap.size e i0 z 1 bytes ht hi hz0 hz1 hz2 hz (by decide) (.slice (some ⟨W.heap.size, 0, none⟩) 0 0) 0 [] hs
    (World.ownsRow_lit W #[] 0 (Nat.le_refl _) (by unfold maxLen; omega) rfl) ⟨b, f, none⟩ n c xs hx (by omega) ?_ h1 (by unfold maxLen; omega) (by rw [Nat.zero_add]; omega) (by simp) ?_
  · intro j u hu
    have hk := hnews j u hu
    rw [World.cell?_alloc_old _ _ _ (by have := Nat.ne_of_lt hb; unfold Addr.add; split <;> simp_all)]
    have ha : (⟨b, f, none⟩ : Addr).add j = ⟨b, f + j, none⟩ := by unfold Addr.add; split <;> simp_all
    rw [ha]; exact hk
  · intro v1 w1 hown hg _ _
    rw [Nat.zero_add, List.nil_append] at hown
    exact h v1 w1 hown (((Below.refl W.heap.size W).alloc (Nat.le_refl _) _).grown hg (by simp) (fun k hk => by simp [Value.ownBlock] at hk; omega))
end
/-- What holds at the head of the round of taskmasterref5.Put. -/
def CopySt (reload : Int) (vs : Value) (ts : List Task) (w : World) (vo : Value) (xs : List (Task × Value)) (W : World) : Prop :=
  SetC reload vs w W ∧ Blk W (w.heap.size + 1) [.int .i64 0, .slice none 0 0] 24 ∧ Blk W (w.heap.size + 2) [.int .i64 reload, vo] 24 ∧ OwnT W (w.heap.size + 3) vo xs
theorem CopySt.kept {reload : Int} {vs : Value} {ts : List Task} {w : World} {vo : Value} {xs : List (Task × Value)} {W W' : World} (h : CopySt reload vs ts w vo xs W) (hb : Below W.heap.size W W') : CopySt reload vs ts w vo xs W' :=
  ⟨h.1.kept hb, h.2.1.kept hb, h.2.2.1.kept hb, h.2.2.2.kept hb⟩
set_option maxRecDepth 100000 in
set_option maxHeartbeats 1000000 in
theorem rput_any (reload : Int) (vs : Value) (ts : List Task) (w : World) (hv : RdT w vs ts) (hl8 : ts.length ≤ 8) (hreg : ∀ k, k < ts.length → 1 ≤ (gT ts k).regs.length ∧ (gT ts k).regs.length ≤ 8) :
    Calls Tryz.prog 16 #[.agg #[.int .i64 reload, vs]] w fun e w' => ∃ v xs, e = .returned (.agg #[.int .i64 reload, v]) ∧ xs.map Prod.fst = ts ∧ OwnT w' (w.heap.size + 3) v xs ∧ Below w.heap.size w w' := by
  obtain ⟨A, c, rfl, hle, hat⟩ := hv.at
  have HAT := Lib.hid hat
  have HREG := Lib.hid hreg
  clear hat hv hreg
  go_enter Tryz.func16, Tryz.ntmps16
  go_wp2_with fail
  go_loopw [4] (fun i W => ∃ (k : Nat) (vo : Value) (xs : List (Task × Value)), k ≤ ts.length ∧ i = .int .i64 k ∧ Hid (xs.map Prod.fst = ts.take k) ∧ Hid (CopySt reload (.slice A ts.length c) ts w vo xs W)) (fun i _ => ts.length - (intOf i).toNat)
  case atStart => exact ⟨0, .slice none 0 0, [], Nat.zero_le _, rfl, Lib.hid rfl, Lib.hid ⟨⟨((Blk.newAt rfl).alloc _).alloc _, (by repeat (first | exact Below.refl _ _ | refine Below.drew ?_ | refine Below.alloc ?_ (by simp <;> omega) _))⟩, (Blk.newAt (by simp)).alloc _, Blk.newAt (by simp), OwnT.nil _ _⟩⟩
  case round =>
    obtain ⟨k, vo, xs, hk, rfl, HXS, HST⟩ := hrel
    have s1 := HST.out.1.1.cell 1 rfl
    by_cases hlt : k < ts.length
    · obtain ⟨b, o, vr, rfl, hr, hcell⟩ := HAT.out k hlt
      have HRT := Lib.hid hr
      obtain ⟨hr1, hr2⟩ := HREG.out k hlt
      obtain ⟨Ar, cr, rfl, -⟩ := id hr
      obtain ⟨-, b2, o2, rfl, -⟩ := hr.place (by omega)
      have hcell2 := fun j u hu => cell_kept HST.out.1.2 (hcell j u hu)
      obtain ⟨c0, c1, c2, c3, c4, c5, c6, c7, c8⟩ := task_cells hcell2
      clear hcell hcell2 hr
      go_upto_region 6 with (fail)
      have HB4 : Hid (Below wr.heap.size wr (wr.alloc (Obj.cells #[.string (gT ts k).name, .int .i64 (gT ts k).T, .int .i64 (gT ts k).D, .int .i64 (gT ts k).mode, .int .i64 (gT ts k).Q, .int .i64 (gT ts k).theta, .slice (some ⟨b2, o2, none⟩) (gT ts k).regs.length cr, .int .u64 (gT ts k).ecb, .int .u64 (gT ts k).ucb] 41))) := Lib.hid ((Below.refl _ _).alloc (Nat.le_refl _) _)
      have HX4 : Hid (Blk (wr.alloc (Obj.cells #[.string (gT ts k).name, .int .i64 (gT ts k).T, .int .i64 (gT ts k).D, .int .i64 (gT ts k).mode, .int .i64 (gT ts k).Q, .int .i64 (gT ts k).theta, .slice (some ⟨b2, o2, none⟩) (gT ts k).regs.length cr, .int .u64 (gT ts k).ecb, .int .u64 (gT ts k).ucb] 41)) wr.heap.size ((gT ts k).cells (.slice (some ⟨b2, o2, none⟩) (gT ts k).regs.length cr)) 41) := Lib.hid (Blk.newAt rfl)
      have HO : Hid (w.heap.size + 2 < wr.heap.size) := Lib.hid HST.out.2.2.1.lt
      generalize wr.alloc _ = W4 at *
      have f6 := HX4.out.cell 6 rfl
      have g6 := HX4.out.free 6
      have hw4 := HX4.out.lt
      clear c0 c1 c2 c3 c4 c5 c6 c7 c8 s1
      have HRG4 : Hid (RdI W4 (.slice (some ⟨b2, o2, none⟩) (gT ts k).regs.length cr) (gT ts k).regs) := Lib.hid (HRT.out.kept CInt.mono (below_tr HST.out.1.2 HB4.out))
      go_upto_region 7 with (at_builtin; go_loud (refine append_copy (W := W4) rfl (.tmp 21) (.tmp 23) 34 2 (.int .i64 0) 8 rfl Tryz.underlying34 i64_info rfl (by decide) b2 o2 (gT ts k).regs.length cr (intC (gT ts k).regs) (by simp [intC]) (by omega) rfl rfl ?_ ?_ ?_ ?_; (obtain ⟨_, b3, o3, he, hc⟩ := HRG4.out.place (by omega); cases he; exact World.block_lt_of_cell? _ _ (hc 0 (by omega))); (intro j u hu; obtain ⟨_, b3, o3, he, hc⟩ := HRG4.out.place (by omega); cases he; obtain ⟨x, hx, rfl⟩ : ∃ x, (gT ts k).regs[j]? = some x ∧ Value.int .i64 x = u := (by simpa [intC] using hu); have hj := (List.getElem?_eq_some_iff.1 hx); rw [hc j hj.1, gI_at hj.1, hj.2]); (intro u hu; simp only [intC, List.mem_map] at hu; obtain ⟨x, -, rfl⟩ := hu; rfl); intro vn w6 hown6 hb6); have HX6 := Lib.hid (HX4.out.kept hb6); have HB6 := Lib.hid (below_tr HB4.out hb6); have e6 := HX6.out.cell 6 rfl; have g6' := HX6.out.free 6; obtain ⟨An, cn, rfl⟩ := own_slice hown6; have HN6 := Lib.hid hown6; clear hown6 hb6)
      have HX7 : Hid (Blk (w6.setCell ⟨wr.heap.size, 6, none⟩ (.slice An (gT ts k).regs.length cn)) wr.heap.size ((gT ts k).cells (.slice An (gT ts k).regs.length cn)) 41) := Lib.hid (HX6.out.set 6 _)
      have HB7 : Hid (Below wr.heap.size wr (w6.setCell ⟨wr.heap.size, 6, none⟩ (.slice An (gT ts k).regs.length cn))) := Lib.hid (below_setCell HB6.out (Nat.le_refl _) _)
      have HN7 : Hid (Go.World.ownsRow (w6.setCell ⟨wr.heap.size, 6, none⟩ (.slice An (gT ts k).regs.length cn)) W4.heap.size 2 1 (.slice An (gT ts k).regs.length cn) (gT ts k).regs.length (intC (gT ts k).regs)) := Lib.hid (own_set HN6.out (fun he => by have e1 := own_base HN6.out _ he; simp at e1; omega) _)
      generalize World.setCell _ _ _ = W7 at *
      clear f6 e6 g6 g6' HX6 HB6 HN6 HRG4
      have HP7 := Lib.hid (HST.out.kept HB7.out)
      have o1 := HP7.out.2.2.1.cell 1 rfl
      have x0 := HX7.out.cell 0 rfl
      have x1 := HX7.out.cell 1 rfl
      have x2 := HX7.out.cell 2 rfl
      have x3 := HX7.out.cell 3 rfl
      have x4 := HX7.out.cell 4 rfl
      have x5 := HX7.out.cell 5 rfl
      have x6 := HX7.out.cell 6 rfl
      have x7 := HX7.out.cell 7 rfl
      have x8 := HX7.out.cell 8 rfl
      obtain ⟨z, hz, hinfo⟩ := task_info
      have HXL : Hid (xs.length = k) := Lib.hid (by have := congrArg List.length HXS.out; simp at this; omega)
      go_wp2_with (at_builtin; refine append_one (w0 := w) (w.heap.size + 3) rfl (.tmp 27) (.tmp 29) 22 41 z 9 96 rfl Tryz.underlying22 hinfo hz (by decide) (by decide) vo xs.length (tasksC xs) ((gT ts k).cells (.slice An (gT ts k).regs.length cn)) rfl rfl rfl (by simp [Value.oneCell', Task.cells]) HP7.out.2.2.2.row HP7.out.1.2 (by omega) HP7.out.2.2.1.lt (by rw [HXL.out]; omega) ?_; intro v1 w8 hown8 hB8 hg hat; have HO8 := Lib.hid (HP7.out.2.2.1.grown hg (fun he => by have hc := own_base HP7.out.2.2.2.row _ he.symm; omega)); have o2 := HO8.out.cell 1 rfl; have og := HO8.out.free 1; obtain ⟨A8, c8, rfl⟩ := own_slice hown8; have HH8 := Lib.hid (And.intro hown8 (And.intro hB8 (And.intro hg hat))); clear hown8 hB8 hg hat)
      have HG : Hid (CopySt reload (.slice (some ⟨b, o, none⟩) ts.length c) ts w (.slice A8 (xs.length + 1) c8) (xs ++ [(gT ts k, .slice An (gT ts k).regs.length cn)]) (w8.setCell ⟨w.heap.size + 2, 1, none⟩ (.slice A8 (xs.length + 1) c8))) := Lib.hid (by
        obtain ⟨hown8, hB8, hg, hat⟩ := HH8.out
        obtain ⟨h1, h2, h3, h4⟩ := HP7.out
        have hO := HO.out
        have hvo : ∀ q, vo.ownBlock = some q → q < wr.heap.size := fun q hq => own_lt HST.out.2.2.2.row q hq
        have hpush := OwnT.push h4 (t := gT ts k) (own_weak HN7.out (by omega)) (.inr fun he => by
          have e1 := own_base HN7.out
          cases An with
          | none => 
            have e2 := HN7.out.2
            rcases e2 with ⟨e3, e4⟩ | ⟨_, _, _, e3, _⟩
            · omega
            · cases e3
          | some a =>
            have e2 := e1 a.block rfl
            have e3 := hvo a.block he.symm
            omega) hown8 hg hat
        refine ⟨⟨((h1.1.grown hg (fun he => ?_)).far (by simp) _), below_setCell hB8 (by simp) _⟩, (h2.grown hg (fun he => ?_)).far (by simp) _, HO8.out.set 1 _, hpush.setFar (by simp) _⟩
        · have hc := own_base h4.row _ he.symm; omega
        · have hc := own_base h4.row _ he.symm; omega)
      have HXS2 : Hid ((xs ++ [(gT ts k, Value.slice An (gT ts k).regs.length cn)]).map Prod.fst = ts.take (k + 1)) := Lib.hid (by rw [List.map_append, HXS.out, List.take_succ_eq_append_getElem hlt, gT_at hlt]; rfl)
      go_roundw
      case rel => exact ⟨k + 1, _, _, hlt, by go_num, HXS2, HG⟩
      case measure => simp [intOf]; omega
    · obtain rfl : k = ts.length := by omega
      have z0 := HST.out.2.2.1.cell 0 rfl
      have z1 := HST.out.2.2.1.cell 1 rfl
      have y0 := HST.out.2.1.cell 0 rfl
      have y1 := HST.out.2.1.cell 1 rfl
      have yf0 := HST.out.2.1.free 0
      have yf1 := HST.out.2.1.free 1
      obtain ⟨Av, cv, rfl⟩ := own_slice HST.out.2.2.2.row
      go_wp2
      have HY : Hid (Blk ((wr.setCell ⟨w.heap.size + 1, 0, none⟩ (.int .i64 reload)).setCell ⟨w.heap.size + 1, 1, none⟩ (.slice Av xs.length cv)) (w.heap.size + 1) [.int .i64 reload, .slice Av xs.length cv] 24) := Lib.hid ((HST.out.2.1.set 0 _).set 1 _)
      have r0 := HY.out.cell 0 rfl
      have r1 := HY.out.cell 1 rfl
      refine bodyPost_ret (v := .agg #[.int .i64 reload, .slice Av xs.length cv]) (by simp [results, Tryz.results16, go_sem, r0, r1]) rfl ?_
      refine ⟨_, xs, rfl, by rw [HXS.out, List.take_length], ?_, below_setCell (below_setCell HST.out.1.2 (by simp) _) (by simp) _⟩
      exact (HST.out.2.2.2.setFar (p := ⟨w.heap.size + 1, 0, none⟩) (by simp) (.int .i64 reload)).setFar (p := ⟨w.heap.size + 1, 1, none⟩) (by simp) (.slice Av xs.length cv)
/-- A row of tasks that the run owns reads as these tasks. -/
theorem tasksC_at (xs : List (Task × Value)) (j k : Nat) (hj : j < xs.length) (hk : k < 9) : (tasksC xs)[j * 9 + k]? = ((xs[j]).1.cells (xs[j]).2)[k]? := by
  induction xs generalizing j with
  | nil => simp at hj
  | cons x xs ih =>
    have h9 : (x.1.cells x.2).length = 9 := rfl
    show (x.1.cells x.2 ++ tasksC xs)[j * 9 + k]? = _
    cases j with
    | zero => rw [List.getElem?_append_left (by omega), Nat.zero_mul, Nat.zero_add]; rfl
    | succ j =>
      rw [List.getElem?_append_right (by omega), h9, show (j + 1) * 9 + k - 9 = j * 9 + k by omega]
      exact ih j (by simpa using hj)
theorem OwnT.reads {W : World} {B : Nat} {v : Value} {xs : List (Task × Value)} (h : OwnT W B v xs) (hr : ∀ x ∈ xs, x.1.regs.length ≤ 140737488351232) (hn : xs.length ≤ 1000000) : RdT W v (xs.map Prod.fst) := by
  obtain ⟨A, c, rfl⟩ := own_slice h.row
  refine ⟨A, c, by simp, by rw [List.length_map]; omega, fun j t hj => ?_⟩
  rw [List.getElem?_map, Option.map_eq_some_iff] at hj
  obtain ⟨x, hx, rfl⟩ := hj
  have hjl := (List.getElem?_eq_some_iff.1 hx)
  have hjl1 := hjl.1
  obtain ⟨g, c', hv, -, -, hc⟩ := own_cells h.row (show 0 < xs.length by omega)
  cases hv
  have hmem : x ∈ xs := List.mem_of_getElem? hx
  refine ⟨g, 0, _, rfl, ⟨x.2, rfl, own_ints (h.regs x hmem).1 rfl (hr x hmem)⟩, fun k u hu => ?_⟩
  have hk9 : k < 9 := by
    have := (List.getElem?_eq_some_iff.1 hu).1
    simpa [Task.cells] using this
  rw [Nat.zero_add]
  refine hc _ _ ?_
  rw [tasksC_at xs j k hjl.1 hk9, hjl.2]
  exact hu
theorem OwnT.cap {W : World} {B : Nat} {v : Value} {xs : List (Task × Value)} (h : OwnT W B v xs) : CapOk v := own_cap h.row
end Go.Proofs.YtopmnpkjhaabcaaGreatDoor
