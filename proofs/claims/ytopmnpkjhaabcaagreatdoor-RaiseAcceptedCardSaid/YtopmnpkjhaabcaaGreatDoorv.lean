/- toler.All, slices.Min walked. -/
import Derived.Test.YtopmnpkjhaabcaaGreatDooru
set_option linter.unusedVariables false
set_option linter.unusedSimpArgs false
namespace Go.Proofs.YtopmnpkjhaabcaaGreatDoor
open Go.RowKit

theorem i64_info : (Tryz.prog.info? 2).map (fun i => (i.zero, i.size, i.bytes)) = some (some (.int .i64 0), 1, 8) := by kernel_rfl
def intC (l : List Int) : List Value := l.map (.int .i64)
theorem intC_snoc (l : List Int) (x : Int) : intC (l ++ [x]) = intC l ++ [.int .i64 x] := by simp [intC]
theorem own_ints {W : World} {base n : Nat} {v : Value} {l : List Int} (h : W.ownsRow base 2 1 v n (intC l)) (hn : n = l.length) (h0 : n ≤ 140737488351232) : RdI W v l := by
  subst hn
  obtain ⟨A, c, rfl⟩ := own_slice h
  refine ⟨A, c, rfl, by omega, fun j x hx => ?_⟩
  have hj : j < l.length := (List.getElem?_eq_some_iff.1 hx).1
  obtain ⟨g, c', hv, -, -, hc⟩ := own_cells h (by omega)
  cases hv
  refine ⟨g, 0, _, rfl, rfl, fun k u hu => ?_⟩
  match k, hu with
  | 0, hu =>
    cases hu
    rw [Nat.zero_add, Nat.mul_one, Nat.add_zero]
    exact hc _ _ (by simp [intC, hx])
  | k + 1, hu => simp at hu
theorem own_cap {w : World} {base n : Nat} {e : TypeId} {size : Nat} {v : Value} {xs : List Value} (h : w.ownsRow base e size v n xs) : CapOk v := by
  intro A m c hv
  rcases h.2 with ⟨hv2, rfl⟩ | ⟨g, cap, cur, hv2, _, _, h1, _⟩
  · rw [hv] at hv2; injection hv2 with e1 e2 e3; omega
  · rw [hv] at hv2; injection hv2 with e1 e2 e3; omega
theorem own_weak {w : World} {base base' n : Nat} {e : TypeId} {size : Nat} {v : Value} {xs : List Value} (h : w.ownsRow base e size v n xs) (hb : base' ≤ base) : w.ownsRow base' e size v n xs :=
  ⟨h.1, h.2.imp_right fun ⟨g, c, cur, h1, h2, h3⟩ => ⟨g, c, cur, h1, by omega, h3⟩⟩
def bearI (reload : Int) (ts : List Task) (j : Nat) : Int := (tolF reload ts j).getD 0
def bearL (reload : Int) (ts : List Task) (k : Nat) : List Int := (List.range k).map (bearI reload ts)
theorem bearL_succ (reload : Int) (ts : List Task) (k : Nat) : bearL reload ts (k + 1) = bearL reload ts k ++ [bearI reload ts k] := by simp [bearL, List.range_succ]
theorem bearL_len (reload : Int) (ts : List Task) (k : Nat) : (bearL reload ts k).length = k := by simp [bearL]
/-- How much blocking all tasks bear. -/
def tolAllF (reload : Int) (ts : List Task) : Option (List Int) := if ∀ j, j < ts.length → (tolF reload ts j).isSome = true then some (bearL reload ts ts.length) else none
def TolSt (reload : Int) (vs : Value) (ts : List Task) (w : World) (v : Value) (k : Nat) (W : World) : Prop :=
  SetC reload vs w W ∧ W.ownsRow (w.heap.size + 1) 2 1 v k (intC (bearL reload ts k)) ∧ ∀ j, j < k → (tolF reload ts j).isSome = true
theorem TolSt.kept {reload : Int} {vs : Value} {ts : List Task} {w W W' : World} {v : Value} {k : Nat} (h : TolSt reload vs ts w v k W) (hb : Below W.heap.size W W') : TolSt reload vs ts w v k W' := ⟨h.1.kept hb, own_kept h.2.1 hb, h.2.2⟩
def TolPost (reload : Int) (ts : List Task) (w : World) (e : Ending) (w' : World) : Prop :=
  match tolAllF reload ts with
  | none => e = .returned (.tuple #[.slice none 0 0, .bool false]) ∧ Below w.heap.size w w'
  | some l => ∃ v, e = .returned (.tuple #[v, .bool true]) ∧ w'.ownsRow w.heap.size 2 1 v l.length (intC l) ∧ Below w.heap.size w w'
theorem TolPost.no {reload : Int} {ts : List Task} {w : World} {e : Ending} {w' : World} (h : tolAllF reload ts = none) (h1 : e = .returned (.tuple #[.slice none 0 0, .bool false])) (h2 : Below w.heap.size w w') : TolPost reload ts w e w' := by unfold TolPost; rw [h]; exact ⟨h1, h2⟩
theorem TolPost.yes {reload : Int} {ts : List Task} {w : World} {e : Ending} {w' : World} {l : List Int} (h : tolAllF reload ts = some l) (v : Value) (h1 : e = .returned (.tuple #[v, .bool true])) (h2 : w'.ownsRow w.heap.size 2 1 v l.length (intC l)) (h3 : Below w.heap.size w w') : TolPost reload ts w e w' := by unfold TolPost; rw [h]; exact ⟨v, h1, h2, h3⟩
set_option maxRecDepth 100000 in
set_option maxHeartbeats 1000000 in
theorem tolAll_any (reload : Int) (vs : Value) (ts : List Task) (w : World) (hv : RdT w vs ts) (hcap : CapOk vs) (hG : Good reload ts) (hall : allB reload ts = true) (hn : ∀ t ∈ ts, t.name.size ≤ 140737488351232) (hT : SpaceTab w) :
    Calls Tryz.prog 17 #[.agg #[.int .i64 reload, vs]] w (TolPost reload ts w) := by
  have HAL := Lib.hid (fun W (h : Below w.heap.size w W) => all_any reload vs ts W (hv.kept CTask.mono h) hn (hT.below h))
  rw [hall] at HAL
  have HTO := Lib.hid (fun W (h : Below w.heap.size w W) j (hj : j < ts.length) => tolOf_any reload vs ts j W (hv.kept CTask.mono h) hcap hG hj)
  have hl := hG.n8
  have HTF : Hid (tolAllF reload ts = if ∀ j, j < ts.length → (tolF reload ts j).isSome = true then some (bearL reload ts ts.length) else none) := Lib.hid rfl
  obtain ⟨A, c, rfl, hle, hat⟩ := hv.at
  clear hv hcap hG hat hn hT hall
  go_enter Tryz.func17, Tryz.ntmps17
  go_wp2_with (go_at_call 27; refine Calls.mono (HAL.out _ ?_) ?_; (exact (by repeat (first | exact Below.refl _ _ | refine Below.drew ?_ | refine Below.alloc ?_ (by simp <;> omega) _))); rintro e w1 ⟨rfl, hb1⟩; have HS : Hid (SetC reload (.slice A ts.length c) w w1) := Lib.hid (SetC.kept ⟨Blk.newAt rfl, (by repeat (first | exact Below.refl _ _ | refine Below.drew ?_ | refine Below.alloc ?_ (by simp <;> omega) _))⟩ hb1); clear hb1; have s1 := HS.out.1.cell 1 rfl)
  go_loopw [4, 14] (fun v i W => ∃ k : Nat, k ≤ ts.length ∧ i = .int .i64 k ∧ Hid (TolSt reload (.slice A ts.length c) ts w v k W)) (fun _ i _ => ts.length - (intOf i).toNat)
  case atStart => exact ⟨0, Nat.zero_le _, rfl, Lib.hid ⟨HS.out, own_nil _ _ _ _, fun j hj => by omega⟩⟩
  case round =>
    obtain ⟨k, hk, rfl, HST⟩ := hrel
    clear HS s1
    by_cases hlt : k < ts.length
    · have s0 := HST.out.1.1.cell 0 rfl
      have s1 := HST.out.1.1.cell 1 rfl
      have HCK := Lib.hid (HTO.out wr HST.out.1.2 k hlt)
      have HLS : Hid (bearL reload ts (k + 1) = bearL reload ts k ++ [(tolF reload ts k).getD 0]) := Lib.hid (bearL_succ reload ts k)
      cases hs : (tolF reload ts k).isSome
      · have HF : Hid (tolAllF reload ts = none) := Lib.hid (by rw [HTF.out, if_neg (fun h => by rw [h k hlt] at hs; cases hs)])
        have HS := Lib.hid hs
        clear hs
        generalize (tolF reload ts k).getD 0 = n at *
        go_wp2_with (go_at_call 28; refine HCK.out.mono ?_; rintro e w1 ⟨rfl, hb1⟩; rw [HS.out])
        go_ret2
        exact TolPost.no HF.out rfl (below_tr HST.out.1.2 hb1)
      · have HS := Lib.hid hs
        clear hs
        generalize (tolF reload ts k).getD 0 = n at *
        go_wp2_with (first
          | (go_at_call 28; refine HCK.out.mono ?_; rintro e w1 ⟨rfl, hb1⟩; rw [HS.out]; have H1 := Lib.hid (HST.out.kept hb1); clear HST hb1 s0 s1)
          | (at_builtin; refine append_one (w0 := w) (w.heap.size + 1) rfl (.tmp 25) (.tmp 27) 34 2 (.int .i64 0) 1 8 rfl Tryz.underlying34 i64_info rfl (by decide) (by decide) u4 k (intC (bearL reload ts k)) [.int .i64 n] rfl rfl rfl (by simp [Value.oneCell']) H1.out.2.1 H1.out.1.2 (Nat.le_succ _) H1.out.1.1.lt (by omega) ?_; intro v1 w3 hown hB hg hat))
        have HG : Hid (TolSt reload (.slice A ts.length c) ts w v1 (k + 1) w3) := Lib.hid ⟨⟨H1.out.1.1.grown hg (fun he => by have hc := own_base H1.out.2.1 _ he.symm; omega), hB⟩, by rw [HLS.out, intC_snoc]; exact hown, fun j hj => (Nat.lt_or_ge j k).elim (fun h => H1.out.2.2 j h) (fun h => (show k = j by omega) ▸ HS.out)⟩
        go_roundw
        case rel => exact ⟨k + 1, hlt, by go_num, HG⟩
        case measure => simp [intOf]; omega
    · obtain rfl : k = ts.length := by omega
      have HF : Hid (tolAllF reload ts = some (bearL reload ts ts.length)) := Lib.hid (by rw [HTF.out, if_pos HST.out.2.2])
      go_wp2
      go_ret2
      exact TolPost.yes HF.out u4 rfl (by rw [bearL_len]; exact own_weak HST.out.2.1 (Nat.le_succ _)) HST.out.1.2
end Go.Proofs.YtopmnpkjhaabcaaGreatDoor
