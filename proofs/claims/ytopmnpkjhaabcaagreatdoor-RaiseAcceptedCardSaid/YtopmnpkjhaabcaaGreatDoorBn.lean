/- taskmasterref13.Judge walked, at sets that may be whose tasks all have thresholds. -/
import Derived.Test.YtopmnpkjhaabcaaGreatDoorBk
import Derived.Test.YtopmnpkjhaabcaaGreatDoorPb
set_option linter.unusedVariables false
set_option linter.unusedSimpArgs false
namespace Go.Proofs.YtopmnpkjhaabcaaGreatDoor
open Go.RowKit

def JPost (reload : Int) (ts : List Task) (w : World) (e : Ending) (w' : World) : Prop :=
  ∃ (how tk : Int) (A : Option Addr) (n c : Nat), e = .returned (.agg #[.int .i64 how, .int .i64 tk, .slice A n c]) ∧ (how = 1 ↔ accAll reload ts) ∧ Below w.heap.size w w'
def JSt (reload : Int) (vs : Value) (w : World) (rv : Value) (k : Nat) (W : World) : Prop :=
  SetC reload vs w W ∧ Blk W (w.heap.size + 1) [.int .i64 0, .int .i64 0, .slice none 0 0] 36 ∧ Blk W (w.heap.size + 2) [.int .i64 1, .int .i64 0, rv] 36 ∧ ∃ xs, W.ownsRow (w.heap.size + 3) 2 1 rv k xs
theorem JSt.kept {reload : Int} {vs : Value} {w : World} {rv : Value} {k : Nat} {W W' : World} (h : JSt reload vs w rv k W) (hb : Below W.heap.size W W') : JSt reload vs w rv k W' := by
  obtain ⟨h1, h2, h3, xs, h4⟩ := h
  exact ⟨h1.kept hb, h2.kept hb, h3.kept hb, xs, own_kept h4 hb⟩
set_option maxRecDepth 100000 in
set_option maxHeartbeats 1000000 in
theorem rjudge_any (reload : Int) (vs : Value) (ts : List Task) (w : World) (hv : RdT w vs ts) (hG : Good reload ts) (hm : ∀ k, k < ts.length → (gT ts k).mode = 2) :
    Calls Tryz.prog 15 #[.agg #[.int .i64 reload, vs]] w (JPost reload ts w) := by
  have HRE := Lib.hid (fun W (h : Below w.heap.size w W) i (hi : i < ts.length) => rresp_any reload vs ts i W (hv.kept CTask.mono h) hG hi hm)
  have hl := hG.n8
  obtain ⟨A, c, rfl, hle, hat⟩ := hv.at
  clear hv hG hat hm
  go_enter Tryz.func15, Tryz.ntmps15
  go_wp2_with fail
  go_loopw [4, 5, 6] (fun i _ _ W => ∃ (k : Nat) (B : Option Addr) (d : Nat), k ≤ ts.length ∧ i = .int .i64 k ∧ Hid (∀ j, j < k → (withF reload ts j (mostI reload ts j)).2 = 1) ∧ Hid (JSt reload (.slice A ts.length c) w (.slice B k d) k W)) (fun i _ _ _ => ts.length - (intOf i).toNat)
  case atStart => exact ⟨0, none, 0, Nat.zero_le _, rfl, Lib.hid (fun j hj => by omega), Lib.hid ⟨⟨((Blk.newAt rfl).alloc _).alloc _, (by repeat (first | exact Below.refl _ _ | refine Below.drew ?_ | refine Below.alloc ?_ (by simp <;> omega) _))⟩, (Blk.newAt (by simp)).alloc _, Blk.newAt (by simp), [], own_nil _ _ _ _⟩⟩
  case round =>
    obtain ⟨k, B, d, hk, rfl, HALL, HST⟩ := hrel
    have s0 := HST.out.1.1.cell 0 rfl
    have s1 := HST.out.1.1.cell 1 rfl
    by_cases hlt : k < ts.length
    · have HCK := Lib.hid (HRE.out wr HST.out.1.2 k hlt)
      by_cases hh : (withF reload ts k (mostI reload ts k)).2 = 1
      · have k1 : ((withF reload ts k (mostI reload ts k)).2 != 1) = false := by simp [hh]
        have HAL2 : Hid (∀ j, j < k + 1 → (withF reload ts j (mostI reload ts j)).2 = 1) := Lib.hid (fun j hj => by
          by_cases h : j = k
          · subst h; exact hh
          · exact HALL.out j (by omega))
        clear hh
        generalize (withF reload ts k (mostI reload ts k)).1 = r1 at *
        generalize (withF reload ts k (mostI reload ts k)).2 = r2 at *
        go_upto_region 8 with (go_at_call 26; refine HCK.out.mono ?_; rintro e w1 ⟨rfl, hb1⟩; have H1 := Lib.hid (HST.out.kept hb1); clear hb1)
        clear s0 s1 HST
        have v2 := H1.out.2.2.1.cell 2 rfl
        have vf := H1.out.2.2.1.free 2
        obtain ⟨xs, hxs⟩ := H1.out.2.2.2
        have HXS := Lib.hid hxs
        clear hxs
        go_wp2_with (at_builtin; refine append_one (w0 := w) (w.heap.size + 3) rfl (.tmp 27) (.tmp 29) 34 2 (.int .i64 0) 1 8 rfl Tryz.underlying34 i64_info rfl (by decide) (by decide) (.slice B k d) k xs [.int .i64 r1] rfl rfl rfl (by simp [Value.oneCell']) HXS.out H1.out.1.2 (by omega) (by have := H1.out.2.2.1.lt; omega) (by omega) ?_; intro v1 w3 hown hB hg hat; obtain ⟨B3, d3, rfl⟩ := own_slice hown; have HB3 := Lib.hid (H1.out.2.2.1.grown hg (fun he => by have hc := own_base HXS.out _ he.symm; omega)); have n2 := HB3.out.cell 2 rfl; have nf := HB3.out.free 2; have HH3 := Lib.hid (And.intro hown (And.intro hB hg)); clear hown hB hg hat)
        have HG : Hid (JSt reload (.slice A ts.length c) w (.slice B3 (k + 1) d3) (k + 1) (w3.setCell ⟨w.heap.size + 2, 2, none⟩ (.slice B3 (k + 1) d3))) := Lib.hid (by
          obtain ⟨hown, hB, hg⟩ := HH3.out
          refine ⟨⟨(H1.out.1.1.grown hg (fun he => ?_)).far (by simp) _, below_setCell hB (by simp) _⟩, (H1.out.2.1.grown hg (fun he => ?_)).far (by simp) _, HB3.out.set 2 _, _, own_set hown (fun he => ?_) _⟩
          · have hc := own_base HXS.out _ he.symm; omega
          · have hc := own_base HXS.out _ he.symm; omega
          · have hc := own_base hown _ he; simp at hc)
        go_roundw
        case rel => exact ⟨k + 1, _, _, hlt, by go_num, HAL2, HG⟩
        case measure => simp [intOf]; omega
      · have k1 : ((withF reload ts k (mostI reload ts k)).2 != 1) = true := by simp [hh]
        have HNO : Hid (¬ accAll reload ts ∧ ¬ (withF reload ts k (mostI reload ts k)).2 = 1) := Lib.hid ⟨fun h => hh (h k hlt), hh⟩
        clear hh
        generalize (withF reload ts k (mostI reload ts k)).1 = r1 at *
        generalize (withF reload ts k (mostI reload ts k)).2 = r2 at *
        go_upto_region 7 with (go_at_call 26; refine HCK.out.mono ?_; rintro e w1 ⟨rfl, hb1⟩; have H1 := Lib.hid (HST.out.kept hb1); clear hb1)
        clear s0 s1 HST
        have y0 := H1.out.2.1.cell 0 rfl
        have y1 := H1.out.2.1.cell 1 rfl
        have y2 := H1.out.2.1.cell 2 rfl
        have yf0 := H1.out.2.1.free 0
        have yf1 := H1.out.2.1.free 1
        have yf2 := H1.out.2.1.free 2
        go_wp2
        have HY : Hid (Blk (((w1.setCell ⟨w.heap.size + 1, 0, none⟩ (.int .i64 r2)).setCell ⟨w.heap.size + 1, 1, none⟩ (.int .i64 k)).setCell ⟨w.heap.size + 1, 2, none⟩ (.slice none 0 0)) (w.heap.size + 1) [.int .i64 r2, .int .i64 k, .slice none 0 0] 36) := Lib.hid (((H1.out.2.1.set 0 _).set 1 _).set 2 _)
        have q0 := HY.out.cell 0 rfl
        have q1 := HY.out.cell 1 rfl
        have q2 := HY.out.cell 2 rfl
        refine bodyPost_ret (v := .agg #[.int .i64 r2, .int .i64 k, .slice none 0 0]) (by simp [results, Tryz.results15, go_sem, q0, q1, q2]) rfl ?_
        exact ⟨r2, k, none, 0, 0, rfl, ⟨fun h => absurd h HNO.out.2, fun h => absurd h HNO.out.1⟩, below_setCell (below_setCell (below_setCell H1.out.1.2 (by simp) _) (by simp) _) (by simp) _⟩
    · obtain rfl : k = ts.length := by omega
      have HYES : Hid (accAll reload ts) := Lib.hid HALL.out
      have v0 := HST.out.2.2.1.cell 0 rfl
      have v1 := HST.out.2.2.1.cell 1 rfl
      have v2 := HST.out.2.2.1.cell 2 rfl
      have y0 := HST.out.2.1.cell 0 rfl
      have y1 := HST.out.2.1.cell 1 rfl
      have y2 := HST.out.2.1.cell 2 rfl
      have yf0 := HST.out.2.1.free 0
      have yf1 := HST.out.2.1.free 1
      have yf2 := HST.out.2.1.free 2
      go_wp2
      have HY : Hid (Blk (((wr.setCell ⟨w.heap.size + 1, 0, none⟩ (.int .i64 1)).setCell ⟨w.heap.size + 1, 1, none⟩ (.int .i64 0)).setCell ⟨w.heap.size + 1, 2, none⟩ (.slice B ts.length d)) (w.heap.size + 1) [.int .i64 1, .int .i64 0, .slice B ts.length d] 36) := Lib.hid (((HST.out.2.1.set 0 _).set 1 _).set 2 _)
      have q0 := HY.out.cell 0 rfl
      have q1 := HY.out.cell 1 rfl
      have q2 := HY.out.cell 2 rfl
      refine bodyPost_ret (v := .agg #[.int .i64 1, .int .i64 0, .slice B ts.length d]) (by simp [results, Tryz.results15, go_sem, q0, q1, q2]) rfl ?_
      exact ⟨1, 0, B, ts.length, d, rfl, ⟨fun _ => HYES.out, fun _ => rfl⟩, below_setCell (below_setCell (below_setCell HST.out.1.2 (by simp) _) (by simp) _) (by simp) _⟩
end Go.Proofs.YtopmnpkjhaabcaaGreatDoor
