/- taskmasterlaw17.RaiseAccepted walked. -/
import Derived.Test.YtopmnpkjhaabcaaGreatDoorBm
import Derived.Test.YtopmnpkjhaabcaaGreatDoorBn
set_option linter.unusedVariables false
set_option linter.unusedSimpArgs false
namespace Go.Proofs.YtopmnpkjhaabcaaGreatDoor
open Go.RowKit

theorem raisePut_some {reload : Int} {ts l : List Task} (h : raisePutF reload ts = some l) : ∃ bear, tolAllF reload ts = some bear ∧ l = (List.range ts.length).map (pTask reload ts bear) := by
  unfold raisePutF at h
  obtain ⟨bear, hb, rfl⟩ := Option.map_eq_some_iff.1 h
  exact ⟨bear, hb, rfl⟩
theorem alike_names {ts l : List Task} (h : Alike ts l) (hn : ∀ t ∈ ts, t.name.size ≤ 140737488351232) : ∀ t ∈ l, t.name.size ≤ 140737488351232 := by
  intro t ht
  obtain ⟨j, hj, rfl⟩ := List.getElem_of_mem ht
  have h1 := h.name j
  have hl := h.len
  rw [gT_at hj, gT_at (by omega)] at h1
  rw [h1]
  exact hn _ (List.getElem_mem _)
theorem how_field (h tk : Int) (B : Option Addr) (n d : Nat) (w : World) : (Instr.field 36 (.agg #[.int .i64 h, .int .i64 tk, .slice B n d]) 0).run Tryz.prog w = .ok (.int .i64 h) w := by kernel_rfl
set_option maxRecDepth 100000 in
set_option maxHeartbeats 4000000 in
theorem raiseAccepted_any (reload : Int) (vs : Value) (ts : List Task) (w : World) (hv : RdT w vs ts) (hcap : CapOk vs) (hn : ∀ t ∈ ts, t.name.size ≤ 140737488351232) (hT : SpaceTab w)
    (hu : ∀ k, k < ts.length → 0 ≤ (gT ts k).ucb ∧ (gT ts k).ucb < 18446744073709551616) (he : ∀ k, k < ts.length → 0 ≤ (gT ts k).ecb ∧ (gT ts k).ecb < 18446744073709551616) :
    Calls Tryz.prog 4 #[.agg #[.int .i64 reload, vs]] w fun e w' => e = .returned (.bool true) ∧ Below w.heap.size w w' := by
  have HMA := Lib.hid (fun W (h : Below w.heap.size w W) => may17_any reload vs ts W (hv.kept CTask.mono h) hn)
  have HVS := Lib.hid (fun W (h : Below w.heap.size w W) => (hv.kept CTask.mono h : RdT W vs ts))
  have HT := Lib.hid hT
  have HCP := Lib.hid hcap
  have HN := Lib.hid hn
  have HUE := Lib.hid (And.intro hu he)
  obtain ⟨A, c, rfl, hle, hat⟩ := hv.at
  clear hat hv hn hT hu he hcap
  cases hm : mayB reload ts
  · have HM := Lib.hid hm
    clear hm
    go_enter Tryz.func4, Tryz.ntmps4
    go_wp2_with (go_at_call 6; refine (HMA.out _ (by repeat (first | exact Below.refl _ _ | refine Below.drew ?_ | refine Below.alloc ?_ (by simp <;> omega) _))).mono ?_; rintro e w1 ⟨rfl, hb1⟩; rw [HM.out]; have HB1 := Lib.hid (below_tr (Below.alloc (Below.refl w.heap.size w) (Nat.le_refl _) _) hb1); clear hb1)
    go_ret
    exact ⟨rfl, HB1.out⟩
  · have HM := Lib.hid hm
    obtain ⟨hra, htd⟩ := mayB_at hm
    have HRA := Lib.hid hra
    have HG := Lib.hid (refAll_good hra HUE.out.1 HUE.out.2)
    have HALL := Lib.hid (refAll_all hra)
    have hl8 := HG.out.n8
    have hl1 := HG.out.n1
    clear hm hra htd
    have HP1 : Hid (∀ W, Below w.heap.size w W → Calls Tryz.prog 9 #[.agg #[.int .i64 reload, .slice A ts.length c]] W fun e w' => ∃ B d, e = .returned (.tuple #[.agg #[.int .i64 (if (raisePutF reload ts).isSome then reload else 0), .slice B ((raisePutF reload ts).getD []).length d], .bool (raisePutF reload ts).isSome]) ∧ RdT w' (.slice B ((raisePutF reload ts).getD []).length d) ((raisePutF reload ts).getD []) ∧ Below W.heap.size W w') := Lib.hid (fun W hb => (raisePut_any reload _ ts W (HVS.out W hb) HCP.out HG.out HALL.out HN.out (HT.out.below hb)).mono fun e w' h => h.reads (Nat.le_trans (raisePutF_len reload ts) hl8) (raisePutF_regs HG.out))
    cases hp : raisePutF reload ts with
    | none =>
      rw [hp] at HP1
      have HP2 : Hid (∀ W, Below w.heap.size w W → Calls Tryz.prog 9 #[.agg #[.int .i64 reload, .slice A ts.length c]] W fun e w' => ∃ B d, e = .returned (.tuple #[.agg #[.int .i64 0, .slice B 0 d], .bool false]) ∧ Below W.heap.size W w') := Lib.hid (fun W hb => (HP1.out W hb).mono fun e w' ⟨B, d, h1, h2, h3⟩ => ⟨B, d, h1, h3⟩)
      clear hp HP1
      go_enter Tryz.func4, Tryz.ntmps4
      go_wp2_with (first
        | (go_at_call 6; refine (HMA.out _ (by repeat (first | exact Below.refl _ _ | refine Below.drew ?_ | refine Below.alloc ?_ (by simp <;> omega) _))).mono ?_; rintro e w1 ⟨rfl, hb1⟩; rw [HM.out]; have HS : Hid (SetC reload (.slice A ts.length c) w w1) := Lib.hid (SetC.kept ⟨Blk.newAt rfl, (by repeat (first | exact Below.refl _ _ | refine Below.drew ?_ | refine Below.alloc ?_ (by simp <;> omega) _))⟩ hb1); clear hb1; have s0 := HS.out.1.cell 0 rfl; have s1 := HS.out.1.cell 1 rfl)
        | (go_at_call 9; refine (HP2.out _ HS.out.2).mono ?_; rintro e w2 ⟨B, d, rfl, hb2⟩; have HB2 := Lib.hid (below_tr HS.out.2 hb2); clear hb2)
        | (go_at_call 13; refine (known17_any _ (HT.out.below (HB2.out.alloc HB2.out.size _))).mono ?_; rintro e w3 ⟨rfl, hb3⟩))
      go_ret
      exact ⟨rfl, below_tr (HB2.out.alloc HB2.out.size _) hb3⟩
    | some l =>
      obtain ⟨bear, htb, hlb⟩ := raisePut_some hp
      have hun := put_under reload ts bear
      have hmo : ∀ k, k < l.length → (gT l k).mode = 2 ∧ (gT l k).Q = 0 ∧ 0 ≤ (gT l k).theta ∧ (gT l k).theta ≤ k := fun k hk => by
        have hk2 : k < ts.length := by rw [hlb] at hk; simpa using hk
        rw [hlb, put_at reload ts bear hk2]
        exact ⟨rfl, rfl, pI_bound reload ts bear k⟩
      rw [← hlb] at hun
      have HAC := Lib.hid (hun.accepted HG.out htb)
      have HLA := Lib.hid (hun.like.all HRA.out hmo)
      have HLG := Lib.hid (hun.like.good HG.out)
      have HLN := Lib.hid (alike_names hun.like HN.out)
      have HMO := Lib.hid (fun k hk => (hmo k hk).1)
      rw [hp] at HP1
      have HP2 : Hid (∀ W, Below w.heap.size w W → Calls Tryz.prog 9 #[.agg #[.int .i64 reload, .slice A ts.length c]] W fun e w' => ∃ B d, e = .returned (.tuple #[.agg #[.int .i64 reload, .slice B l.length d], .bool true]) ∧ RdT w' (.slice B l.length d) l ∧ Below W.heap.size W w') := Lib.hid (fun W hb => HP1.out W hb)
      have HRAL : Hid (∀ W v, RdT W v l → Calls Tryz.prog 14 #[.agg #[.int .i64 reload, v]] W fun e w' => e = .returned (.bool true) ∧ Below W.heap.size W w') := Lib.hid (fun W v hr => by
        have h1 := rall_any reload v l W hr HLN.out
        rw [HLA.out] at h1
        exact h1)
      have HJU : Hid (∀ W v, RdT W v l → Calls Tryz.prog 15 #[.agg #[.int .i64 reload, v]] W fun e w' => ∃ (tk : Int) (B : Option Addr) (n d : Nat), e = .returned (.agg #[.int .i64 1, .int .i64 tk, .slice B n d]) ∧ Below W.heap.size W w') := Lib.hid (fun W v hr => (rjudge_any reload v l W hr HLG.out HMO.out).mono fun e w' ⟨how, tk, B, n, d, h1, h2, h3⟩ => ⟨tk, B, n, d, by rw [h1, h2.2 HAC.out], h3⟩)
      clear hp HP1 hun hmo hlb htb
      have hfd := how_field
      go_enter Tryz.func4, Tryz.ntmps4
      go_upto_region 4 with (first
        | (go_at_call 6; refine (HMA.out _ (by repeat (first | exact Below.refl _ _ | refine Below.drew ?_ | refine Below.alloc ?_ (by simp <;> omega) _))).mono ?_; rintro e w1 ⟨rfl, hb1⟩; rw [HM.out]; have HS : Hid (SetC reload (.slice A ts.length c) w w1) := Lib.hid (SetC.kept ⟨Blk.newAt rfl, (by repeat (first | exact Below.refl _ _ | refine Below.drew ?_ | refine Below.alloc ?_ (by simp <;> omega) _))⟩ hb1); clear hb1; have s0 := HS.out.1.cell 0 rfl; have s1 := HS.out.1.cell 1 rfl)
        | (go_at_call 9; refine (HP2.out _ HS.out.2).mono ?_; rintro e w2 ⟨B, d, rfl, hr2, hb2⟩; have HB2 := Lib.hid (And.intro (below_tr HS.out.2 hb2) hr2); clear hb2 hr2))
      have H3 : Hid (Below w.heap.size w (w2.alloc (Obj.cells #[.int .i64 reload, .slice B l.length d] 24)) ∧ Blk (w2.alloc (Obj.cells #[.int .i64 reload, .slice B l.length d] 24)) w2.heap.size [.int .i64 reload, .slice B l.length d] 24 ∧ RdT (w2.alloc (Obj.cells #[.int .i64 reload, .slice B l.length d] 24)) (.slice B l.length d) l) := Lib.hid ⟨HB2.out.1.alloc HB2.out.1.size _, Blk.newAt rfl, HB2.out.2.kept CTask.mono ((Below.refl _ _).alloc (Nat.le_refl _) _)⟩
      generalize w2.alloc _ = W3 at *
      generalize w2.heap.size = X at *
      clear s0 s1 HS HB2
      have x0 := H3.out.2.1.cell 0 rfl
      have x1 := H3.out.2.1.cell 1 rfl
      go_wp2_with (first
        | (go_at_call 14; refine (HRAL.out _ _ H3.out.2.2).mono ?_; rintro e w4 ⟨rfl, hb4⟩; have H4 := Lib.hid (And.intro (below_tr H3.out.1 hb4) (And.intro (H3.out.2.1.kept hb4) (H3.out.2.2.kept CTask.mono hb4))); have y0 := H4.out.2.1.cell 0 rfl; have y1 := H4.out.2.1.cell 1 rfl; clear hb4)
        | (go_at_call 15; refine (HJU.out _ _ H4.out.2.2).mono ?_; rintro e w5 ⟨tk, B5, n5, d5, rfl, hb5⟩; have HB5 := Lib.hid (below_tr H4.out.1 hb5); clear hb5)
        | (go_at_call 13; refine (known17_any _ (HT.out.below HB5.out)).mono ?_; rintro e w6 ⟨rfl, hb6⟩))
      go_ret
      exact ⟨rfl, below_tr HB5.out hb6⟩
end Go.Proofs.YtopmnpkjhaabcaaGreatDoor
