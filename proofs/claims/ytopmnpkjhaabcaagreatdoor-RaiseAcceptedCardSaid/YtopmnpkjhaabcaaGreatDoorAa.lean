/- What the document's answer calls a name is one; taskmasterref5.in, Work walked. -/
import Derived.Test.YtopmnpkjhaabcaaGreatDoorz
set_option linter.unusedVariables false
set_option linter.unusedSimpArgs false
namespace Go.Proofs.YtopmnpkjhaabcaaGreatDoor
open Go.RowKit

theorem extract_all (s : ByteArray) : s.extract 0 s.size = s := by
  apply ByteArray.ext
  simp
theorem refName_name (s : ByteArray) (h : refName s = true) : nameB s = true := by
  unfold refName at h
  simp only [Bool.and_eq_true, decide_eq_true_eq] at h
  obtain ⟨h0, hl, hn, hk⟩ := h
  have hrl := runLen_le moreB s
  have hw : isWord (nameText s) = false := by
    unfold oneK at hk
    cases hh : isWord (nameText s)
    · rfl
    · rw [hh] at hk; simp at hk
  have h12 : ¬ 12 < runLen moreB s := by
    intro h12
    unfold oneK at hk
    rw [hw] at hk
    simp [h12] at hk
  have hrun : runLen moreB s = s.size := by
    unfold oneN at hn
    rw [hw] at hn
    simp [h12] at hn
    omega
  have hnt : nameText s = s := by unfold nameText; rw [hrun, extract_all]
  have hr : 97 ≤ bt s 0 ∧ bt s 0 ≤ 122 := by simpa [letB] using hl
  have hg : gapN s = 0 := by
    unfold gapN
    rw [if_neg (by omega), if_neg (by omega)]
  have ht : tokenF s = (⟨1, s, 0, 0⟩, s.size, true) := by
    unfold tokenF
    rw [if_pos hl]
    have : nameKind s = 1 := by unfold nameKind; rw [hw]; rfl
    rw [this, hnt, hrun]
    have : decide ((s.size : Int) ≤ 12) = true := by simp; omega
    rw [this]
  obtain ⟨f, hf⟩ : ∃ f, s.size = f + 1 := ⟨s.size - 1, by omega⟩
  have htok : tokensF s = ([⟨1, s, 0, 0⟩, ⟨4, emptyS, 0, s.size⟩], s.size, 0) := by
    unfold tokensF
    rw [if_neg (by omega)]
    rw [lexGo, if_neg (by omega), extract_all, hg, if_neg (by omega), ht, if_pos rfl]
    simp only [Nat.zero_add, List.nil_append]
    have : ∀ m l, 0 < m → lexGo s m s.size l = (l ++ [⟨4, emptyS, 0, s.size⟩], s.size, 0) := by
      intro m l hm
      obtain ⟨m, rfl⟩ : ∃ g, m = g + 1 := ⟨m - 1, by omega⟩
      rw [lexGo, if_pos rfl]
    rw [this _ _ h0]
    rfl
  unfold nameB
  rw [htok]
  simp
def inB (n a b : Int) : Bool := decide (a ≤ n) && decide (n ≤ b)
theorem rin_any (n a b : Int) (w : World) : Calls Tryz.prog 24 #[.int .i64 n, .int .i64 a, .int .i64 b] w fun e w' => e = .returned (.bool (inB n a b)) ∧ w' = w := by
  by_cases h1 : a ≤ n
  · go_enter Tryz.func24, Tryz.ntmps24
    go_wp2
    go_ret
    exact ⟨ret_bool (by simp [inB, h1]; try omega), rfl⟩
  · go_enter Tryz.func24, Tryz.ntmps24
    go_wp2
    go_ret
    exact ⟨ret_bool (by simp [inB, h1]; try omega), rfl⟩
set_option maxRecDepth 100000 in
theorem rwork_any (t : Task) (vr : Value) (w : World) (hr : RdI w vr t.regs) (hg : regsB t.regs = true) :
    Calls Tryz.prog 35 #[.agg #[.string t.name, .int .i64 t.T, .int .i64 t.D, .int .i64 t.mode, .int .i64 t.Q, .int .i64 t.theta, vr, .int .u64 t.ecb, .int .u64 t.ucb]] w fun e w' => e = .returned (.int .i64 t.regs.sum) ∧ Below w.heap.size w w' := by
  obtain ⟨A, c, rfl, hle, hat⟩ := hr.at
  have hl8 := ((regsB_iff _).1 hg).2.1
  have HAT := Lib.hid hat
  have HG := Lib.hid hg
  clear hat hr hg
  generalize t.regs = l at *
  go_enter Tryz.func35, Tryz.ntmps35
  go_wp2
  go_loop [3, 4] (fun n i => ∃ k : Nat, k ≤ l.length ∧ i = .int .i64 k ∧ n = .int .i64 (sumTo l k)) (fun _ i => l.length - (intOf i).toNat)
  case atStart => exact ⟨0, Nat.zero_le _, rfl, by rw [sumTo_zero]⟩
  case round =>
    obtain ⟨k, hk, rfl, rfl⟩ := hrel
    by_cases hlt : k < l.length
    · obtain ⟨b, o, rfl, hc⟩ := HAT.out k hlt
      have hc := cell_kept (((Below.refl _ _).alloc (Nat.le_refl _) (Obj.cells #[.string t.name, .int .i64 t.T, .int .i64 t.D, .int .i64 t.mode, .int .i64 t.Q, .int .i64 t.theta, .slice (some ⟨b, o, none⟩) l.length c, .int .u64 t.ecb, .int .u64 t.ucb] 41))) hc
      obtain ⟨s1, s2⟩ := regs_sum HG.out k hk
      obtain ⟨r1, r2⟩ := regs_at HG.out hlt
      have HS := Lib.hid (sumTo_succ hlt)
      go_wp2
      go_round
      case rel => exact ⟨k + 1, hlt, by go_num, by rw [HS.out]⟩
      case measure => simp [intOf]; omega
    · obtain rfl : k = l.length := by omega
      go_wp2
      go_ret
      exact ⟨ret_int (by rw [sumTo_all]), (Below.refl _ _).alloc (Nat.le_refl _) _⟩
end Go.Proofs.YtopmnpkjhaabcaaGreatDoor
