/- task.isName, Work, isMode, Is walked. -/
import Derived.Test.YtopmnpkjhaabcaaGreatDoorg
set_option linter.unusedVariables false
set_option linter.unusedSimpArgs false
namespace Go.Proofs.YtopmnpkjhaabcaaGreatDoor
open Go.RowKit

def nameB (s : ByteArray) : Bool := decide ((tokensF s).2.2 = 0) && (decide ((tokensF s).1.length = 2) && (decide (((tokensF s).1.getD 0 ⟨0, emptyS, 0, 0⟩).kind = 1) && decide (((tokensF s).1.getD 0 ⟨0, emptyS, 0, 0⟩).text = s)))

theorem str_eq (a b : ByteArray) : (a.toList == b.toList) = decide (a = b) := by
  rw [Lib.toList_data, Lib.toList_data, Bool.eq_iff_iff]
  simp only [beq_iff_eq, decide_eq_true_eq]
  constructor
  · intro h
    have : a.data = b.data := Array.toList_inj.1 h
    cases a; cases b
    simpa using this
  · rintro rfl; rfl
theorem own_len {w : World} {base n : Nat} {e : TypeId} {size : Nat} {v : Value} {xs : List Value} (h : w.ownsRow base e size v n xs) : n ≤ 9223372036854775807 := by
  rcases h.2 with ⟨rfl, rfl⟩ | ⟨g, cap, cur, rfl, _, _, h1, h2, _⟩
  · omega
  · unfold maxLen at h2; omega
/-- A row that owns something: its cells. -/
theorem own_cells {w : World} {base n : Nat} {e : TypeId} {size : Nat} {v : Value} {xs : List Value} (h : w.ownsRow base e size v n xs) (hn : 0 < n) : ∃ g c, v = .slice (some ⟨g, 0, none⟩) n c ∧ base ≤ g ∧ n ≤ c ∧ ∀ j u, xs[j]? = some u → w.cell? ⟨g, j, none⟩ = some u := by
  have hc := @World.ownsRow.cells w base e size v n xs h
  rcases h.2 with ⟨rfl, rfl⟩ | ⟨g, cap, cur, rfl, hb, _, h1, _⟩
  · omega
  · refine ⟨g, cap, rfl, hb, h1, fun j u hu => ?_⟩
    have := hc (g := g) rfl j u hu
    have ha : (⟨g, 0, none⟩ : Addr).add j = ⟨g, j, none⟩ := by unfold Addr.add; split <;> simp_all
    rwa [ha] at this
set_option maxRecDepth 100000 in
theorem isName_any (s : ByteArray) (w : World) (hs : s.size ≤ 140737488351232) (hT : SpaceTab w) : Calls Tryz.prog 51 #[.string s] w fun e w' => e = .returned (.bool (nameB s)) ∧ Below w.heap.size w w' := by
  obtain ⟨L, p, er, hr⟩ : ∃ L p er, tokensF s = (L, p, er) := ⟨_, _, _, rfl⟩
  have hk : Calls Tryz.prog 64 #[.string s] w fun e w' => ∃ v, e = .returned (.tuple #[v, .int .i64 p, .int .i64 er]) ∧ w'.ownsRow w.heap.size 66 4 v L.length (toksC L) ∧ Below w.heap.size w w' := by
    refine (tokens_any s w hs hT).mono fun e w' h => ?_
    unfold TokensPost at h
    rw [hr] at h
    exact h
  have HK := Lib.hid hk
  have HR := Lib.hid hr
  have HB : Hid (nameB s = (decide (er = 0) && (decide (L.length = 2) && (decide ((L.getD 0 ⟨0, emptyS, 0, 0⟩).kind = 1) && decide ((L.getD 0 ⟨0, emptyS, 0, 0⟩).text = s))))) := Lib.hid (by unfold nameB; rw [hr])
  clear hk hr
  by_cases h1 : er = 0
  · have k1 : (er == 0) = true := by simp [h1]
    by_cases h2 : L.length = 2
    · obtain ⟨a, b, rfl⟩ : ∃ a b, L = [a, b] := by
        match L, h2 with
        | [a, b], _ => exact ⟨a, b, rfl⟩
      by_cases h3 : a.kind = 1
      · have k3 : (a.kind == 1) = true := by simp [h3]
        have HF : Hid (nameB s = decide (a.text = s)) := Lib.hid (by rw [HB.out]; simp [h1, h3])
        clear h1 h2 h3
        by_cases h4 : a.text = s
        · have HF2 : Hid (nameB s = true) := Lib.hid (by rw [HF.out]; simp [h4])
          have k4 : (a.text.toList == s.toList) = true := by rw [str_eq]; simp [h4]
          clear h4
          go_enter Tryz.func51, Tryz.ntmps51
          go_wp2_with (go_at_call 64; refine HK.out.mono ?_; rintro e w1 ⟨v, rfl, hown, hbel⟩; obtain ⟨g, c, rfl, hgb, hgc, hcell⟩ := own_cells hown (by simp); have c0 := hcell 0 (.int .i64 a.kind) rfl; have c1 := hcell 1 (.string a.text) rfl; clear hown hcell)
          go_ret
          exact ⟨ret_bool (by rw [HF2.out]), hbel⟩
        · have HF2 : Hid (nameB s = false) := Lib.hid (by rw [HF.out]; simp [h4])
          have k4 : (a.text.toList == s.toList) = false := by rw [str_eq]; simp [h4]
          clear h4
          go_enter Tryz.func51, Tryz.ntmps51
          go_wp2_with (go_at_call 64; refine HK.out.mono ?_; rintro e w1 ⟨v, rfl, hown, hbel⟩; obtain ⟨g, c, rfl, hgb, hgc, hcell⟩ := own_cells hown (by simp); have c0 := hcell 0 (.int .i64 a.kind) rfl; have c1 := hcell 1 (.string a.text) rfl; clear hown hcell)
          go_ret
          exact ⟨ret_bool (by rw [HF2.out]), hbel⟩
      · have k3 : (a.kind == 1) = false := by simp [h3]
        have HF2 : Hid (nameB s = false) := Lib.hid (by rw [HB.out]; simp [h3])
        clear h1 h2 h3
        go_enter Tryz.func51, Tryz.ntmps51
        go_wp2_with (go_at_call 64; refine HK.out.mono ?_; rintro e w1 ⟨v, rfl, hown, hbel⟩; obtain ⟨g, c, rfl, hgb, hgc, hcell⟩ := own_cells hown (by simp); have c0 := hcell 0 (.int .i64 a.kind) rfl; have c1 := hcell 1 (.string a.text) rfl; clear hown hcell)
        go_ret
        exact ⟨ret_bool (by rw [HF2.out]), hbel⟩
    · have k2 : ((L.length : Int) == 2) = false := by simp; omega
      have HF2 : Hid (nameB s = false) := Lib.hid (by rw [HB.out]; simp [h2])
      clear h1 h2
      go_enter Tryz.func51, Tryz.ntmps51
      go_wp2_with (go_at_call 64; refine HK.out.mono ?_; rintro e w1 ⟨v, rfl, hown, hbel⟩; have hlen := own_len hown; obtain ⟨A, c, rfl⟩ := own_slice hown; clear hown)
      go_ret
      exact ⟨ret_bool (by rw [HF2.out]), hbel⟩
  · have k1 : (er == 0) = false := by simp [h1]
    have HF2 : Hid (nameB s = false) := Lib.hid (by rw [HB.out]; simp [h1])
    clear h1
    go_enter Tryz.func51, Tryz.ntmps51
    go_wp2_with (go_at_call 64; refine HK.out.mono ?_; rintro e w1 ⟨v, rfl, hown, hbel⟩; have hlen := own_len hown; obtain ⟨A, c, rfl⟩ := own_slice hown; clear hown)
    go_ret
    exact ⟨ret_bool (by rw [HF2.out]), hbel⟩

/-- The sum of the first k. -/
def sumTo (l : List Int) (k : Nat) : Int := (l.take k).sum
theorem sumTo_zero (l : List Int) : sumTo l 0 = 0 := by simp [sumTo]
theorem sumTo_succ {l : List Int} {k : Nat} (h : k < l.length) : sumTo l (k + 1) = sumTo l k + gI l k := by
  unfold sumTo
  rw [List.take_succ_eq_append_getElem h, List.sum_append, gI_at h]
  simp
theorem sumTo_all (l : List Int) : sumTo l l.length = l.sum := by simp [sumTo]
theorem badReg_iff (x : Int) : badReg x = false ↔ 1 ≤ x ∧ x ≤ 10000 := by
  unfold badReg timeB
  simp
theorem regsB_iff (l : List Int) : regsB l = true ↔ 1 ≤ l.length ∧ l.length ≤ 8 ∧ ∀ x ∈ l, 1 ≤ x ∧ x ≤ 10000 := by
  unfold regsB
  simp only [Bool.and_eq_true, decide_eq_true_eq, Bool.not_eq_true', List.any_eq_false]
  constructor
  · rintro ⟨⟨h1, h2⟩, h3⟩
    exact ⟨h1, h2, fun x hx => (badReg_iff x).1 (by simpa using h3 x hx)⟩
  · rintro ⟨h1, h2, h3⟩
    exact ⟨⟨h1, h2⟩, fun x hx => by simpa using (badReg_iff x).2 (h3 x hx)⟩
theorem regs_at {l : List Int} (h : regsB l = true) {k : Nat} (hk : k < l.length) : 1 ≤ gI l k ∧ gI l k ≤ 10000 := by
  rw [gI_at hk]
  exact ((regsB_iff l).1 h).2.2 _ (List.getElem_mem hk)
theorem regs_sum {l : List Int} (h : regsB l = true) (k : Nat) (hk : k ≤ l.length) : (k : Int) ≤ sumTo l k ∧ sumTo l k ≤ 10000 * k := by
  induction k with
  | zero => simp [sumTo]
  | succ k ih =>
    have h1 := ih (by omega)
    have h2 := regs_at h (k := k) (by omega)
    rw [sumTo_succ (by omega)]
    omega
theorem regs_work {l : List Int} (h : regsB l = true) : 1 ≤ l.sum ∧ l.sum ≤ 80000 := by
  have h1 := (regsB_iff l).1 h
  have h2 := regs_sum h l.length (Nat.le_refl _)
  rw [sumTo_all] at h2
  omega

set_option maxRecDepth 100000 in
theorem work_any (t : Task) (vr : Value) (w : World) (hr : RdI w vr t.regs) (hg : regsB t.regs = true) :
    Calls Tryz.prog 18 #[.agg #[.string t.name, .int .i64 t.T, .int .i64 t.D, .int .i64 t.mode, .int .i64 t.Q, .int .i64 t.theta, vr, .int .u64 t.ecb, .int .u64 t.ucb]] w fun e w' => e = .returned (.int .i64 t.regs.sum) ∧ Below w.heap.size w w' := by
  obtain ⟨A, c, rfl, hle, hat⟩ := hr.at
  have hl8 := ((regsB_iff _).1 hg).2.1
  have HAT := Lib.hid hat
  have HG := Lib.hid hg
  clear hat hr hg
  generalize t.regs = l at *
  go_enter Tryz.func18, Tryz.ntmps18
  go_wp2
  go_loop [3, 5, 9] (fun n _ i => ∃ k : Nat, k ≤ l.length ∧ i = .int .i64 k ∧ n = .int .i64 (sumTo l k)) (fun _ _ i => l.length - (intOf i).toNat)
  case atStart => exact ⟨0, Nat.zero_le _, rfl, by rw [sumTo_zero]⟩
  case round =>
    obtain ⟨k, hk, rfl, rfl⟩ := hrel
    by_cases hlt : k < l.length
    · obtain ⟨b, o, rfl, hc⟩ := HAT.out k hlt
      have hc := cell_kept (((Below.refl _ _).alloc (Nat.le_refl _) (Obj.cells #[.string t.name, .int .i64 t.T, .int .i64 t.D, .int .i64 t.mode, .int .i64 t.Q, .int .i64 t.theta, .slice (some ⟨b, o, none⟩) l.length c, .int .u64 t.ecb, .int .u64 t.ucb] 41))) hc
      obtain ⟨s1, s2⟩ := regs_sum HG.out k hk
      obtain ⟨r1, r2⟩ := regs_at HG.out hlt
      have HS := Lib.hid (sumTo_succ hlt)
      go_wp2
      go_round
      case rel => exact ⟨k + 1, hlt, by go_num, by rw [HS.out]⟩
      case measure => simp [intOf]; omega
    · obtain rfl : k = l.length := by omega
      go_wp2
      go_ret
      exact ⟨ret_int (by rw [sumTo_all]), (Below.refl _ _).alloc (Nat.le_refl _) _⟩
end Go.Proofs.YtopmnpkjhaabcaaGreatDoor
