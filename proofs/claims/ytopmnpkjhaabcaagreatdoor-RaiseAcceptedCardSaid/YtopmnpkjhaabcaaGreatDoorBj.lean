/- taskmasterref2.Ints walked. -/
import Derived.Test.YtopmnpkjhaabcaaGreatDoorwa
set_option linter.unusedVariables false
set_option linter.unusedSimpArgs false
namespace Go.Proofs.YtopmnpkjhaabcaaGreatDoor
open Go.RowKit

theorem own_intsE {e : TypeId} {W : World} {base n : Nat} {v : Value} {l : List Int} (h : W.ownsRow base e 1 v n (intC l)) (hn : n = l.length) (h0 : n ≤ 140737488351232) : RdI W v l := by
  subst hn
  obtain ⟨A, c, rfl⟩ := own_slice h
  refine ⟨A, c, rfl, by omega, fun j x hx => ?_⟩
  have hj : j < l.length := (List.getElem?_eq_some_iff.1 hx).1
  obtain ⟨g, c', hv, -, -, hc⟩ := own_cells h (by omega)
  cases hv
  refine ⟨g, 0, _, rfl, rfl, fun k u hu => ?_⟩
  match k, hu with
  | 0, hu =>
    cases hu
    rw [Nat.zero_add, Nat.mul_one, Nat.add_zero]
    exact hc _ _ (by simp [intC, hx])
  | k + 1, hu => simp at hu
/-- Are two rows of priorities one? -/
theorem rints_any (v v' : Value) (l l' : List Int) (w : World) (h : RdI w v l) (h' : RdI w v' l') : Calls Tryz.prog 11 #[v, v'] w fun e w' => e = .returned (.bool (decide (l = l'))) ∧ Below w.heap.size w w' := by
  obtain ⟨A, c, rfl, hle, hat⟩ := h.at
  obtain ⟨A', c', rfl, hle', hat'⟩ := h'.at
  have HAT := Lib.hid hat
  have HAT' := Lib.hid hat'
  clear h h' hat hat'
  by_cases hlen : l.length = l'.length
  · have k0 : ((l.length : Int) != (l'.length : Int)) = false := by simp [hlen]
    have HL := Lib.hid hlen
    have hll : l'.length ≤ l.length := by omega
    have hll2 : l.length ≤ l'.length := by omega
    clear hlen
    go_enter Tryz.func11, Tryz.ntmps11
    go_wp2
    go_loopw [5] (fun i W => ∃ k : Nat, k ≤ l.length ∧ i = .int .i64 k ∧ Hid (∀ j, j < k → gI l j = gI l' j) ∧ Hid (Below w.heap.size w W)) (fun i _ => l.length - (intOf i).toNat)
    case atStart => exact ⟨0, Nat.zero_le _, rfl, Lib.hid (fun j hj => by omega), Lib.hid (Below.refl _ _)⟩
    case round =>
      obtain ⟨k, hk, rfl, HALL, HB⟩ := hrel
      by_cases hlt : k < l.length
      · obtain ⟨b, o, rfl, hc⟩ := HAT.out k hlt
        obtain ⟨b', o', rfl, hc'⟩ := HAT'.out k (by omega)
        have hd := cell_kept HB.out hc
        have hd' := cell_kept HB.out hc'
        clear hc hc'
        have hi1 : (k : Int) < (l.length : Int) := by omega
        have hi2 : (k : Int) < (l'.length : Int) := by omega
        by_cases he : gI l k = gI l' k
        · have k1 : (gI l k != gI l' k) = false := by simp [he]
          have HAL2 : Hid (∀ j, j < k + 1 → gI l j = gI l' j) := Lib.hid (fun j hj => by
            by_cases h : j = k
            · subst h; exact he
            · exact HALL.out j (by omega))
          clear he
          go_wp2
          go_quiet (fail)
          go_wp2
          go_roundw
          case rel => exact ⟨k + 1, hlt, by go_num, HAL2, Lib.hid (below_drewN HB.out _)⟩
          case measure => simp [intOf]; omega
        · have k1 : (gI l k != gI l' k) = true := by simp [he]
          have HF : Hid (decide (l = l') = false) := Lib.hid (by simp; intro hh; subst hh; exact he rfl)
          clear he
          go_wp2
          go_quiet (fail)
          go_wp2
          go_ret
          exact ⟨ret_bool (by rw [HF.out]), below_drewN HB.out _⟩
      · obtain rfl : k = l.length := by omega
        have HF : Hid (decide (l = l') = true) := Lib.hid (by
          simp
          refine List.ext_getElem HL.out fun j h1 h2 => ?_
          have := HALL.out j h1
          rw [gI_at h1, gI_at h2] at this
          exact this)
        go_wp2
        go_ret
        exact ⟨ret_bool (by rw [HF.out]), HB.out⟩
  · have k0 : ((l.length : Int) != (l'.length : Int)) = true := by simp; omega
    have HF : Hid (decide (l = l') = false) := Lib.hid (by simp; intro hh; subst hh; exact hlen rfl)
    go_enter Tryz.func11, Tryz.ntmps11
    go_wp2
    go_ret
    exact ⟨ret_bool (by rw [HF.out]), Below.refl _ _⟩
end Go.Proofs.YtopmnpkjhaabcaaGreatDoor
