/- toler.of$1, sort.Search with it, toler.of walked, at a set that may be. -/
import Derived.Test.YtopmnpkjhaabcaaGreatDoort
set_option linter.unusedVariables false
set_option linter.unusedSimpArgs false
namespace Go.Proofs.YtopmnpkjhaabcaaGreatDoor
open Go.RowKit

/-- Is it not accepted, with so much blocking? -/
def oddB (reload : Int) (ts : List Task) (i : Nat) (b : Int) : Bool := !decide ((withF reload ts i b).2 = 1)
/-- What toler.of's closure sees of its two variables. -/
def CapC (reload : Int) (vs : Value) (i : Nat) (P Q : Nat) (W : World) : Prop := Blk W P [.int .i64 reload, vs] 24 ∧ Blk W Q [.int .i64 i] 3
theorem CapC.kept {reload : Int} {vs : Value} {i P Q : Nat} {W W' : World} (h : CapC reload vs i P Q W) (hb : Below W.heap.size W W') : CapC reload vs i P Q W' := ⟨h.1.kept hb, h.2.kept hb⟩
theorem of1_any (reload : Int) (vs : Value) (ts : List Task) (i : Nat) (bl : Int) (P Q : Nat) (w : World) (hv : RdT w vs ts) (hcap : CapOk vs) (hG : Good reload ts) (hi : i < ts.length) (h0 : 0 ≤ bl) (h1 : bl ≤ 1000000) (hc : CapC reload vs i P Q w) :
    Calls Tryz.prog 41 #[.int .i64 bl, .pointer (some ⟨P, 0, none⟩), .pointer (some ⟨Q, 0, none⟩)] w fun e w' => e = .returned (.bool (oddB reload ts i bl)) ∧ Below w.heap.size w w' := by
  have HW := Lib.hid (with_any reload vs ts i bl w hv hcap hG hi h0 h1)
  obtain ⟨A, c, rfl, hle, -⟩ := hv.at
  have s0 := hc.1.cell 0 rfl
  have s1 := hc.1.cell 1 rfl
  have s2 := hc.2.cell 0 rfl
  have HO : Hid (oddB reload ts i bl = !decide ((withF reload ts i bl).2 = 1)) := Lib.hid rfl
  clear hc hv hcap hG
  generalize (withF reload ts i bl).1 = r at *
  generalize (withF reload ts i bl).2 = how at *
  by_cases hh : how = 1
  · subst hh
    go_enter Tryz.func41, Tryz.ntmps41
    go_wp2_with (go_at_call 42; refine HW.out.mono ?_; rintro e w1 ⟨rfl, hb1⟩)
    go_ret
    exact ⟨ret_bool (by rw [HO.out]; simp), hb1⟩
  · have k1 : (how == 1) = false := by simp [hh]
    have HO2 : Hid (oddB reload ts i bl = true) := Lib.hid (by rw [HO.out]; simp [hh])
    have HH := Lib.hid hh
    clear hh
    go_enter Tryz.func41, Tryz.ntmps41
    go_wp2_with (go_at_call 42; refine HW.out.mono ?_; rintro e w1 ⟨rfl, hb1⟩)
    go_ret
    exact ⟨ret_bool (by rw [HO2.out]; have := HH.out; simp [this]), hb1⟩
/-- sort.Search, as its text goes. -/
def searchGo (p : Int → Bool) : Nat → Int → Int → Int
  | 0, i, _ => i
  | k + 1, i, j => if i < j then (if p ((i + j) / 2) then searchGo p k i ((i + j) / 2) else searchGo p k ((i + j) / 2 + 1) j) else i
def searchF (p : Int → Bool) (n : Int) : Int := searchGo p (n.toNat + 1) 0 n
structure SearchSt (p : Int → Bool) (n : Int) (w0 : World) (i j : Int) (W : World) : Prop where
  i0 : 0 ≤ i
  ij : i ≤ j
  jn : j ≤ n
  go : ∃ k : Nat, j < k + i ∧ searchF p n = searchGo p k i j
  below : Below w0.heap.size w0 W
theorem SearchSt.stop {p : Int → Bool} {n : Int} {w0 : World} {i j : Int} {W : World} (h : SearchSt p n w0 i j W) (hij : ¬ i < j) : searchF p n = i := by
  obtain ⟨k, h1, h2⟩ := h.go
  rw [h2]
  cases k with
  | zero => rfl
  | succ k => rw [searchGo, if_neg hij]
theorem SearchSt.down {p : Int → Bool} {n : Int} {w0 : World} {i j : Int} {W W1 : World} (h : SearchSt p n w0 i j W) (hij : i < j) (hp : p ((i + j) / 2) = true) (hb : Below W.heap.size W W1) : SearchSt p n w0 i ((i + j) / 2) W1 := by
  obtain ⟨k, h1, h2⟩ := h.go
  obtain ⟨h3, h4, h5, -, h6⟩ := h
  obtain ⟨k, rfl⟩ : ∃ g, k = g + 1 := ⟨k - 1, by omega⟩
  exact ⟨h3, by omega, by omega, ⟨k, by omega, by rw [h2, searchGo, if_pos hij, if_pos hp]⟩, below_tr h6 hb⟩
theorem SearchSt.up {p : Int → Bool} {n : Int} {w0 : World} {i j : Int} {W W1 : World} (h : SearchSt p n w0 i j W) (hij : i < j) (hp : p ((i + j) / 2) = false) (hb : Below W.heap.size W W1) : SearchSt p n w0 ((i + j) / 2 + 1) j W1 := by
  obtain ⟨k, h1, h2⟩ := h.go
  obtain ⟨h3, h4, h5, -, h6⟩ := h
  obtain ⟨k, rfl⟩ : ∃ g, k = g + 1 := ⟨k - 1, by omega⟩
  exact ⟨by omega, by omega, by omega, ⟨k, by omega, by rw [h2, searchGo, if_pos hij, if_neg (by simp [hp])]⟩, below_tr h6 hb⟩
set_option maxRecDepth 100000 in
theorem search_any (p : Int → Bool) (n : Int) (P Q : Nat) (w : World) (h0 : 0 ≤ n) (h1 : n ≤ 1000000)
    (hp : ∀ b W, 0 ≤ b → b < n → Below w.heap.size w W → Calls Tryz.prog 41 #[.int .i64 b, .pointer (some ⟨P, 0, none⟩), .pointer (some ⟨Q, 0, none⟩)] W fun e w' => e = .returned (.bool (p b)) ∧ Below W.heap.size W w') :
    Calls Tryz.prog 40 #[.int .i64 n, .func (.func 41) #[] #[.pointer (some ⟨P, 0, none⟩), .pointer (some ⟨Q, 0, none⟩)]] w fun e w' => e = .returned (.int .i64 (searchF p n)) ∧ Below w.heap.size w w' := by
  have HP := Lib.hid hp
  clear hp
  go_enter Tryz.func40, Tryz.ntmps40
  go_wp2
  go_loopw [5, 6] (fun x y W => ∃ i j : Int, x = .int .i64 i ∧ y = .int .i64 j ∧ Hid (SearchSt p n w i j W)) (fun x y _ => (intOf y - intOf x).toNat)
  case atStart => exact ⟨0, n, rfl, rfl, Lib.hid ⟨Int.le_refl _, h0, Int.le_refl _, ⟨n.toNat + 1, by omega, rfl⟩, Below.refl _ _⟩⟩
  case round =>
    obtain ⟨i, j, rfl, rfl, HST⟩ := hrel
    have i0 := HST.out.i0
    have j0 := HST.out.jn
    by_cases hij : i < j
    · have HC := Lib.hid (HP.out ((i + j) / 2) wr (by omega) (by omega) HST.out.below)
      cases hh : p ((i + j) / 2)
      · have HH := Lib.hid hh
        have HN := Lib.hid (fun W1 hb => HST.out.up (W1 := W1) hij hh hb)
        clear hh
        go_wp2_with (go_at_call 41; refine HC.out.mono ?_; rintro e w1 ⟨rfl, hb1⟩; rw [HH.out])
        go_roundw
        case rel => exact ⟨(i + j) / 2 + 1, j, rfl, rfl, Lib.hid (HN.out _ hb1)⟩
        case measure => simp [intOf]; omega
      · have HH := Lib.hid hh
        have HN := Lib.hid (fun W1 hb => HST.out.down (W1 := W1) hij hh hb)
        clear hh
        go_wp2_with (go_at_call 41; refine HC.out.mono ?_; rintro e w1 ⟨rfl, hb1⟩; rw [HH.out])
        go_roundw
        case rel => exact ⟨i, (i + j) / 2, rfl, rfl, Lib.hid (HN.out _ hb1)⟩
        case measure => simp [intOf]; omega
    · have HR := Lib.hid (HST.out.stop hij)
      go_wp2
      go_ret
      exact ⟨ret_int (by rw [HR.out]), HST.out.below⟩
theorem searchGo_range (p : Int → Bool) (k : Nat) (i j : Int) (h : i ≤ j) : i ≤ searchGo p k i j ∧ searchGo p k i j ≤ j := by
  induction k generalizing i j with
  | zero => exact ⟨Int.le_refl _, h⟩
  | succ k ih =>
    rw [searchGo]
    split
    · split
      · have := ih i ((i + j) / 2) (by omega); omega
      · have := ih ((i + j) / 2 + 1) j (by omega); omega
    · exact ⟨Int.le_refl _, h⟩
theorem searchF_range (p : Int → Bool) (n : Int) (h : 0 ≤ n) : 0 ≤ searchF p n ∧ searchF p n ≤ n := searchGo_range p _ 0 n h
/-- How much blocking a task bears. -/
def tolF (reload : Int) (ts : List Task) (i : Nat) : Option Int :=
  if searchF (oddB reload ts i) ((gT ts i).D + 1) = 0 then none else some (searchF (oddB reload ts i) ((gT ts i).D + 1) - 1)
set_option maxRecDepth 100000 in
theorem tolOf_any (reload : Int) (vs : Value) (ts : List Task) (i : Nat) (w : World) (hv : RdT w vs ts) (hcap : CapOk vs) (hG : Good reload ts) (hi : i < ts.length) :
    Calls Tryz.prog 28 #[.agg #[.int .i64 reload, vs], .int .i64 i] w fun e w' => e = .returned (.tuple #[.int .i64 ((tolF reload ts i).getD 0), .bool (tolF reload ts i).isSome]) ∧ Below w.heap.size w w' := by
  have hT := T_bound hG hi
  have hD := hG.dt i hi
  have hC := hG.cd i hi
  have hW := work_bound hG hi
  have hD0 : 0 ≤ (gT ts i).D := by unfold workI at hW; omega
  have hD1 : (gT ts i).D ≤ 10000 := by omega
  have HSE := Lib.hid (fun W P Q (h : Below w.heap.size w W) (hc : CapC reload vs i P Q W) => search_any (oddB reload ts i) ((gT ts i).D + 1) P Q W (by omega) (by omega)
    (fun b W2 k1 k2 hb => of1_any reload vs ts i b P Q W2 (Rows'.kept CTask.mono (below_tr h hb) hv) hcap hG hi k1 (by omega) (hc.kept hb)))
  have hr := searchF_range (oddB reload ts i) ((gT ts i).D + 1) (by omega)
  have hl := hG.n8
  have HT : Hid (tolF reload ts i = if searchF (oddB reload ts i) ((gT ts i).D + 1) = 0 then none else some (searchF (oddB reload ts i) ((gT ts i).D + 1) - 1)) := Lib.hid rfl
  obtain ⟨A, c, rfl, hle, hat⟩ := hv.at
  obtain ⟨b, o, vr, rfl, -, hcell⟩ := hat i hi
  have c2 := hcell 2 _ rfl
  have c3 := cell_kept (w' := (w.alloc (Obj.cells #[.int .i64 reload, .slice (some ⟨b, o, none⟩) ts.length c] 24)).alloc (Obj.cells #[.int .i64 i] 3)) (by repeat (first | exact Below.refl _ _ | refine Below.drew ?_ | refine Below.alloc ?_ (by simp <;> omega) _)) c2
  clear hv hcap hG hat hcell hT hD hC hW
  generalize searchF (oddB reload ts i) ((gT ts i).D + 1) = n at *
  by_cases hn : n = 0
  · subst hn
    have HF : Hid (tolF reload ts i = none) := Lib.hid (by rw [HT.out]; rfl)
    go_enter Tryz.func28, Tryz.ntmps28
    go_wp2_with (go_at_call 40; refine Calls.mono (HSE.out _ _ _ ?_ ?_) ?_; (exact (by repeat (first | exact Below.refl _ _ | refine Below.drew ?_ | refine Below.alloc ?_ (by simp <;> omega) _))); (exact ⟨Blk.alloc (Blk.newAt rfl) _, Blk.newAt (by simp)⟩); rintro e w1 ⟨rfl, hb1⟩)
    go_ret2
    exact ⟨by rw [HF.out]; rfl, below_tr (Below.alloc (Below.alloc (Below.refl _ _) (Nat.le_refl _) _) (by simp) _) hb1⟩
  · have k1 : (n == 0) = false := by simp [hn]
    have HF : Hid (tolF reload ts i = some (n - 1)) := Lib.hid (by rw [HT.out, if_neg hn])
    clear hn
    go_enter Tryz.func28, Tryz.ntmps28
    go_wp2_with (go_at_call 40; refine Calls.mono (HSE.out _ _ _ ?_ ?_) ?_; (exact (by repeat (first | exact Below.refl _ _ | refine Below.drew ?_ | refine Below.alloc ?_ (by simp <;> omega) _))); (exact ⟨Blk.alloc (Blk.newAt rfl) _, Blk.newAt (by simp)⟩); rintro e w1 ⟨rfl, hb1⟩)
    go_ret2
    exact ⟨by rw [HF.out]; rfl, below_tr (Below.alloc (Below.alloc (Below.refl _ _) (Nat.le_refl _) _) (by simp) _) hb1⟩
end Go.Proofs.YtopmnpkjhaabcaaGreatDoor
