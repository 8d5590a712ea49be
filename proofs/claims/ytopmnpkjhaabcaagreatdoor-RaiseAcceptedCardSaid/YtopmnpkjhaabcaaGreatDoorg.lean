/- How a set of tasks lies in memory; the small functions of package task walked: isTime, isRegions, isName. -/
import Derived.Test.YtopmnpkjhaabcaaGreatDoorf
set_option linter.unusedVariables false
set_option linter.unusedSimpArgs false
namespace Go.Proofs.YtopmnpkjhaabcaaGreatDoor
open Go.RowKit

/-- A slice's elements, each of sz cells, each told by C. -/
def Rows' {α : Type} (sz : Nat) (C : World → α → List Value → Prop) (W : World) (v : Value) (xs : List α) : Prop :=
  ∃ A c, v = .slice A xs.length c ∧ xs.length ≤ 140737488351232 ∧ ∀ j x, xs[j]? = some x → ∃ b o cs, A = some ⟨b, o, none⟩ ∧ C W x cs ∧ ∀ k u, cs[k]? = some u → W.cell? ⟨b, o + j * sz + k, none⟩ = some u
def MonoC {α : Type} (C : World → α → List Value → Prop) : Prop := ∀ {W W' : World}, Below W.heap.size W W' → ∀ {x : α} {cs : List Value}, C W x cs → C W' x cs
theorem Rows'.kept {α : Type} {sz : Nat} {C : World → α → List Value → Prop} (hC : MonoC C) {W W' : World} (hb : Below W.heap.size W W') {v : Value} {xs : List α} (h : Rows' sz C W v xs) : Rows' sz C W' v xs := by
  obtain ⟨A, c, hv, hl, h⟩ := h
  refine ⟨A, c, hv, hl, fun j x hx => ?_⟩
  obtain ⟨b, o, cs, hA, hc, hcell⟩ := h j x hx
  exact ⟨b, o, cs, hA, hC hb hc, fun k u hu => cell_kept hb (hcell k u hu)⟩
/-- Element k; 0 behind the end. -/
def gI (l : List Int) (k : Nat) : Int := l.getD k 0
theorem gI_at {l : List Int} {k : Nat} (h : k < l.length) : gI l k = l[k] := by unfold gI; rw [List.getD_eq_getElem?_getD, List.getElem?_eq_getElem h]; rfl
theorem gI_cons_zero (x : Int) (l : List Int) : gI (x :: l) 0 = x := rfl
theorem gI_cons_succ (x : Int) (l : List Int) (k : Nat) : gI (x :: l) (k + 1) = gI l k := by simp [gI]
def CInt : World → Int → List Value → Prop := fun _ x cs => cs = [.int .i64 x]
abbrev RdI (W : World) (v : Value) (l : List Int) : Prop := Rows' 1 CInt W v l
theorem CInt.mono : MonoC CInt := fun _ _ _ h => h
theorem RdI.at {W : World} {v : Value} {l : List Int} (h : RdI W v l) : ∃ A c, v = .slice A l.length c ∧ l.length ≤ 140737488351232 ∧ ∀ j, j < l.length → ∃ b o, A = some ⟨b, o, none⟩ ∧ W.cell? ⟨b, o + j, none⟩ = some (.int .i64 (gI l j)) := by
  obtain ⟨A, c, hv, hl, h⟩ := h
  refine ⟨A, c, hv, hl, fun j hj => ?_⟩
  obtain ⟨b, o, cs, hA, hc, hcell⟩ := h j l[j] (List.getElem?_eq_getElem hj)
  unfold CInt at hc
  subst hc
  have := hcell 0 _ rfl
  rw [Nat.mul_one, Nat.add_zero] at this
  exact ⟨b, o, hA, by rw [gI_at hj]; exact this⟩
/-- A row of which something is read: where it lies. -/
theorem RdI.place {W : World} {A : Option Addr} {n c : Nat} {l : List Int} (h : RdI W (.slice A n c) l) (hn : 0 < n) : n = l.length ∧ ∃ b o, A = some ⟨b, o, none⟩ ∧ ∀ j, j < l.length → W.cell? ⟨b, o + j, none⟩ = some (.int .i64 (gI l j)) := by
  obtain ⟨A', c', hv, hl, h'⟩ := h.at
  injection hv with h1 h2 h3
  subst h1 h2 h3
  obtain ⟨b, o, hA, _⟩ := h' 0 hn
  refine ⟨rfl, b, o, hA, fun j hj => ?_⟩
  obtain ⟨b', o', hA', hc⟩ := h' j hj
  rw [hA] at hA'
  injection hA' with hA'
  injection hA' with e1 e2
  subst e1 e2
  exact hc
theorem RdI.len {W : World} {A : Option Addr} {n c : Nat} {l : List Int} (h : RdI W (.slice A n c) l) : n = l.length ∧ l.length ≤ 140737488351232 := by
  obtain ⟨A', c', hv, hl, h⟩ := h
  injection hv with h1 h2 h3
  exact ⟨h2, hl⟩

structure Task where
  name : ByteArray
  T : Int
  D : Int
  mode : Int
  Q : Int
  theta : Int
  regs : List Int
  ecb : Int
  ucb : Int
def Task.cells (t : Task) (vr : Value) : List Value := [.string t.name, .int .i64 t.T, .int .i64 t.D, .int .i64 t.mode, .int .i64 t.Q, .int .i64 t.theta, vr, .int .u64 t.ecb, .int .u64 t.ucb]
def CTask : World → Task → List Value → Prop := fun W t cs => ∃ vr, cs = t.cells vr ∧ RdI W vr t.regs
theorem CTask.mono : MonoC CTask := fun hb _ _ ⟨vr, h1, h2⟩ => ⟨vr, h1, h2.kept CInt.mono hb⟩
abbrev RdT (W : World) (v : Value) (l : List Task) : Prop := Rows' 9 CTask W v l

def timeB (n least : Int) : Bool := decide (least ≤ n) && decide (n ≤ 10000)
theorem isTime_any (n least : Int) (w : World) : Calls Tryz.prog 38 #[.int .i64 n, .int .i64 least] w fun e w' => e = .returned (.bool (timeB n least)) ∧ w' = w := by
  by_cases h1 : least ≤ n
  · go_enter Tryz.func38, Tryz.ntmps38
    go_wp2
    go_ret
    exact ⟨ret_bool (by simp [timeB]; try omega), rfl⟩
  · go_enter Tryz.func38, Tryz.ntmps38
    go_wp2
    go_ret
    exact ⟨ret_bool (by simp [timeB]; try omega), rfl⟩
theorem isRegions1_any (n : Int) (w : World) : Calls Tryz.prog 66 #[.int .i64 n] w fun e w' => e = .returned (.bool (!timeB n 1)) ∧ w' = w := by
  go_enter Tryz.func66, Tryz.ntmps66
  go_wp2_with (go_at_call 38; refine (isTime_any _ _ _).mono ?_; rintro e w' ⟨rfl, rfl⟩)
  go_ret
  exact ⟨rfl, rfl⟩

/-- The first place of one that is such; as many as there are, if there is none. -/
def firstI (p : Int → Bool) : List Int → Nat
  | [] => 0
  | x :: l => if p x then 0 else firstI p l + 1
theorem firstI_le (p : Int → Bool) (l : List Int) : firstI p l ≤ l.length := by
  induction l with
  | nil => simp [firstI]
  | cons x l ih => unfold firstI; split <;> simp; omega
theorem firstI_not (p : Int → Bool) (l : List Int) (j : Nat) (h : j < firstI p l) : p (gI l j) = false := by
  induction l generalizing j with
  | nil => simp [firstI] at h
  | cons x l ih =>
    unfold firstI at h
    split at h
    · omega
    · rename_i hp
      cases j with
      | zero => rw [gI_cons_zero]; simpa using hp
      | succ j => rw [gI_cons_succ]; exact ih j (by omega)
theorem firstI_is (p : Int → Bool) (l : List Int) (h : firstI p l < l.length) : p (gI l (firstI p l)) = true := by
  induction l with
  | nil => simp at h
  | cons x l ih =>
    unfold firstI at h ⊢
    split
    · rename_i hp; exact hp
    · rename_i hp
      rw [if_neg hp] at h
      rw [gI_cons_succ]
      exact ih (by simpa using h)
theorem firstI_lt (p : Int → Bool) (l : List Int) : firstI p l < l.length ↔ l.any p = true := by
  induction l with
  | nil => simp [firstI]
  | cons x l ih =>
    unfold firstI
    split
    · rename_i hp; simp [hp]
    · rename_i hp; simp [hp]; simpa using ih
def idxI (p : Int → Bool) (l : List Int) : Int := if firstI p l < l.length then (firstI p l : Int) else -1

def badReg (n : Int) : Bool := !timeB n 1
theorem isRegions1_bad (n : Int) (w : World) : Calls Tryz.prog 66 #[.int .i64 n] w fun e w' => e = .returned (.bool (badReg n)) ∧ w' = w := isRegions1_any n w
set_option maxRecDepth 100000 in
theorem indexFunc_reg (v : Value) (l : List Int) (w : World) (hl : RdI w v l) :
    Calls Tryz.prog 75 #[v, .func (.func 66) #[] #[]] w fun e w' => e = .returned (.int .i64 (idxI badReg l)) ∧ w' = w := by
  obtain ⟨A, c, rfl, hle, hat⟩ := hl.at
  have hfl := firstI_le badReg l
  have HAT := Lib.hid hat
  clear hat hl
  go_enter Tryz.func75, Tryz.ntmps75
  go_wp2
  go_loop [5, 8] (fun _ i => ∃ k : Nat, k ≤ firstI badReg l ∧ i = .int .i64 k) (fun _ i => l.length - (intOf i).toNat)
  case atStart => exact ⟨0, Nat.zero_le _, rfl⟩
  case round =>
    obtain ⟨k, hk, rfl⟩ := hrel
    by_cases hlt : k < l.length
    · obtain ⟨b, o, rfl, hc⟩ := HAT.out k hlt
      by_cases hs : k < firstI badReg l
      · have HP := Lib.hid (firstI_not badReg l k hs)
        go_wp2_with (go_at_call 66; refine (isRegions1_bad _ _).mono ?_; rintro e w' ⟨rfl, rfl⟩; rw [HP.out])
        go_round
        case rel => exact ⟨k + 1, hs, by go_num⟩
        case measure => simp [intOf]; omega
      · obtain rfl : k = firstI badReg l := by omega
        have HP := Lib.hid (firstI_is badReg l hlt)
        have HR : Hid (idxI badReg l = (firstI badReg l : Int)) := Lib.hid (by unfold idxI; rw [if_pos hlt])
        go_wp2_with (go_at_call 66; refine (isRegions1_bad _ _).mono ?_; rintro e w' ⟨rfl, rfl⟩; rw [HP.out])
        go_ret
        exact ⟨ret_int (by rw [HR.out]), rfl⟩
    · have HR : Hid (idxI badReg l = -1) := Lib.hid (by unfold idxI; rw [if_neg (by omega)])
      go_wp2
      go_ret
      exact ⟨ret_int (by rw [HR.out]), rfl⟩
theorem containsFunc_reg (v : Value) (l : List Int) (w : World) (hl : RdI w v l) :
    Calls Tryz.prog 65 #[v, .func (.func 66) #[] #[]] w fun e w' => e = .returned (.bool (l.any badReg)) ∧ w' = w := by
  have hi : decide (0 ≤ idxI badReg l) = l.any badReg := by
    have := firstI_lt badReg l
    unfold idxI
    rw [Bool.eq_iff_iff, ← this]
    split <;> simp <;> omega
  have HI := Lib.hid hi
  clear hi
  go_enter Tryz.func65, Tryz.ntmps65
  go_wp2_with (go_at_call 75; refine (indexFunc_reg _ _ _ hl).mono ?_; rintro e w' ⟨rfl, rfl⟩)
  go_ret
  exact ⟨ret_bool HI.out, rfl⟩

def regsB (l : List Int) : Bool := decide (1 ≤ l.length) && decide (l.length ≤ 8) && !(l.any badReg)
theorem isRegions_any (v : Value) (l : List Int) (w : World) (hl : RdI w v l) : Calls Tryz.prog 52 #[v] w fun e w' => e = .returned (.bool (regsB l)) ∧ w' = w := by
  obtain ⟨A, c, hv, hle, -⟩ := id hl
  subst hv
  by_cases h1 : 1 ≤ l.length
  · by_cases h2 : l.length ≤ 8
    · have HR : Hid (regsB l = !(l.any badReg)) := Lib.hid (by simp [regsB, h1, h2])
      go_enter Tryz.func52, Tryz.ntmps52
      go_wp2_with (go_at_call 65; refine (containsFunc_reg _ l _ hl).mono ?_; rintro e w' ⟨rfl, rfl⟩)
      go_ret
      exact ⟨ret_bool HR.out.symm, rfl⟩
    · have HR : Hid (regsB l = false) := Lib.hid (by simp [regsB, h2])
      go_enter Tryz.func52, Tryz.ntmps52
      go_wp2
      go_ret
      exact ⟨ret_bool HR.out.symm, rfl⟩
  · have HR : Hid (regsB l = false) := Lib.hid (by simp [regsB, h1])
    go_enter Tryz.func52, Tryz.ntmps52
    go_wp2
    go_ret
    exact ⟨ret_bool HR.out.symm, rfl⟩
end Go.Proofs.YtopmnpkjhaabcaaGreatDoor
