/- lex.number, lex.token walked. -/
import Derived.Test.YtopmnpkjhaabcaaGreatDoorc
import Derived.Lib.ConvBytes
set_option linter.unusedVariables false
set_option linter.unusedSimpArgs false
namespace Go.Proofs.YtopmnpkjhaabcaaGreatDoor
open Go.RowKit

section
variable {P : Program} {ops : Array Oper} {rest : List Oper} {o : Oper} {a : Act} {Q : Exit → Act → World → Prop}
/-- '[]byte(s)' in a walk: a new block holds the bytes. -/
theorem wpList_bytes {W : World} (hgd : o.guard = none) (x : Operand) (src dst e : TypeId) (ho : o.op = .convert src dst x)
    (hs : P.underlying src = some .string) (hd : P.underlying dst = some (.slice e)) (he : P.underlying e = some (.int .u8)) (s : ByteArray) (hx : a.eval x = .string s)
    (h : ∀ c w1, (∀ j, j < s.size → w1.cell? ⟨W.heap.size, j, none⟩ = some (.int .u8 (bt s j))) → Below W.heap.size W w1 → w1.heap.size = W.heap.size + 1 → wpList P ops Q rest (a.put o.dst (.slice (some ⟨W.heap.size, 0, none⟩) s.size c)) w1) :
    wpList P ops Q (o :: rest) a W := by
  have hr := Lib.run_convert_string_bytes (P := P) W src dst e s hs hd he
  have hb : Below W.heap.size W (Lib.bytesWorld W e s) := by
    refine ⟨rfl, rfl, rfl, ?_, fun k hk => Lib.bytesWorld_at_old W e s k hk⟩
    rw [Lib.bytesWorld_size]; omega
  have h1 := h (grownCap W s.size 0 e) _ (fun j hj => Lib.bytesWorld_cell W e s j hj) hb (Lib.bytesWorld_size W e s)
  refine wpList_plain hgd fun K hK => ?_
  unfold Oper.wp execOp
  simp only [ho, Sem.run_bind, Sem.run_pure, Result.andThen_ok, hx, hr]
  exact hK _ _ h1
end

def numVal (l : List UInt8) : Int := l.foldl (fun a c => a * 10 + ((c.toNat : Int) - 48)) 0
def numOk (s : ByteArray) : Bool := !(decide (9 < runLen digB s) || (decide (1 < runLen digB s) && decide (bt s 0 = 48)))

theorem numVal_snoc (l : List UInt8) (c : UInt8) : numVal (l ++ [c]) = numVal l * 10 + ((c.toNat : Int) - 48) := by simp [numVal]
theorem take_snoc (s : ByteArray) (k : Nat) (h : k < s.size) : numVal (s.data.toList.take (k + 1)) = numVal (s.data.toList.take k) * 10 + (bt s k - 48) := by
  have h' : k < s.data.toList.length := by rw [blen]; exact h
  rw [List.take_succ_eq_append_getElem h', numVal_snoc]
  unfold bt
  rw [List.getD_eq_getElem?_getD, List.getElem?_eq_getElem h']
  rfl
theorem runL_at (p : Int → Bool) (l : List UInt8) (k : Nat) (h : k < runL p l) : p ((l.getD k 0).toNat : Int) = true := by
  induction l generalizing k with
  | nil => simp [runL] at h
  | cons c l ih =>
    rw [runL_cons] at h
    split at h
    · rename_i hp
      cases k with
      | zero => simpa using hp
      | succ k => simpa using ih k (by omega)
    · omega
theorem run_digit (s : ByteArray) (k : Nat) (h : k < runLen digB s) : 48 ≤ bt s k ∧ bt s k ≤ 57 := by
  have := runL_at digB s.data.toList k h
  unfold digB at this
  simp only [Bool.and_eq_true, decide_eq_true_eq] at this
  exact this
theorem numVal_bd (s : ByteArray) (k : Nat) (hk : k ≤ runLen digB s) : 0 ≤ numVal (s.data.toList.take k) ∧ numVal (s.data.toList.take k) < 10 ^ k := by
  induction k with
  | zero => simp [numVal]
  | succ k ih =>
    have h := ih (by omega)
    have hd := run_digit s k (by omega)
    have hl := runLen_le digB s
    rw [take_snoc s k (by omega), Int.pow_succ]
    omega
theorem numVal_le (s : ByteArray) (k : Nat) (hk : k ≤ runLen digB s) (h9 : k ≤ 9) : 0 ≤ numVal (s.data.toList.take k) ∧ numVal (s.data.toList.take k) ≤ 999999999 := by
  have h := numVal_bd s k hk
  have : (10 : Int) ^ k ≤ 10 ^ 9 := by exact_mod_cast Nat.pow_le_pow_right (by omega) h9
  omega
theorem extract_size (s : ByteArray) (n : Nat) (h : n ≤ s.size) : (s.extract 0 n).size = n := by simp; omega
theorem extract_bt (s : ByteArray) (n k : Nat) (h : k < n) (hn : n ≤ s.size) : bt (s.extract 0 n) k = bt s k := by
  have h1 : k < (s.extract 0 n).size := by rw [extract_size s n hn]; exact h
  rw [← bt_at _ _ h1, ← bt_at _ _ (show k < s.size by omega)]
  simp [ByteArray.getElem_extract]

/-- The state of number's loop. -/
def NumSt (s : ByteArray) (w : World) (k : Nat) (W : World) : Prop :=
  Blk W (w.heap.size + 1) [.int .i64 2, .string ⟨#[]⟩, .int .i64 (numVal (s.data.toList.take k)), .int .i64 0] 66 ∧
  (∃ x y z u, Blk W w.heap.size [x, y, z, u] 66) ∧
  (∀ j, j < runLen digB s → W.cell? ⟨w.heap.size + 1 + 1, j, none⟩ = some (.int .u8 (bt s j))) ∧ Below w.heap.size w W

theorem NumSt.step {s : ByteArray} {w W : World} {k : Nat} (h : NumSt s w k W) (hk : k < runLen digB s) :
    NumSt s w (k + 1) (W.setCell ⟨w.heap.size + 1, 2, none⟩ (.int .i64 (numVal (s.data.toList.take k) * 10 + (bt s k - 48)))) := by
  obtain ⟨g1, ⟨x, y, z, u, g2⟩, g3, g4⟩ := h
  have hl := runLen_le digB s
  refine ⟨?_, ⟨x, y, z, u, g2.far (by simp) _⟩, fun j hj => ?_, below_setCell g4 (by simp) _⟩
  · rw [take_snoc s k (by omega)]
    exact g1.set 2 _
  · rw [World.cell?_setCell_far _ _ _ _ (by simp)]
    exact g3 j hj

def numTok (s : ByteArray) : Int := if numOk s then numVal (s.data.toList.take (runLen digB s)) else 0
set_option maxRecDepth 100000 in
theorem number_any (s : ByteArray) (w : World) (hs : s.size ≤ 140737488351232) (h0 : 0 < s.size) :
    Calls Tryz.prog 88 #[.string s] w fun e w' => e = .returned (.tuple #[.agg #[.int .i64 2, .string ⟨#[]⟩, .int .i64 (numTok s), .int .i64 0], .int .i64 (runLen digB s), .bool (numOk s)]) ∧ Below w.heap.size w w' := by
  have hr := runLen_le digB s
  have hb := bt_at s 0 h0
  unfold numTok
  by_cases h9 : 9 < runLen digB s
  · have HO : Hid (numOk s = false) := Lib.hid (by simp [numOk, h9])
    clear hb
    rw [HO.out, if_neg (by simp)]
    go_enter Tryz.func88, Tryz.ntmps88
    go_wp2_with (go_at_call 83; refine (run_dig s _ hs).mono ?_; rintro e w' ⟨rfl, rfl⟩)
    refine bodyPost_ret (v := .tuple #[.agg #[.int .i64 2, .string ⟨#[]⟩, .int .i64 0, .int .i64 0], .int .i64 (runLen digB s), .bool false]) (by simp [results, Tryz.results88, go_sem]) rfl ⟨rfl, ?_⟩
    · repeat (first | exact Below.refl _ _ | refine Below.drew ?_ | refine Below.alloc ?_ (by simp <;> omega) _ | refine Below.setCell ?_ (by simp) _)
  · by_cases h1 : 1 < runLen digB s
    · by_cases h2 : bt s 0 = 48
      · have k0 : ((s[0]'h0).toNat : Int) == 48 := by rw [hb, h2]; rfl
        have HO : Hid (numOk s = false) := Lib.hid (by simp [numOk, h1, h2])
        clear hb h2
        rw [HO.out, if_neg (by simp)]
        go_enter Tryz.func88, Tryz.ntmps88
        go_wp2_with (go_at_call 83; refine (run_dig s _ hs).mono ?_; rintro e w' ⟨rfl, rfl⟩)
        refine bodyPost_ret (v := .tuple #[.agg #[.int .i64 2, .string ⟨#[]⟩, .int .i64 0, .int .i64 0], .int .i64 (runLen digB s), .bool false]) (by simp [results, Tryz.results88, go_sem]) rfl ⟨rfl, ?_⟩
        · repeat (first | exact Below.refl _ _ | refine Below.drew ?_ | refine Below.alloc ?_ (by simp <;> omega) _ | refine Below.setCell ?_ (by simp) _)
      · have k0 : (((s[0]'h0).toNat : Int) == 48) = false := by rw [hb]; simp [h2]
        have HO : Hid (numOk s = true) := Lib.hid (by simp [numOk, h2]; omega)
        clear hb h2
        rw [HO.out, if_pos rfl]
        go_enter Tryz.func88, Tryz.ntmps88
        go_wp2_with (first | (go_at_call 83; refine (run_dig s _ hs).mono ?_; rintro e w' ⟨rfl, rfl⟩) | (with_reducible refine wpList_bytes rfl (.tmp 27) 9 111 5 rfl Tryz.underlying9 Tryz.underlying111 Tryz.underlying5 (s.extract 0 (runLen digB s)) rfl ?_; intro c w1 hc hb hz))
        have HS : Hid (NumSt s w 0 w1) := Lib.hid (by
          refine ⟨Blk.below (Blk.newAt (by simp)) hb (by simp), ⟨_, _, _, _, Blk.below (Blk.alloc (Blk.newAt rfl) _) hb (by simp; omega)⟩, fun j hj => ?_, ?_⟩
          · rw [← extract_bt s _ j hj hr]
            have := hc j (by rw [extract_size s _ hr]; exact hj)
            simpa using this
          · exact Below.trans (by repeat (first | exact Below.refl _ _ | refine Below.drew ?_ | refine Below.alloc ?_ (by simp <;> omega) _)) (hb.mono (by simp; omega)))
        clear hc hb hz
        go_loopw [8, 30] (fun _ i W => ∃ k : Nat, k ≤ runLen digB s ∧ i = .int .i64 k ∧ Hid (NumSt s w k W)) (fun _ i _ => runLen digB s - (intOf i).toNat)
        case atStart => exact ⟨0, Nat.zero_le _, rfl, HS⟩
        case round =>
          obtain ⟨k, hk, rfl, hst⟩ := hrel
          by_cases hlt : k < runLen digB s
          · obtain ⟨hv0, hv1⟩ := numVal_le s k hk (by omega)
            obtain ⟨hd0, hd1⟩ := run_digit s k hlt
            have hts := Lib.hid (take_snoc s k (by omega))
            obtain ⟨g1, ⟨x, y, z, u, g2⟩, g3, g4⟩ := hst.out
            have HG := Lib.hid (hst.out.step hlt)
            have c0 := g1.cell 2 rfl
            have f0 := g1.free 2
            have b0 := g3 k hlt
            clear g1 g2 g3 g4 hst
            go_wp2
            go_roundw
            case rel => exact ⟨k + 1, hlt, by go_num, HG⟩
            case measure => simp [intOf]; omega
          · obtain rfl : k = runLen digB s := by omega
            obtain ⟨g1, ⟨x, y, z, u, g2⟩, g3, g4⟩ := hst.out
            have c0 := g1.cell 0 rfl
            have c1 := g1.cell 1 rfl
            have c2 := g1.cell 2 rfl
            have c3 := g1.cell 3 rfl
            have d0 := g2.cell 0 rfl
            have d1 := g2.cell 1 rfl
            have d2 := g2.cell 2 rfl
            have d3 := g2.cell 3 rfl
            have e0 := g2.free 0
            have e1 := g2.free 1
            have e2 := g2.free 2
            have e3 := g2.free 3
            have G4 := Lib.hid g4
            have G2 := Lib.hid g2
            clear g1 g2 g3 g4 hst
            go_wp2
            have R := (((G2.out.set 0 (.int .i64 2)).set 1 (.string ⟨#[]⟩)).set 2 (.int .i64 (numVal (s.data.toList.take (runLen digB s))))).set 3 (.int .i64 0)
            have r0 := R.cell 0 rfl
            have r1 := R.cell 1 rfl
            have r2 := R.cell 2 rfl
            have r3 := R.cell 3 rfl
            refine bodyPost_ret (v := .tuple #[.agg #[.int .i64 2, .string ⟨#[]⟩, .int .i64 (numVal (s.data.toList.take (runLen digB s))), .int .i64 0], .int .i64 (runLen digB s), .bool true]) (by simp [results, Tryz.results88, go_sem, r0, r1, r2, r3]) rfl ⟨rfl, ?_⟩
            exact below_setCell (below_setCell (below_setCell (below_setCell G4.out (by simp) _) (by simp) _) (by simp) _) (by simp) _
    · have HO : Hid (numOk s = true) := Lib.hid (by simp [numOk]; omega)
      clear hb
      rw [HO.out, if_pos rfl]
      go_enter Tryz.func88, Tryz.ntmps88
      go_wp2_with (first | (go_at_call 83; refine (run_dig s _ hs).mono ?_; rintro e w' ⟨rfl, rfl⟩) | (with_reducible refine wpList_bytes rfl (.tmp 27) 9 111 5 rfl Tryz.underlying9 Tryz.underlying111 Tryz.underlying5 (s.extract 0 (runLen digB s)) rfl ?_; intro c w1 hc hb hz))
      have HS : Hid (NumSt s w 0 w1) := Lib.hid (by
        refine ⟨Blk.below (Blk.newAt (by simp)) hb (by simp), ⟨_, _, _, _, Blk.below (Blk.alloc (Blk.newAt rfl) _) hb (by simp; omega)⟩, fun j hj => ?_, ?_⟩
        · rw [← extract_bt s _ j hj hr]
          have := hc j (by rw [extract_size s _ hr]; exact hj)
          simpa using this
        · exact Below.trans (by repeat (first | exact Below.refl _ _ | refine Below.drew ?_ | refine Below.alloc ?_ (by simp <;> omega) _)) (hb.mono (by simp; omega)))
      clear hc hb hz
      go_loopw [8, 30] (fun _ i W => ∃ k : Nat, k ≤ runLen digB s ∧ i = .int .i64 k ∧ Hid (NumSt s w k W)) (fun _ i _ => runLen digB s - (intOf i).toNat)
      case atStart => exact ⟨0, Nat.zero_le _, rfl, HS⟩
      case round =>
        obtain ⟨k, hk, rfl, hst⟩ := hrel
        by_cases hlt : k < runLen digB s
        · obtain ⟨hv0, hv1⟩ := numVal_le s k hk (by omega)
          obtain ⟨hd0, hd1⟩ := run_digit s k hlt
          have hts := Lib.hid (take_snoc s k (by omega))
          obtain ⟨g1, ⟨x, y, z, u, g2⟩, g3, g4⟩ := hst.out
          have HG := Lib.hid (hst.out.step hlt)
          have c0 := g1.cell 2 rfl
          have f0 := g1.free 2
          have b0 := g3 k hlt
          clear g1 g2 g3 g4 hst
          go_wp2
          go_roundw
          case rel => exact ⟨k + 1, hlt, by go_num, HG⟩
          case measure => simp [intOf]; omega
        · obtain rfl : k = runLen digB s := by omega
          obtain ⟨g1, ⟨x, y, z, u, g2⟩, g3, g4⟩ := hst.out
          have c0 := g1.cell 0 rfl
          have c1 := g1.cell 1 rfl
          have c2 := g1.cell 2 rfl
          have c3 := g1.cell 3 rfl
          have d0 := g2.cell 0 rfl
          have d1 := g2.cell 1 rfl
          have d2 := g2.cell 2 rfl
          have d3 := g2.cell 3 rfl
          have e0 := g2.free 0
          have e1 := g2.free 1
          have e2 := g2.free 2
          have e3 := g2.free 3
          have G4 := Lib.hid g4
          have G2 := Lib.hid g2
          clear g1 g2 g3 g4 hst
          go_wp2
          have R := (((G2.out.set 0 (.int .i64 2)).set 1 (.string ⟨#[]⟩)).set 2 (.int .i64 (numVal (s.data.toList.take (runLen digB s))))).set 3 (.int .i64 0)
          have r0 := R.cell 0 rfl
          have r1 := R.cell 1 rfl
          have r2 := R.cell 2 rfl
          have r3 := R.cell 3 rfl
          refine bodyPost_ret (v := .tuple #[.agg #[.int .i64 2, .string ⟨#[]⟩, .int .i64 (numVal (s.data.toList.take (runLen digB s))), .int .i64 0], .int .i64 (runLen digB s), .bool true]) (by simp [results, Tryz.results88, go_sem, r0, r1, r2, r3]) rfl ⟨rfl, ?_⟩
          exact below_setCell (below_setCell (below_setCell (below_setCell G4.out (by simp) _) (by simp) _) (by simp) _) (by simp) _
end Go.Proofs.YtopmnpkjhaabcaaGreatDoor
