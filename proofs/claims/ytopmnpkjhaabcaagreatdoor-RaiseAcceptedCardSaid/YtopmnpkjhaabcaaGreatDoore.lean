/- lex.token walked. -/
import Derived.Test.YtopmnpkjhaabcaaGreatDoord
set_option linter.unusedVariables false
set_option linter.unusedSimpArgs false
namespace Go.Proofs.YtopmnpkjhaabcaaGreatDoor
open Go.RowKit

structure Tok where
  kind : Int
  text : ByteArray
  n : Int
  at_ : Int
def Tok.cells (t : Tok) : List Value := [.int .i64 t.kind, .string t.text, .int .i64 t.n, .int .i64 t.at_]
def emptyS : ByteArray := ⟨#[]⟩
def semiS : ByteArray := ⟨#[59]⟩
/-- The token that a text begins with, how many bytes it is, whether there is one. -/
def tokenF (s : ByteArray) : Tok × Nat × Bool :=
  if letB (bt s 0) then (⟨nameKind s, nameText s, 0, 0⟩, runLen moreB s, decide ((runLen moreB s : Int) ≤ 12))
  else if digB (bt s 0) then (⟨2, emptyS, numTok s, 0⟩, runLen digB s, numOk s)
  else if bt s 0 = 59 then (⟨3, semiS, 0, 0⟩, 1, true)
  else (⟨0, emptyS, 0, 0⟩, 0, false)
theorem prefix_semi (s : ByteArray) (h0 : 0 < s.size) : Lib.hasPrefix s.data.toList [59] = decide (bt s 0 = 59) := by
  have : 0 < s.data.toList.length := by rw [blen]; exact h0
  unfold bt Lib.hasPrefix
  cases h : s.data.toList with
  | nil => rw [h] at this; simp at this
  | cons c l =>
    simp [List.isPrefixOf]
    rw [Bool.eq_iff_iff]
    simp
    constructor
    · rintro rfl; rfl
    · intro h; exact (UInt8.toNat_inj.1 (by show 59 = c.toNat; omega))

def TokPost (s : ByteArray) (w : World) (e : Ending) (w' : World) : Prop :=
  e = .returned (.tuple #[.agg (tokenF s).1.cells.toArray, .int .i64 (tokenF s).2.1, .bool (tokenF s).2.2]) ∧ Below w.heap.size w w'

set_option maxRecDepth 100000 in
theorem token_any (s : ByteArray) (w : World) (hs : s.size ≤ 140737488351232) (h0 : 0 < s.size) (hT : SpaceTab w) : Calls Tryz.prog 74 #[.string s] w (TokPost s w) := by
  have hb := bt_at s 0 h0
  cases h1 : letB (bt s 0)
  · cases h2 : digB (bt s 0)
    · by_cases h3 : bt s 0 = 59
      · have HO : Hid (tokenF s = (⟨3, semiS, 0, 0⟩, 1, true)) := Lib.hid (by unfold tokenF; rw [h1, h2, if_neg (by simp), if_neg (by simp), if_pos h3])
        have H3 : Hid (Lib.hasPrefix s.data.toList [59] = true) := Lib.hid (by rw [prefix_semi s h0]; simp [h3])
        have H1 := Lib.hid h1
        have H2 := Lib.hid h2
        clear h1 h2 h3
        go_enter Tryz.func74, Tryz.ntmps74
        go_wp2_with (first | (go_at_call 85; refine (isLetter_any _ _).mono ?_; rintro e w' ⟨rfl, rfl⟩; rw [H1.out]) | (go_at_call 87; refine (isDigit_any _ _).mono ?_; rintro e w' ⟨rfl, rfl⟩; rw [H2.out]) | (go_at_call 86; refine (name_any s _ hs ?_).mono ?_; (exact hT.below (by repeat (first | exact Below.refl _ _ | refine Below.drew ?_ | refine Below.alloc ?_ (by simp <;> omega) _))); rintro e w1 ⟨rfl, hb1⟩; have B1 := (Blk.newAt (W := w) (cs := [.int .i64 0, .string ⟨#[]⟩, .int .i64 0, .int .i64 0]) (t := 66) rfl).kept hb1; have d0 := B1.cell 0 rfl; have d1 := B1.cell 1 rfl; have d2 := B1.cell 2 rfl; have d3 := B1.cell 3 rfl; have e0 := B1.free 0; have e1 := B1.free 1; have e2 := B1.free 2; have e3 := B1.free 3; have HB := Lib.hid B1; clear B1; have HB1 := Lib.hid hb1; clear hb1) | (go_at_call 88; refine (number_any s _ hs h0).mono ?_; rintro e w1 ⟨rfl, hb1⟩; have B1 := (Blk.newAt (W := w) (cs := [.int .i64 0, .string ⟨#[]⟩, .int .i64 0, .int .i64 0]) (t := 66) rfl).kept hb1; have d0 := B1.cell 0 rfl; have d1 := B1.cell 1 rfl; have d2 := B1.cell 2 rfl; have d3 := B1.cell 3 rfl; have e0 := B1.free 0; have e1 := B1.free 1; have e2 := B1.free 2; have e3 := B1.free 3; have HB := Lib.hid B1; clear B1; have HB1 := Lib.hid hb1; clear hb1) | (go_at_call 89; refine (Tryz.strings_HasPrefix s _ _).mono ?_; rintro e w' ⟨rfl, rfl⟩; rw [H3.out]))
        refine bodyPost_ret (v := .tuple #[.agg #[.int .i64 3, .string semiS, .int .i64 0, .int .i64 0], .int .i64 1, .bool true]) ?_ rfl ⟨?_, ?_⟩
        · simp [results, Tryz.results74, go_sem, semiS]
        · rw [HO.out]; rfl
        · repeat (first | exact Below.refl _ _ | refine Below.drew ?_ | refine Below.alloc ?_ (by simp <;> omega) _)
      · have HO : Hid (tokenF s = (⟨0, emptyS, 0, 0⟩, 0, false)) := Lib.hid (by unfold tokenF; rw [h1, h2, if_neg (by simp), if_neg (by simp), if_neg h3])
        have H3 : Hid (Lib.hasPrefix s.data.toList [59] = false) := Lib.hid (by rw [prefix_semi s h0]; simp [h3])
        have H1 := Lib.hid h1
        have H2 := Lib.hid h2
        clear h1 h2 h3
        go_enter Tryz.func74, Tryz.ntmps74
        go_wp2_with (first | (go_at_call 85; refine (isLetter_any _ _).mono ?_; rintro e w' ⟨rfl, rfl⟩; rw [H1.out]) | (go_at_call 87; refine (isDigit_any _ _).mono ?_; rintro e w' ⟨rfl, rfl⟩; rw [H2.out]) | (go_at_call 86; refine (name_any s _ hs ?_).mono ?_; (exact hT.below (by repeat (first | exact Below.refl _ _ | refine Below.drew ?_ | refine Below.alloc ?_ (by simp <;> omega) _))); rintro e w1 ⟨rfl, hb1⟩; have B1 := (Blk.newAt (W := w) (cs := [.int .i64 0, .string ⟨#[]⟩, .int .i64 0, .int .i64 0]) (t := 66) rfl).kept hb1; have d0 := B1.cell 0 rfl; have d1 := B1.cell 1 rfl; have d2 := B1.cell 2 rfl; have d3 := B1.cell 3 rfl; have e0 := B1.free 0; have e1 := B1.free 1; have e2 := B1.free 2; have e3 := B1.free 3; have HB := Lib.hid B1; clear B1; have HB1 := Lib.hid hb1; clear hb1) | (go_at_call 88; refine (number_any s _ hs h0).mono ?_; rintro e w1 ⟨rfl, hb1⟩; have B1 := (Blk.newAt (W := w) (cs := [.int .i64 0, .string ⟨#[]⟩, .int .i64 0, .int .i64 0]) (t := 66) rfl).kept hb1; have d0 := B1.cell 0 rfl; have d1 := B1.cell 1 rfl; have d2 := B1.cell 2 rfl; have d3 := B1.cell 3 rfl; have e0 := B1.free 0; have e1 := B1.free 1; have e2 := B1.free 2; have e3 := B1.free 3; have HB := Lib.hid B1; clear B1; have HB1 := Lib.hid hb1; clear hb1) | (go_at_call 89; refine (Tryz.strings_HasPrefix s _ _).mono ?_; rintro e w' ⟨rfl, rfl⟩; rw [H3.out]))
        refine bodyPost_ret (v := .tuple #[.agg #[.int .i64 0, .string emptyS, .int .i64 0, .int .i64 0], .int .i64 0, .bool false]) ?_ rfl ⟨?_, ?_⟩
        · simp [results, Tryz.results74, go_sem, emptyS]
        · rw [HO.out]; rfl
        · repeat (first | exact Below.refl _ _ | refine Below.drew ?_ | refine Below.alloc ?_ (by simp <;> omega) _)
    · have HO : Hid (tokenF s = (⟨2, emptyS, numTok s, 0⟩, runLen digB s, numOk s)) := Lib.hid (by unfold tokenF; rw [h1, h2, if_neg (by simp), if_pos rfl])
      have H1 := Lib.hid h1
      have H2 := Lib.hid h2
      clear h1 h2
      go_enter Tryz.func74, Tryz.ntmps74
      go_wp2_with (first | (go_at_call 85; refine (isLetter_any _ _).mono ?_; rintro e w' ⟨rfl, rfl⟩; rw [H1.out]) | (go_at_call 87; refine (isDigit_any _ _).mono ?_; rintro e w' ⟨rfl, rfl⟩; rw [H2.out]) | (go_at_call 86; refine (name_any s _ hs ?_).mono ?_; (exact hT.below (by repeat (first | exact Below.refl _ _ | refine Below.drew ?_ | refine Below.alloc ?_ (by simp <;> omega) _))); rintro e w1 ⟨rfl, hb1⟩; have B1 := (Blk.newAt (W := w) (cs := [.int .i64 0, .string ⟨#[]⟩, .int .i64 0, .int .i64 0]) (t := 66) rfl).kept hb1; have d0 := B1.cell 0 rfl; have d1 := B1.cell 1 rfl; have d2 := B1.cell 2 rfl; have d3 := B1.cell 3 rfl; have e0 := B1.free 0; have e1 := B1.free 1; have e2 := B1.free 2; have e3 := B1.free 3; have HB := Lib.hid B1; clear B1; have HB1 := Lib.hid hb1; clear hb1) | (go_at_call 88; refine (number_any s _ hs h0).mono ?_; rintro e w1 ⟨rfl, hb1⟩; have B1 := (Blk.newAt (W := w) (cs := [.int .i64 0, .string ⟨#[]⟩, .int .i64 0, .int .i64 0]) (t := 66) rfl).kept hb1; have d0 := B1.cell 0 rfl; have d1 := B1.cell 1 rfl; have d2 := B1.cell 2 rfl; have d3 := B1.cell 3 rfl; have e0 := B1.free 0; have e1 := B1.free 1; have e2 := B1.free 2; have e3 := B1.free 3; have HB := Lib.hid B1; clear B1; have HB1 := Lib.hid hb1; clear hb1) | (go_at_call 89; refine (Tryz.strings_HasPrefix s _ _).mono ?_; rintro e w' ⟨rfl, rfl⟩; rw [H3.out]))
      have R := (((HB.out.set 0 (.int .i64 2)).set 1 (.string ⟨#[]⟩)).set 2 (.int .i64 (numTok s))).set 3 (.int .i64 0)
      have r0 := R.cell 0 rfl
      have r1 := R.cell 1 rfl
      have r2 := R.cell 2 rfl
      have r3 := R.cell 3 rfl
      refine bodyPost_ret (v := .tuple #[.agg #[.int .i64 2, .string emptyS, .int .i64 (numTok s), .int .i64 0], .int .i64 (runLen digB s), .bool (numOk s)]) ?_ rfl ⟨?_, ?_⟩
      · simp [results, Tryz.results74, go_sem, r0, r1, r2, r3, emptyS]
      · rw [HO.out]; rfl
      · exact below_setCell (below_setCell (below_setCell (below_setCell (below_tr ((Below.refl _ _).alloc (Nat.le_refl _) _) HB1.out) (by simp) _) (by simp) _) (by simp) _) (by simp) _
  · have H1 := Lib.hid h1
    have HO : Hid (tokenF s = (⟨nameKind s, nameText s, 0, 0⟩, runLen moreB s, decide ((runLen moreB s : Int) ≤ 12))) := Lib.hid (by unfold tokenF; rw [h1, if_pos rfl])
    clear h1
    go_enter Tryz.func74, Tryz.ntmps74
    go_wp2_with (first | (go_at_call 85; refine (isLetter_any _ _).mono ?_; rintro e w' ⟨rfl, rfl⟩; rw [H1.out]) | (go_at_call 87; refine (isDigit_any _ _).mono ?_; rintro e w' ⟨rfl, rfl⟩; rw [H2.out]) | (go_at_call 86; refine (name_any s _ hs ?_).mono ?_; (exact hT.below (by repeat (first | exact Below.refl _ _ | refine Below.drew ?_ | refine Below.alloc ?_ (by simp <;> omega) _))); rintro e w1 ⟨rfl, hb1⟩; have B1 := (Blk.newAt (W := w) (cs := [.int .i64 0, .string ⟨#[]⟩, .int .i64 0, .int .i64 0]) (t := 66) rfl).kept hb1; have d0 := B1.cell 0 rfl; have d1 := B1.cell 1 rfl; have d2 := B1.cell 2 rfl; have d3 := B1.cell 3 rfl; have e0 := B1.free 0; have e1 := B1.free 1; have e2 := B1.free 2; have e3 := B1.free 3; have HB := Lib.hid B1; clear B1; have HB1 := Lib.hid hb1; clear hb1) | (go_at_call 88; refine (number_any s _ hs h0).mono ?_; rintro e w1 ⟨rfl, hb1⟩; have B1 := (Blk.newAt (W := w) (cs := [.int .i64 0, .string ⟨#[]⟩, .int .i64 0, .int .i64 0]) (t := 66) rfl).kept hb1; have d0 := B1.cell 0 rfl; have d1 := B1.cell 1 rfl; have d2 := B1.cell 2 rfl; have d3 := B1.cell 3 rfl; have e0 := B1.free 0; have e1 := B1.free 1; have e2 := B1.free 2; have e3 := B1.free 3; have HB := Lib.hid B1; clear B1; have HB1 := Lib.hid hb1; clear hb1) | (go_at_call 89; refine (Tryz.strings_HasPrefix s _ _).mono ?_; rintro e w' ⟨rfl, rfl⟩; rw [H3.out]))
    have R := (((HB.out.set 0 (.int .i64 (nameKind s))).set 1 (.string (nameText s))).set 2 (.int .i64 0)).set 3 (.int .i64 0)
    have r0 := R.cell 0 rfl
    have r1 := R.cell 1 rfl
    have r2 := R.cell 2 rfl
    have r3 := R.cell 3 rfl
    refine bodyPost_ret (v := .tuple #[.agg #[.int .i64 (nameKind s), .string (nameText s), .int .i64 0, .int .i64 0], .int .i64 (runLen moreB s), .bool (decide ((runLen moreB s : Int) ≤ 12))]) ?_ rfl ⟨?_, ?_⟩
    · simp [results, Tryz.results74, go_sem, r0, r1, r2, r3]
    · rw [HO.out]; rfl
    · exact below_setCell (below_setCell (below_setCell (below_setCell (below_tr ((Below.refl _ _).alloc (Nat.le_refl _) _) HB1.out) (by simp) _) (by simp) _) (by simp) _) (by simp) _
end Go.Proofs.YtopmnpkjhaabcaaGreatDoor
