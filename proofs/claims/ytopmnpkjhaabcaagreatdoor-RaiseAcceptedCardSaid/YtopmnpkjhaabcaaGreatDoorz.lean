/- taskmasterref4.one, where a letter stands, and Name walked. -/
import Derived.Test.YtopmnpkjhaabcaaGreatDoory
set_option linter.unusedVariables false
set_option linter.unusedSimpArgs false
namespace Go.Proofs.YtopmnpkjhaabcaaGreatDoor
open Go.RowKit

def oneK (s : ByteArray) : Int := if isWord (nameText s) then 3 else if 12 < runLen moreB s then 0 else 1
def oneT (s : ByteArray) : ByteArray := if isWord (nameText s) then nameText s else if 12 < runLen moreB s then emptyS else nameText s
def oneN (s : ByteArray) : Int := if isWord (nameText s) then runLen moreB s else if 12 < runLen moreB s then 0 else runLen moreB s
theorem run_stop {p : Int → Bool} {s : ByteArray} {k : Nat} (hk : k ≤ runLen p s) (hlt : k < s.size) : (p (bt s k) = true → k + 1 ≤ runLen p s) ∧ (p (bt s k) = false → runLen p s = k) := by
  have hh := runL_drop p s.data.toList k hk
  have h2 := runL_head p (s.data.toList.drop k) (by rw [List.length_drop, blen]; omega)
  rw [List.getD_eq_getElem?_getD, List.getElem?_drop, ← List.getD_eq_getElem?_getD, Nat.add_zero] at h2
  change _ = if p (bt s k) = true then _ else _ at h2
  constructor
  · intro hp
    rw [hp] at h2
    show _ ≤ runL p _
    rw [hh, h2]; simp
  · intro hp
    rw [hp] at h2
    show runL p _ = k
    rw [hh, h2]; simp
set_option maxRecDepth 100000 in
set_option maxHeartbeats 1000000 in
theorem one_any (s : ByteArray) (w : World) (hs : s.size ≤ 140737488351232) (h0 : 0 < s.size) (hl0 : letB (bt s 0) = true) :
    Calls Tryz.prog 46 #[.string s] w fun e w' => e = .returned (.tuple #[.agg #[.int .i64 (oneK s), .string (oneT s), .int .i64 0, .int .i64 0], .int .i64 (oneN s)]) ∧ Below w.heap.size w w' := by
  have hb0 := bt_at s 0 h0
  have hrange : 97 ≤ bt s 0 ∧ bt s 0 ≤ 122 := by simpa [letB] using hl0
  have HL0 := Lib.hid hl0
  have HD0 : Hid (digB (bt s 0) = false) := Lib.hid (by simp [digB]; omega)
  have k59 : (bt s 0 == 59) = false := by simp; omega
  have hrl := runLen_le moreB s
  have HT : Hid (nameText s = s.extract 0 (runLen moreB s)) := Lib.hid rfl
  clear hl0
  go_enter Tryz.func46, Tryz.ntmps46
  go_wp2_with (first
    | (go_at_call 59; refine (rdigit_any _ _).mono ?_; rintro e w' ⟨rfl, rfl⟩; rw [HD0.out])
    | (go_at_call 45; refine (small_any _ _).mono ?_; rintro e w' ⟨rfl, rfl⟩; rw [HL0.out]))
  go_loop [4] (fun n => ∃ k : Nat, k ≤ runLen moreB s ∧ n = .int .i64 k) (fun n => s.size - (intOf n).toNat)
  case atStart => exact ⟨0, Nat.zero_le _, rfl⟩
  case round =>
    obtain ⟨k, hk, rfl⟩ := hrel
    by_cases hlt : k < s.size
    · have hbk := bt_at s k hlt
      obtain ⟨r1, r2⟩ := run_stop hk hlt
      cases hL : letB (bt s k)
      · cases hD : digB (bt s k)
        · by_cases h95 : bt s k = 95
          · have k95 : (bt s k == 95) = true := by simp [h95]
            have HN := r1 (by simp [moreB, hL, hD, h95])
            have HL := Lib.hid hL
            have HD := Lib.hid hD
            clear hL hD r1 r2 h95
            go_wp2_with (first
                          | (go_at_call 45; refine (small_any _ _).mono ?_; rintro e w' ⟨rfl, rfl⟩; rw [HL.out])
                          | (go_at_call 59; refine (rdigit_any _ _).mono ?_; rintro e w' ⟨rfl, rfl⟩; rw [HD.out])
                          | (go_at_call 60; refine (word_any _ _).mono ?_; rintro e w1 ⟨rfl, hb1⟩; rw [HWD.out]; have HX := Lib.hid (Blk.kept (Blk.newAt (W := w) (n := w.heap.size) (cs := [.int .i64 0, .string ⟨#[]⟩, .int .i64 0, .int .i64 0]) (t := 66) rfl) hb1); have HBE := Lib.hid (below_tr (Below.alloc (Below.refl w.heap.size w) (Nat.le_refl _) _) hb1); have x0 := HX.out.cell 0 rfl; have x1 := HX.out.cell 1 rfl; have x2 := HX.out.cell 2 rfl; have x3 := HX.out.cell 3 rfl; have y0 := HX.out.free 0; have y1 := HX.out.free 1; have y2 := HX.out.free 2; have y3 := HX.out.free 3))
            go_round
            case rel => exact ⟨k + 1, HN, by go_num⟩
            case measure => simp [intOf]; omega
          · have k95 : (bt s k == 95) = false := by simp [h95]
            have HR : runLen moreB s = k := r2 (by simp [moreB, hL, hD, h95])
            have HL := Lib.hid hL
            have HD := Lib.hid hD
            clear hL hD r1 r2 h95
            cases hwd : isWord (s.extract 0 k)
            · have HWD := Lib.hid hwd
              by_cases h12 : 12 < k
              · have HK : Hid (oneK s = 0 ∧ oneT s = emptyS ∧ oneN s = 0) := Lib.hid (by unfold oneK oneT oneN nameText; rw [HR, hwd]; simp [h12])
                clear hwd HR
                go_wp2_with (first
                              | (go_at_call 45; refine (small_any _ _).mono ?_; rintro e w' ⟨rfl, rfl⟩; rw [HL.out])
                              | (go_at_call 59; refine (rdigit_any _ _).mono ?_; rintro e w' ⟨rfl, rfl⟩; rw [HD.out])
                              | (go_at_call 60; refine (word_any _ _).mono ?_; rintro e w1 ⟨rfl, hb1⟩; rw [HWD.out]; have HX := Lib.hid (Blk.kept (Blk.newAt (W := w) (n := w.heap.size) (cs := [.int .i64 0, .string ⟨#[]⟩, .int .i64 0, .int .i64 0]) (t := 66) rfl) hb1); have HBE := Lib.hid (below_tr (Below.alloc (Below.refl w.heap.size w) (Nat.le_refl _) _) hb1); have x0 := HX.out.cell 0 rfl; have x1 := HX.out.cell 1 rfl; have x2 := HX.out.cell 2 rfl; have x3 := HX.out.cell 3 rfl; have y0 := HX.out.free 0; have y1 := HX.out.free 1; have y2 := HX.out.free 2; have y3 := HX.out.free 3))
                have HY := Lib.hid ((((HX.out.set 0 (.int .i64 0)).set 1 (.string (⟨#[]⟩))).set 2 (.int .i64 0)).set 3 (.int .i64 0))
                have r0 := HY.out.cell 0 rfl
                have r1 := HY.out.cell 1 rfl
                have r2 := HY.out.cell 2 rfl
                have r3 := HY.out.cell 3 rfl
                refine bodyPost_ret (v := .tuple #[.agg #[.int .i64 0, .string (⟨#[]⟩), .int .i64 0, .int .i64 0], .int .i64 0]) (by simp [results, Tryz.results46, go_sem, r0, r1, r2, r3]) rfl ⟨?_, ?_⟩
                · rw [HK.out.1, HK.out.2.1, HK.out.2.2]
                  try rfl
                · exact below_setCell (below_setCell (below_setCell (below_setCell HBE.out (Nat.le_refl _) _) (Nat.le_refl _) _) (Nat.le_refl _) _) (Nat.le_refl _) _
              · have HK : Hid (oneK s = 1 ∧ oneT s = s.extract 0 k ∧ oneN s = k) := Lib.hid (by unfold oneK oneT oneN nameText; rw [HR, hwd]; simp [h12])
                clear hwd HR
                go_wp2_with (first
                              | (go_at_call 45; refine (small_any _ _).mono ?_; rintro e w' ⟨rfl, rfl⟩; rw [HL.out])
                              | (go_at_call 59; refine (rdigit_any _ _).mono ?_; rintro e w' ⟨rfl, rfl⟩; rw [HD.out])
                              | (go_at_call 60; refine (word_any _ _).mono ?_; rintro e w1 ⟨rfl, hb1⟩; rw [HWD.out]; have HX := Lib.hid (Blk.kept (Blk.newAt (W := w) (n := w.heap.size) (cs := [.int .i64 0, .string ⟨#[]⟩, .int .i64 0, .int .i64 0]) (t := 66) rfl) hb1); have HBE := Lib.hid (below_tr (Below.alloc (Below.refl w.heap.size w) (Nat.le_refl _) _) hb1); have x0 := HX.out.cell 0 rfl; have x1 := HX.out.cell 1 rfl; have x2 := HX.out.cell 2 rfl; have x3 := HX.out.cell 3 rfl; have y0 := HX.out.free 0; have y1 := HX.out.free 1; have y2 := HX.out.free 2; have y3 := HX.out.free 3))
                have HY := Lib.hid ((((HX.out.set 0 (.int .i64 1)).set 1 (.string (s.extract 0 k))).set 2 (.int .i64 0)).set 3 (.int .i64 0))
                have r0 := HY.out.cell 0 rfl
                have r1 := HY.out.cell 1 rfl
                have r2 := HY.out.cell 2 rfl
                have r3 := HY.out.cell 3 rfl
                refine bodyPost_ret (v := .tuple #[.agg #[.int .i64 1, .string (s.extract 0 k), .int .i64 0, .int .i64 0], .int .i64 (k : Int)]) (by simp [results, Tryz.results46, go_sem, r0, r1, r2, r3]) rfl ⟨?_, ?_⟩
                · rw [HK.out.1, HK.out.2.1, HK.out.2.2]
                  try rfl
                · exact below_setCell (below_setCell (below_setCell (below_setCell HBE.out (Nat.le_refl _) _) (Nat.le_refl _) _) (Nat.le_refl _) _) (Nat.le_refl _) _
            · have HWD := Lib.hid hwd
              have HK : Hid (oneK s = 3 ∧ oneT s = s.extract 0 k ∧ oneN s = k) := Lib.hid (by unfold oneK oneT oneN nameText; rw [HR, hwd]; simp)
              clear hwd HR
              go_wp2_with (first
                            | (go_at_call 45; refine (small_any _ _).mono ?_; rintro e w' ⟨rfl, rfl⟩; rw [HL.out])
                            | (go_at_call 59; refine (rdigit_any _ _).mono ?_; rintro e w' ⟨rfl, rfl⟩; rw [HD.out])
                            | (go_at_call 60; refine (word_any _ _).mono ?_; rintro e w1 ⟨rfl, hb1⟩; rw [HWD.out]; have HX := Lib.hid (Blk.kept (Blk.newAt (W := w) (n := w.heap.size) (cs := [.int .i64 0, .string ⟨#[]⟩, .int .i64 0, .int .i64 0]) (t := 66) rfl) hb1); have HBE := Lib.hid (below_tr (Below.alloc (Below.refl w.heap.size w) (Nat.le_refl _) _) hb1); have x0 := HX.out.cell 0 rfl; have x1 := HX.out.cell 1 rfl; have x2 := HX.out.cell 2 rfl; have x3 := HX.out.cell 3 rfl; have y0 := HX.out.free 0; have y1 := HX.out.free 1; have y2 := HX.out.free 2; have y3 := HX.out.free 3))
              have HY := Lib.hid ((((HX.out.set 0 (.int .i64 3)).set 1 (.string (s.extract 0 k))).set 2 (.int .i64 0)).set 3 (.int .i64 0))
              have r0 := HY.out.cell 0 rfl
              have r1 := HY.out.cell 1 rfl
              have r2 := HY.out.cell 2 rfl
              have r3 := HY.out.cell 3 rfl
              refine bodyPost_ret (v := .tuple #[.agg #[.int .i64 3, .string (s.extract 0 k), .int .i64 0, .int .i64 0], .int .i64 (k : Int)]) (by simp [results, Tryz.results46, go_sem, r0, r1, r2, r3]) rfl ⟨?_, ?_⟩
              · rw [HK.out.1, HK.out.2.1, HK.out.2.2]
                try rfl
              · exact below_setCell (below_setCell (below_setCell (below_setCell HBE.out (Nat.le_refl _) _) (Nat.le_refl _) _) (Nat.le_refl _) _) (Nat.le_refl _) _
        · have HN := r1 (by simp [moreB, hD])
          have HL := Lib.hid hL
          have HD := Lib.hid hD
          clear hL hD r1 r2
          go_wp2_with (first
                        | (go_at_call 45; refine (small_any _ _).mono ?_; rintro e w' ⟨rfl, rfl⟩; rw [HL.out])
                        | (go_at_call 59; refine (rdigit_any _ _).mono ?_; rintro e w' ⟨rfl, rfl⟩; rw [HD.out])
                        | (go_at_call 60; refine (word_any _ _).mono ?_; rintro e w1 ⟨rfl, hb1⟩; rw [HWD.out]; have HX := Lib.hid (Blk.kept (Blk.newAt (W := w) (n := w.heap.size) (cs := [.int .i64 0, .string ⟨#[]⟩, .int .i64 0, .int .i64 0]) (t := 66) rfl) hb1); have HBE := Lib.hid (below_tr (Below.alloc (Below.refl w.heap.size w) (Nat.le_refl _) _) hb1); have x0 := HX.out.cell 0 rfl; have x1 := HX.out.cell 1 rfl; have x2 := HX.out.cell 2 rfl; have x3 := HX.out.cell 3 rfl; have y0 := HX.out.free 0; have y1 := HX.out.free 1; have y2 := HX.out.free 2; have y3 := HX.out.free 3))
          go_round
          case rel => exact ⟨k + 1, HN, by go_num⟩
          case measure => simp [intOf]; omega
      · have HN := r1 (by simp [moreB, hL])
        have HL := Lib.hid hL
        clear hL r1 r2
        go_wp2_with (first
                      | (go_at_call 45; refine (small_any _ _).mono ?_; rintro e w' ⟨rfl, rfl⟩; rw [HL.out])
                      | (go_at_call 59; refine (rdigit_any _ _).mono ?_; rintro e w' ⟨rfl, rfl⟩; rw [HD.out])
                      | (go_at_call 60; refine (word_any _ _).mono ?_; rintro e w1 ⟨rfl, hb1⟩; rw [HWD.out]; have HX := Lib.hid (Blk.kept (Blk.newAt (W := w) (n := w.heap.size) (cs := [.int .i64 0, .string ⟨#[]⟩, .int .i64 0, .int .i64 0]) (t := 66) rfl) hb1); have HBE := Lib.hid (below_tr (Below.alloc (Below.refl w.heap.size w) (Nat.le_refl _) _) hb1); have x0 := HX.out.cell 0 rfl; have x1 := HX.out.cell 1 rfl; have x2 := HX.out.cell 2 rfl; have x3 := HX.out.cell 3 rfl; have y0 := HX.out.free 0; have y1 := HX.out.free 1; have y2 := HX.out.free 2; have y3 := HX.out.free 3))
        go_round
        case rel => exact ⟨k + 1, HN, by go_num⟩
        case measure => simp [intOf]; omega
    · have HR : runLen moreB s = k := by omega
      cases hwd : isWord (s.extract 0 k)
      · have HWD := Lib.hid hwd
        by_cases h12 : 12 < k
        · have HK : Hid (oneK s = 0 ∧ oneT s = emptyS ∧ oneN s = 0) := Lib.hid (by unfold oneK oneT oneN nameText; rw [HR, hwd]; simp [h12])
          clear hwd HR
          go_wp2_with (first
                        | (go_at_call 45; refine (small_any _ _).mono ?_; rintro e w' ⟨rfl, rfl⟩; rw [HL.out])
                        | (go_at_call 59; refine (rdigit_any _ _).mono ?_; rintro e w' ⟨rfl, rfl⟩; rw [HD.out])
                        | (go_at_call 60; refine (word_any _ _).mono ?_; rintro e w1 ⟨rfl, hb1⟩; rw [HWD.out]; have HX := Lib.hid (Blk.kept (Blk.newAt (W := w) (n := w.heap.size) (cs := [.int .i64 0, .string ⟨#[]⟩, .int .i64 0, .int .i64 0]) (t := 66) rfl) hb1); have HBE := Lib.hid (below_tr (Below.alloc (Below.refl w.heap.size w) (Nat.le_refl _) _) hb1); have x0 := HX.out.cell 0 rfl; have x1 := HX.out.cell 1 rfl; have x2 := HX.out.cell 2 rfl; have x3 := HX.out.cell 3 rfl; have y0 := HX.out.free 0; have y1 := HX.out.free 1; have y2 := HX.out.free 2; have y3 := HX.out.free 3))
          have HY := Lib.hid ((((HX.out.set 0 (.int .i64 0)).set 1 (.string (⟨#[]⟩))).set 2 (.int .i64 0)).set 3 (.int .i64 0))
          have r0 := HY.out.cell 0 rfl
          have r1 := HY.out.cell 1 rfl
          have r2 := HY.out.cell 2 rfl
          have r3 := HY.out.cell 3 rfl
          refine bodyPost_ret (v := .tuple #[.agg #[.int .i64 0, .string (⟨#[]⟩), .int .i64 0, .int .i64 0], .int .i64 0]) (by simp [results, Tryz.results46, go_sem, r0, r1, r2, r3]) rfl ⟨?_, ?_⟩
          · rw [HK.out.1, HK.out.2.1, HK.out.2.2]
            try rfl
          · exact below_setCell (below_setCell (below_setCell (below_setCell HBE.out (Nat.le_refl _) _) (Nat.le_refl _) _) (Nat.le_refl _) _) (Nat.le_refl _) _
        · have HK : Hid (oneK s = 1 ∧ oneT s = s.extract 0 k ∧ oneN s = k) := Lib.hid (by unfold oneK oneT oneN nameText; rw [HR, hwd]; simp [h12])
          clear hwd HR
          go_wp2_with (first
                        | (go_at_call 45; refine (small_any _ _).mono ?_; rintro e w' ⟨rfl, rfl⟩; rw [HL.out])
                        | (go_at_call 59; refine (rdigit_any _ _).mono ?_; rintro e w' ⟨rfl, rfl⟩; rw [HD.out])
                        | (go_at_call 60; refine (word_any _ _).mono ?_; rintro e w1 ⟨rfl, hb1⟩; rw [HWD.out]; have HX := Lib.hid (Blk.kept (Blk.newAt (W := w) (n := w.heap.size) (cs := [.int .i64 0, .string ⟨#[]⟩, .int .i64 0, .int .i64 0]) (t := 66) rfl) hb1); have HBE := Lib.hid (below_tr (Below.alloc (Below.refl w.heap.size w) (Nat.le_refl _) _) hb1); have x0 := HX.out.cell 0 rfl; have x1 := HX.out.cell 1 rfl; have x2 := HX.out.cell 2 rfl; have x3 := HX.out.cell 3 rfl; have y0 := HX.out.free 0; have y1 := HX.out.free 1; have y2 := HX.out.free 2; have y3 := HX.out.free 3))
          have HY := Lib.hid ((((HX.out.set 0 (.int .i64 1)).set 1 (.string (s.extract 0 k))).set 2 (.int .i64 0)).set 3 (.int .i64 0))
          have r0 := HY.out.cell 0 rfl
          have r1 := HY.out.cell 1 rfl
          have r2 := HY.out.cell 2 rfl
          have r3 := HY.out.cell 3 rfl
          refine bodyPost_ret (v := .tuple #[.agg #[.int .i64 1, .string (s.extract 0 k), .int .i64 0, .int .i64 0], .int .i64 (k : Int)]) (by simp [results, Tryz.results46, go_sem, r0, r1, r2, r3]) rfl ⟨?_, ?_⟩
          · rw [HK.out.1, HK.out.2.1, HK.out.2.2]
            try rfl
          · exact below_setCell (below_setCell (below_setCell (below_setCell HBE.out (Nat.le_refl _) _) (Nat.le_refl _) _) (Nat.le_refl _) _) (Nat.le_refl _) _
      · have HWD := Lib.hid hwd
        have HK : Hid (oneK s = 3 ∧ oneT s = s.extract 0 k ∧ oneN s = k) := Lib.hid (by unfold oneK oneT oneN nameText; rw [HR, hwd]; simp)
        clear hwd HR
        go_wp2_with (first
                      | (go_at_call 45; refine (small_any _ _).mono ?_; rintro e w' ⟨rfl, rfl⟩; rw [HL.out])
                      | (go_at_call 59; refine (rdigit_any _ _).mono ?_; rintro e w' ⟨rfl, rfl⟩; rw [HD.out])
                      | (go_at_call 60; refine (word_any _ _).mono ?_; rintro e w1 ⟨rfl, hb1⟩; rw [HWD.out]; have HX := Lib.hid (Blk.kept (Blk.newAt (W := w) (n := w.heap.size) (cs := [.int .i64 0, .string ⟨#[]⟩, .int .i64 0, .int .i64 0]) (t := 66) rfl) hb1); have HBE := Lib.hid (below_tr (Below.alloc (Below.refl w.heap.size w) (Nat.le_refl _) _) hb1); have x0 := HX.out.cell 0 rfl; have x1 := HX.out.cell 1 rfl; have x2 := HX.out.cell 2 rfl; have x3 := HX.out.cell 3 rfl; have y0 := HX.out.free 0; have y1 := HX.out.free 1; have y2 := HX.out.free 2; have y3 := HX.out.free 3))
        have HY := Lib.hid ((((HX.out.set 0 (.int .i64 3)).set 1 (.string (s.extract 0 k))).set 2 (.int .i64 0)).set 3 (.int .i64 0))
        have r0 := HY.out.cell 0 rfl
        have r1 := HY.out.cell 1 rfl
        have r2 := HY.out.cell 2 rfl
        have r3 := HY.out.cell 3 rfl
        refine bodyPost_ret (v := .tuple #[.agg #[.int .i64 3, .string (s.extract 0 k), .int .i64 0, .int .i64 0], .int .i64 (k : Int)]) (by simp [results, Tryz.results46, go_sem, r0, r1, r2, r3]) rfl ⟨?_, ?_⟩
        · rw [HK.out.1, HK.out.2.1, HK.out.2.2]
          try rfl
        · exact below_setCell (below_setCell (below_setCell (below_setCell HBE.out (Nat.le_refl _) _) (Nat.le_refl _) _) (Nat.le_refl _) _) (Nat.le_refl _) _
/-- Is it one whole name, as the document's answer asks. -/
def refName (s : ByteArray) : Bool := decide (0 < s.size) && (letB (bt s 0) && (decide (oneN s = s.size) && decide (oneK s = 1)))
theorem rname_any (s : ByteArray) (w : World) (hs : s.size ≤ 140737488351232) : Calls Tryz.prog 34 #[.string s] w fun e w' => e = .returned (.bool (refName s)) ∧ Below w.heap.size w w' := by
  by_cases h0 : 0 < s.size
  · have hb0 := bt_at s 0 h0
    have k0 : ((s.size : Int) == 0) = false := beq_eq_false_iff_ne.2 (by omega)
    cases hl : letB (bt s 0)
    · have HF : Hid (refName s = false) := Lib.hid (by simp [refName, hl])
      have HL := Lib.hid hl
      clear hl
      go_enter Tryz.func34, Tryz.ntmps34
      go_wp2_with (go_at_call 45; refine (small_any _ _).mono ?_; rintro e w' ⟨rfl, rfl⟩; rw [HL.out])
      go_ret
      exact ⟨ret_bool (by rw [HF.out]), Below.refl _ _⟩
    · have HO := Lib.hid (one_any s w hs h0 hl)
      have HF : Hid (refName s = (decide (oneN s = s.size) && decide (oneK s = 1))) := Lib.hid (by simp [refName, hl, h0])
      have HL := Lib.hid hl
      clear hl
      generalize oneK s = kk at *
      generalize oneT s = tt at *
      generalize oneN s = nn at *
      by_cases h1 : nn = s.size
      · have k1 : (nn == (s.size : Int)) = true := by simp [h1]
        have HF2 : Hid (refName s = (kk == 1)) := Lib.hid (by rw [HF.out]; simp [h1]; rfl)
        clear h1
        go_enter Tryz.func34, Tryz.ntmps34
        go_wp2_with (first | (go_at_call 45; refine (small_any _ _).mono ?_; rintro e w' ⟨rfl, rfl⟩; rw [HL.out]) | (go_at_call 46; refine HO.out.mono ?_; rintro e w1 ⟨rfl, hb1⟩))
        go_ret
        exact ⟨ret_bool (by rw [HF2.out]), hb1.alloc hb1.size _⟩
      · have k1 : (nn == (s.size : Int)) = false := by simp [h1]
        have HF2 : Hid (refName s = false) := Lib.hid (by rw [HF.out]; simp [h1])
        clear h1
        go_enter Tryz.func34, Tryz.ntmps34
        go_wp2_with (first | (go_at_call 45; refine (small_any _ _).mono ?_; rintro e w' ⟨rfl, rfl⟩; rw [HL.out]) | (go_at_call 46; refine HO.out.mono ?_; rintro e w1 ⟨rfl, hb1⟩))
        go_ret
        exact ⟨ret_bool (by rw [HF2.out]), hb1.alloc hb1.size _⟩
  · have hz : s.size = 0 := by omega
    have k0 : ((s.size : Int) == 0) = true := by simp [hz]
    have HF : Hid (refName s = false) := Lib.hid (by simp [refName, h0])
    go_enter Tryz.func34, Tryz.ntmps34
    go_wp2
    go_ret
    exact ⟨ret_bool (by rw [HF.out]), Below.refl _ _⟩
end Go.Proofs.YtopmnpkjhaabcaaGreatDoor
