/- taskmasterref5.Same walked. -/
import Derived.Test.YtopmnpkjhaabcaaGreatDoorAc
import Derived.BigRegion
import Derived.Deep.DeepCutAuto
set_option linter.unusedVariables false
set_option linter.unusedSimpArgs false
namespace Go.Proofs.YtopmnpkjhaabcaaGreatDoor
open Go.RowKit

/-- Are two sets one. -/
noncomputable def sameB (reload reload' : Int) (ts ts' : List Task) : Bool := @decide (reload = reload' ∧ ts = ts') (Classical.propDecidable _)
theorem sameB_yes {reload reload' : Int} {ts ts' : List Task} (h1 : reload = reload') (h2 : ts = ts') : sameB reload reload' ts ts' = true := @decide_eq_true _ (Classical.propDecidable _) ⟨h1, h2⟩
theorem sameB_no {reload reload' : Int} {ts ts' : List Task} (h : ¬ (reload = reload' ∧ ts = ts')) : sameB reload reload' ts ts' = false := @decide_eq_false _ (Classical.propDecidable _) h
theorem list_eq {ts ts' : List Task} (h : ts.length = ts'.length) (h2 : ∀ j, j < ts.length → gT ts j = gT ts' j) : ts = ts' := by
  refine List.ext_getElem h fun j h3 h4 => ?_
  have := h2 j h3
  rw [gT_at h3, gT_at h4] at this
  exact this
/-- Two boxes of sets, and what is old stays. -/
def SameSt (reload reload' : Int) (vs vs' : Value) (w W : World) : Prop :=
  Blk W w.heap.size [.int .i64 reload, vs] 24 ∧ Blk W (w.heap.size + 1) [.int .i64 reload', vs'] 24 ∧ Below w.heap.size w W
theorem SameSt.kept {reload reload' : Int} {vs vs' : Value} {w W W' : World} (h : SameSt reload reload' vs vs' w W) (hb : Below W.heap.size W W') : SameSt reload reload' vs vs' w W' := ⟨h.1.kept hb, h.2.1.kept hb, below_tr h.2.2 hb⟩
structure TwoSt (reload reload' : Int) (vs vs' : Value) (w : World) (x : Task) (vx : Value) (y : Task) (vy : Value) (p q : Nat) (W : World) : Prop where
  st : SameSt reload reload' vs vs' w W
  bx : Blk W p (x.cells vx) 41
  byy : Blk W q (y.cells vy) 41
  rx : RdI W vx x.regs
  ry : RdI W vy y.regs
theorem ne_str {a b : ByteArray} (h : a = b) : (a.toList != b.toList) = false := by simp [h]
theorem ne_str' {a b : ByteArray} (h : ¬ a = b) : (a.toList != b.toList) = true := by
  have := str_eq a b
  simp only [h, decide_false] at this
  simp [bne, this]
theorem ne_int {a b : Int} (h : a = b) : (a != b) = false := by simp [h]
theorem ne_int' {a b : Int} (h : ¬ a = b) : (a != b) = true := by simp [h]
theorem task_eq {x y : Task} (h0 : x.name = y.name) (h1 : x.T = y.T) (h2 : x.D = y.D) (h3 : x.mode = y.mode) (h4 : x.Q = y.Q) (h5 : x.theta = y.theta) (h6 : x.regs = y.regs) (h7 : x.ecb = y.ecb) (h8 : x.ucb = y.ucb) : x = y := by
  cases x; cases y; simp_all
set_option maxRecDepth 100000 in
set_option maxHeartbeats 8000000 in
theorem rsame_any (reload reload' : Int) (vs vs' : Value) (ts ts' : List Task) (w : World) (hv : RdT w vs ts) (hv' : RdT w vs' ts') :
    Calls Tryz.prog 12 #[.agg #[.int .i64 reload, vs], .agg #[.int .i64 reload', vs']] w fun e w' => e = .returned (.bool (sameB reload reload' ts ts')) ∧ Below w.heap.size w w' := by
  obtain ⟨A, c, rfl, hle, hat⟩ := hv.at
  obtain ⟨A', c', rfl, hle', hat'⟩ := hv'.at
  have HAT := Lib.hid hat
  have HAT' := Lib.hid hat'
  clear hat hat' hv hv'
  by_cases h1 : reload = reload'
  · have k1 : (reload != reload') = false := by simp [h1]
    by_cases h2 : ts.length = ts'.length
    · have k2 : ((ts.length : Int) != (ts'.length : Int)) = false := by simp [h2]
      have HL := Lib.hid h2
      have HL1 := Lib.hid h1
      have hll : ts'.length ≤ ts.length := by omega
      have hll2 : ts.length ≤ ts'.length := by omega
      clear h1 h2
      go_enter Tryz.func12, Tryz.ntmps12
      go_wp2
      go_loopw [5] (fun i W => ∃ k : Nat, k ≤ ts.length ∧ i = .int .i64 k ∧ Hid (∀ j, j < k → gT ts j = gT ts' j) ∧ Hid (SameSt reload reload' (.slice A ts.length c) (.slice A' ts'.length c') w W)) (fun i _ => ts.length - (intOf i).toNat)
      case atStart => exact ⟨0, Nat.zero_le _, rfl, Lib.hid (fun j hj => by omega), Lib.hid ⟨(Blk.newAt rfl).alloc _, Blk.newAt (by simp), (by repeat (first | exact Below.refl _ _ | refine Below.drew ?_ | refine Below.alloc ?_ (by simp <;> omega) _))⟩⟩
      case round =>
        obtain ⟨k, hk, rfl, HALL, HST⟩ := hrel
        have b1 := HST.out.1.cell 1 rfl
        have b2 := HST.out.2.1.cell 1 rfl
        by_cases hlt : k < ts.length
        · obtain ⟨b, o, vr, rfl, hr, hcell⟩ := HAT.out k hlt
          obtain ⟨b', o', vr', rfl, hr', hcell'⟩ := HAT'.out k (by omega)
          obtain ⟨Ar, cr, rfl, -⟩ := id hr
          obtain ⟨Ar', cr', rfl, -⟩ := id hr'
          have hcell2 := fun j u hu => cell_kept HST.out.2.2 (hcell j u hu)
          obtain ⟨c0, c1, c2, c3, c4, c5, c6, c7, c8⟩ := task_cells hcell2
          have hcell2' := fun j u hu => cell_kept HST.out.2.2 (hcell' j u hu)
          obtain ⟨d0, d1, d2, d3, d4, d5, d6, d7, d8⟩ := task_cells hcell2'
          have HC := Lib.hid (hr.kept CInt.mono HST.out.2.2)
          have HC' := Lib.hid (hr'.kept CInt.mono HST.out.2.2)
          clear hcell hcell2 hr hcell' hcell2' hr'
          have hi1 : (k : Int) < (ts.length : Int) := by omega
          have hi2 : (k : Int) < (ts'.length : Int) := by omega
          have z1 := World.block_lt_of_cell? _ _ c0
          have z2 := World.block_lt_of_cell? _ _ d0
          simp only at z1 z2
          have z3 : b < wr.heap.size + 1 := by omega
          have z4 : b' < wr.heap.size + 1 := by omega
          have z5 : w.heap.size + 1 < wr.heap.size := HST.out.2.1.lt
          have z6 : w.heap.size < wr.heap.size := HST.out.1.lt
          have z7 : w.heap.size < wr.heap.size + 1 := by omega
          have z8 : w.heap.size + 1 < wr.heap.size + 1 := by omega
          have HNO : Hid (¬ gT ts k = gT ts' k → sameB reload reload' ts ts' = false) := Lib.hid (fun h => sameB_no (fun hh => h (by rw [hh.2])))
          have HNEXT : Hid (gT ts k = gT ts' k → ∀ j, j < k + 1 → gT ts j = gT ts' j) := Lib.hid (fun h j hj => by
            by_cases hjk : j = k
            · subst hjk; exact h
            · exact HALL.out j (by omega))
          generalize gT ts k = x at *
          generalize gT ts' k = y at *
          go_upto_region 6 with (fail)
          go_cut [6, 7] (fun s6 s7 W => ∃ p q : Nat, s6 = .pointer (some ⟨p, 0, none⟩) ∧ s7 = .pointer (some ⟨q, 0, none⟩) ∧ Hid (TwoSt reload reload' (.slice (some ⟨b, o, none⟩) ts.length c) (.slice (some ⟨b', o', none⟩) ts'.length c') w x (.slice Ar x.regs.length cr) y (.slice Ar' y.regs.length cr') p q W))
          case first =>
            go_region
            · go_wp2_with fail
              go_meet
              exact ⟨wr.heap.size, wr.heap.size + 1, rfl, rfl, Lib.hid ⟨HST.out.kept (by repeat (first | exact Below.refl _ _ | refine Below.drew ?_ | refine Below.alloc ?_ (by simp <;> omega) _)), (Blk.newAt rfl).alloc _, Blk.newAt (by simp), Rows'.kept CInt.mono (by repeat (first | exact Below.refl _ _ | refine Below.drew ?_ | refine Below.alloc ?_ (by simp <;> omega) _)) HC.out, Rows'.kept CInt.mono (by repeat (first | exact Below.refl _ _ | refine Below.drew ?_ | refine Below.alloc ?_ (by simp <;> omega) _)) HC'.out⟩⟩
            · go_wp2_with fail
              go_meet
              exact ⟨wr.heap.size + 1, wr.heap.size, rfl, rfl, Lib.hid ⟨HST.out.kept (by repeat (first | exact Below.refl _ _ | refine Below.drew ?_ | refine Below.alloc ?_ (by simp <;> omega) _)), Blk.newAt (by simp), (Blk.newAt rfl).alloc _, Rows'.kept CInt.mono (by repeat (first | exact Below.refl _ _ | refine Below.drew ?_ | refine Below.alloc ?_ (by simp <;> omega) _)) HC.out, Rows'.kept CInt.mono (by repeat (first | exact Below.refl _ _ | refine Below.drew ?_ | refine Below.alloc ?_ (by simp <;> omega) _)) HC'.out⟩⟩
          case rest =>
            obtain ⟨p, q, rfl, rfl, HT⟩ := hcut
            have e0 := HT.out.bx.cell 0 rfl
            have e1 := HT.out.bx.cell 1 rfl
            have e2 := HT.out.bx.cell 2 rfl
            have e3 := HT.out.bx.cell 3 rfl
            have e4 := HT.out.bx.cell 4 rfl
            have e5 := HT.out.bx.cell 5 rfl
            have e6 := HT.out.bx.cell 6 rfl
            have e7 := HT.out.bx.cell 7 rfl
            have e8 := HT.out.bx.cell 8 rfl
            have f0 := HT.out.byy.cell 0 rfl
            have f1 := HT.out.byy.cell 1 rfl
            have f2 := HT.out.byy.cell 2 rfl
            have f3 := HT.out.byy.cell 3 rfl
            have f4 := HT.out.byy.cell 4 rfl
            have f5 := HT.out.byy.cell 5 rfl
            have f6 := HT.out.byy.cell 6 rfl
            have f7 := HT.out.byy.cell 7 rfl
            have f8 := HT.out.byy.cell 8 rfl
            clear c0 c1 c2 c3 c4 c5 c6 c7 c8 d0 d1 d2 d3 d4 d5 d6 d7 d8 b1 b2 HC HC' z1 z2 z3 z4 z5 z6 z7 z8
            have HNU := Lib.hid (rnums_any _ _ _ _ _ HT.out.rx HT.out.ry)
            by_cases q0 : x.name = y.name
            · have r0 : (x.name.toList == y.name.toList) = true := by rw [str_eq]; simp [q0]
              by_cases q1 : x.T = y.T
              · have r1 := ne_int q1
                by_cases q2 : x.D = y.D
                · have r2 := ne_int q2
                  by_cases q3 : x.mode = y.mode
                  · have r3 := ne_int q3
                    by_cases q4 : x.Q = y.Q
                    · have r4 := ne_int q4
                      by_cases q5 : x.theta = y.theta
                      · have r5 := ne_int q5
                        by_cases q7 : x.ecb = y.ecb
                        · have r7 := ne_int q7
                          by_cases q8 : x.ucb = y.ucb
                          · have r8 := ne_int q8
                            by_cases q6 : x.regs = y.regs
                            · have HB : Hid (decide (x.regs = y.regs) = true) := Lib.hid (by simp [q6])
                              have HXY : Hid (x = y) := Lib.hid (task_eq q0 q1 q2 q3 q4 q5 q6 q7 q8)
                              clear q0 q1 q2 q3 q4 q5 q6 q7 q8
                              go_wp2_with (go_at_call 23; refine HNU.out.mono ?_; rintro e w3 ⟨rfl, hb3⟩; rw [HB.out])
                              have HS3 := Lib.hid (HT.out.st.kept hb3)
                              clear hb3
                              go_roundw
                              case rel => exact ⟨k + 1, hlt, by go_num, Lib.hid (HNEXT.out HXY.out), HS3⟩
                              case measure => simp [intOf]; omega
                            · have HB : Hid (decide (x.regs = y.regs) = false) := Lib.hid (by simp [q6])
                              have HF : Hid (sameB reload reload' ts ts' = false) := Lib.hid (HNO.out (fun h => q6 (by rw [h])))
                              clear q0 q1 q2 q3 q4 q5 q6 q7 q8
                              go_wp2_with (go_at_call 23; refine HNU.out.mono ?_; rintro e w3 ⟨rfl, hb3⟩; rw [HB.out])
                              go_ret
                              exact ⟨ret_bool (by rw [HF.out]), below_tr HT.out.st.2.2 hb3⟩
                          · have r8 := ne_int' q8
                            have HF : Hid (sameB reload reload' ts ts' = false) := Lib.hid (HNO.out (fun h => q8 (by rw [h])))
                            try clear q0
                            try clear q1
                            try clear q2
                            try clear q3
                            try clear q4
                            try clear q5
                            try clear q7
                            try clear q8
                            go_wp2
                            go_ret
                            exact ⟨ret_bool (by rw [HF.out]), HT.out.st.2.2⟩
                        · have r7 := ne_int' q7
                          have HF : Hid (sameB reload reload' ts ts' = false) := Lib.hid (HNO.out (fun h => q7 (by rw [h])))
                          try clear q0
                          try clear q1
                          try clear q2
                          try clear q3
                          try clear q4
                          try clear q5
                          try clear q7
                          try clear q8
                          go_wp2
                          go_ret
                          exact ⟨ret_bool (by rw [HF.out]), HT.out.st.2.2⟩
                      · have r5 := ne_int' q5
                        have HF : Hid (sameB reload reload' ts ts' = false) := Lib.hid (HNO.out (fun h => q5 (by rw [h])))
                        try clear q0
                        try clear q1
                        try clear q2
                        try clear q3
                        try clear q4
                        try clear q5
                        try clear q7
                        try clear q8
                        go_wp2
                        go_ret
                        exact ⟨ret_bool (by rw [HF.out]), HT.out.st.2.2⟩
                    · have r4 := ne_int' q4
                      have HF : Hid (sameB reload reload' ts ts' = false) := Lib.hid (HNO.out (fun h => q4 (by rw [h])))
                      try clear q0
                      try clear q1
                      try clear q2
                      try clear q3
                      try clear q4
                      try clear q5
                      try clear q7
                      try clear q8
                      go_wp2
                      go_ret
                      exact ⟨ret_bool (by rw [HF.out]), HT.out.st.2.2⟩
                  · have r3 := ne_int' q3
                    have HF : Hid (sameB reload reload' ts ts' = false) := Lib.hid (HNO.out (fun h => q3 (by rw [h])))
                    try clear q0
                    try clear q1
                    try clear q2
                    try clear q3
                    try clear q4
                    try clear q5
                    try clear q7
                    try clear q8
                    go_wp2
                    go_ret
                    exact ⟨ret_bool (by rw [HF.out]), HT.out.st.2.2⟩
                · have r2 := ne_int' q2
                  have HF : Hid (sameB reload reload' ts ts' = false) := Lib.hid (HNO.out (fun h => q2 (by rw [h])))
                  try clear q0
                  try clear q1
                  try clear q2
                  try clear q3
                  try clear q4
                  try clear q5
                  try clear q7
                  try clear q8
                  go_wp2
                  go_ret
                  exact ⟨ret_bool (by rw [HF.out]), HT.out.st.2.2⟩
              · have r1 := ne_int' q1
                have HF : Hid (sameB reload reload' ts ts' = false) := Lib.hid (HNO.out (fun h => q1 (by rw [h])))
                try clear q0
                try clear q1
                try clear q2
                try clear q3
                try clear q4
                try clear q5
                try clear q7
                try clear q8
                go_wp2
                go_ret
                exact ⟨ret_bool (by rw [HF.out]), HT.out.st.2.2⟩
            · have r0 : (x.name.toList == y.name.toList) = false := by rw [str_eq]; simp [q0]
              have HF : Hid (sameB reload reload' ts ts' = false) := Lib.hid (HNO.out (fun h => q0 (by rw [h])))
              try clear q0
              try clear q1
              try clear q2
              try clear q3
              try clear q4
              try clear q5
              try clear q7
              try clear q8
              go_wp2
              go_ret
              exact ⟨ret_bool (by rw [HF.out]), HT.out.st.2.2⟩
        · obtain rfl : k = ts.length := by omega
          have HF : Hid (sameB reload reload' ts ts' = true) := Lib.hid (sameB_yes HL1.out (list_eq HL.out HALL.out))
          go_wp2
          go_ret
          exact ⟨ret_bool (by rw [HF.out]), HST.out.2.2⟩
    · have HF : Hid (sameB reload reload' ts ts' = false) := Lib.hid (sameB_no (fun hh => h2 (by rw [hh.2])))
      have k2 : ((ts.length : Int) != (ts'.length : Int)) = true := by simp; omega
      go_enter Tryz.func12, Tryz.ntmps12
      go_wp2
      go_ret
      exact ⟨ret_bool (by rw [HF.out]), (by repeat (first | exact Below.refl _ _ | refine Below.drew ?_ | refine Below.alloc ?_ (by simp <;> omega) _))⟩
  · have HF : Hid (sameB reload reload' ts ts' = false) := Lib.hid (sameB_no (fun hh => h1 hh.1))
    have k1 : (reload != reload') = true := by simp [h1]
    clear h1
    go_enter Tryz.func12, Tryz.ntmps12
    go_wp2
    go_ret
    exact ⟨ret_bool (by rw [HF.out]), (by repeat (first | exact Below.refl _ _ | refine Below.drew ?_ | refine Below.alloc ?_ (by simp <;> omega) _))⟩
end Go.Proofs.YtopmnpkjhaabcaaGreatDoor
