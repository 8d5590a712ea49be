/- lex.Tokens walked. -/
import Derived.Test.YtopmnpkjhaabcaaGreatDoore
import Derived.Deep.CutBlock
import Derived.Deep.DeepCutAuto
set_option linter.unusedVariables false
set_option linter.unusedSimpArgs false
namespace Go.Proofs.YtopmnpkjhaabcaaGreatDoor
open Go.RowKit

/-- All tokens from a place on, behind those that came; the place; the error. -/
def lexGo (s : ByteArray) : Nat → Nat → List Tok → List Tok × Nat × Int
  | 0, p, _ => ([], p, 2)
  | f + 1, p, l =>
    if p = s.size then (l ++ [⟨4, emptyS, 0, p⟩], p, 0)
    else if 0 < gapN (s.extract p s.size) then lexGo s f (p + gapN (s.extract p s.size)) l
    else if (tokenF (s.extract p s.size)).2.2 then lexGo s f (p + (tokenF (s.extract p s.size)).2.1) (l ++ [{ (tokenF (s.extract p s.size)).1 with at_ := p }])
    else ([], p, 2)
def tokensF (s : ByteArray) : List Tok × Nat × Int := if 4000 < s.size then ([], 0, 3) else lexGo s (s.size + 1) 0 []
def toksC (l : List Tok) : List Value := l.flatMap Tok.cells
theorem toksC_snoc (l : List Tok) (t : Tok) : toksC (l ++ [t]) = toksC l ++ t.cells := by simp [toksC]

def TokensPost (s : ByteArray) (w : World) (e : Ending) (w' : World) : Prop :=
  ∃ v, e = .returned (.tuple #[v, .int .i64 (tokensF s).2.1, .int .i64 (tokensF s).2.2]) ∧ w'.ownsRow w.heap.size 66 4 v (tokensF s).1.length (toksC (tokensF s).1) ∧ Below w.heap.size w w'

theorem rest_size (s : ByteArray) (p : Nat) (h : p ≤ s.size) : (s.extract p s.size).size = s.size - p := by simp
theorem gapN_le (s : ByteArray) (h : 0 < s.size) : gapN s ≤ s.size := by
  unfold gapN
  split
  · omega
  · split
    · exact runLen_le _ _
    · omega
theorem tokenF_le (s : ByteArray) (h : 0 < s.size) (hk : (tokenF s).2.2 = true) : 1 ≤ (tokenF s).2.1 ∧ (tokenF s).2.1 ≤ s.size := by
  have hs : 0 < s.data.toList.length := by rw [blen]; exact h
  have h1 := runL_head moreB s.data.toList hs
  have h2 := runL_head digB s.data.toList hs
  have l1 := runLen_le moreB s
  have l2 := runLen_le digB s
  unfold tokenF at *
  change runLen moreB s = if moreB (bt s 0) = true then _ else 0 at h1
  change runLen digB s = if digB (bt s 0) = true then _ else 0 at h2
  by_cases c1 : letB (bt s 0) = true
  · rw [if_pos c1]
    rw [if_pos (by simp [moreB, c1])] at h1
    simp only
    omega
  · rw [if_neg c1] at hk ⊢
    by_cases c2 : digB (bt s 0) = true
    · rw [if_pos c2]
      rw [if_pos c2] at h2
      simp only
      omega
    · rw [if_neg c2] at hk ⊢
      by_cases c3 : bt s 0 = 59
      · rw [if_pos c3]; simp only; omega
      · rw [if_neg c3] at hk; simp at hk

theorem tok_info : (Tryz.prog.info? 66).map (fun i => (i.zero, i.size, i.bytes)) = some (some (.agg #[.int .i64 0, .string ⟨#[]⟩, .int .i64 0, .int .i64 0]), 4, 40) := by kernel_rfl

theorem token_at (s : ByteArray) (w : World) (hs : s.size ≤ 140737488351232) (h0 : 0 < s.size) (hT : SpaceTab w) {t : Tok} {n : Nat} {ok : Bool} (h : tokenF s = (t, n, ok)) :
    Calls Tryz.prog 74 #[.string s] w fun e w' => e = .returned (.tuple #[.agg #[.int .i64 t.kind, .string t.text, .int .i64 t.n, .int .i64 t.at_], .int .i64 n, .bool ok]) ∧ Below w.heap.size w w' := by
  refine (token_any s w hs h0 hT).mono fun e w' hp => ?_
  unfold TokPost at hp
  rw [h] at hp
  exact hp

/-- What holds whenever the label is passed. -/
def LexSt (s : ByteArray) (w : World) (p : Nat) (l : List Tok) (v : Value) (W : World) : Prop :=
  p ≤ s.size ∧ l.length ≤ p ∧ (∃ f, s.size - p + 1 ≤ f ∧ lexGo s f p l = lexGo s (s.size + 1) 0 []) ∧
  W.ownsRow (w.heap.size + 1) 66 4 v l.length (toksC l) ∧ (∃ x y z u, Blk W w.heap.size [x, y, z, u] 66) ∧ Below w.heap.size w W

theorem LexSt.size {s : ByteArray} {w W : World} {p : Nat} {l : List Tok} {v : Value} (h : LexSt s w p l v W) : w.heap.size + 1 ≤ W.heap.size := by
  obtain ⟨-, -, -, -, ⟨_, _, _, _, h⟩, -⟩ := h
  exact h.lt

theorem LexSt.row {s : ByteArray} {w W : World} {p : Nat} {l : List Tok} {v : Value} (h : LexSt s w p l v W) : W.ownsRow (w.heap.size + 1) 66 4 v l.length (toksC l) := h.2.2.2.1
theorem LexSt.bel {s : ByteArray} {w W : World} {p : Nat} {l : List Tok} {v : Value} (h : LexSt s w p l v W) : Below w.heap.size w W := h.2.2.2.2.2
theorem LexSt.setBox {s : ByteArray} {w W : World} {p : Nat} {l : List Tok} {v : Value} (h : LexSt s w p l v W) (j : Nat) (x : Value) : LexSt s w p l v (W.setCell ⟨w.heap.size, j, none⟩ x) := by
  obtain ⟨h1, h2, h3, h4, ⟨a, b, c, d, h5⟩, h6⟩ := h
  have h5' := h5.set j x
  refine ⟨h1, h2, h3, own_set h4 (fun he => ?_) x, ?_, below_setCell h6 (by simp) x⟩
  · have hc := own_base h4 _ he
    simp only at hc
    omega
  · match j with
    | 0 => exact ⟨_, _, _, _, h5'⟩
    | 1 => exact ⟨_, _, _, _, h5'⟩
    | 2 => exact ⟨_, _, _, _, h5'⟩
    | 3 => exact ⟨_, _, _, _, h5'⟩
    | j + 4 => exact ⟨_, _, _, _, h5'⟩
theorem LexSt.kept {s : ByteArray} {w W W1 : World} {p : Nat} {l : List Tok} {v : Value} (h : LexSt s w p l v W) (hb : Below W.heap.size W W1) : LexSt s w p l v W1 := by
  obtain ⟨h1, h2, h3, h4, ⟨x, y, z, u, h5⟩, h6⟩ := h
  exact ⟨h1, h2, h3, own_kept h4 hb, ⟨x, y, z, u, h5.kept hb⟩, below_tr h6 hb⟩

set_option maxRecDepth 100000 in
set_option maxHeartbeats 4000000 in
theorem tokens_any (s : ByteArray) (w : World) (hs : s.size ≤ 140737488351232) (hT : SpaceTab w) : Calls Tryz.prog 64 #[.string s] w (TokensPost s w) := by
  by_cases hbig : 4000 < s.size
  · have HO : Hid (tokensF s = ([], 0, 3)) := Lib.hid (by unfold tokensF; rw [if_pos hbig])
    go_enter Tryz.func64, Tryz.ntmps64
    go_wp2
    refine wp_scope_label 0 (fun _ _ => False) (fun _ _ => 0) rfl (fun _ _ h => h.elim) ?_
    intro _
    go_wp2
    simp only [Exit.jump]
    go_ret3
    exact ⟨.slice none 0 0, by rw [HO.out]; rfl, by rw [HO.out]; exact own_nil _ _ _ _, by repeat (first | exact Below.refl _ _ | refine Below.alloc ?_ (by simp <;> omega) _)⟩
  · have HO : Hid (tokensF s = lexGo s (s.size + 1) 0 []) := Lib.hid (by unfold tokensF; rw [if_neg hbig])
    go_enter Tryz.func64, Tryz.ntmps64
    go_wp2
    refine wp_scope_label 0 (fun a W => ∃ (p : Nat) (l : List Tok) (v : Value) (u1 u6 u7 u8 u9 u10 u11 u12 u13 u14 u15 u16 u17 u18 u19 u20 u21 u22 u23 u24 u25 u26 u27 u28 u29 u30 u31 u32 u33 u34 u35 u36 u37 u38 u39 u40 u41 u42 u43 u44 u45 u46 u47 u48 u49 : Value), a = { tmps := #[.string s, u1, v, .int .i64 p, .int .i64 0, .pointer (some ⟨w.heap.size, 0, none⟩), u6, u7, u8, u9, u10, u11, u12, u13, u14, u15, u16, u17, u18, u19, u20, u21, u22, u23, u24, u25, u26, u27, u28, u29, u30, u31, u32, u33, u34, u35, u36, u37, u38, u39, u40, u41, u42, u43, u44, u45, u46, u47, u48, u49], defers := [] } ∧ Hid (LexSt s w p l v W)) (fun a _ => s.size - (intOf (a.tmps.getD 3 undef)).toNat) rfl ?_ ?_
    · rintro a W ⟨p, l, v, u1, u6, u7, u8, u9, u10, u11, u12, u13, u14, u15, u16, u17, u18, u19, u20, u21, u22, u23, u24, u25, u26, u27, u28, u29, u30, u31, u32, u33, u34, u35, u36, u37, u38, u39, u40, u41, u42, u43, u44, u45, u46, u47, u48, u49, rfl, hst⟩
      obtain ⟨hp, hl, -⟩ := hst.out
      by_cases he : p = s.size
      · have he2 : (p : Int) == (s.size : Int) := by simp [he]
        have HR : Hid (lexGo s (s.size + 1) 0 [] = (l ++ [⟨4, emptyS, 0, p⟩], p, 0)) := Lib.hid (by
          obtain ⟨-, -, ⟨f, hf, hg⟩, -⟩ := hst.out
          obtain ⟨f, rfl⟩ : ∃ m, f = m + 1 := ⟨f - 1, by omega⟩
          rw [← hg, lexGo, if_pos he])
        clear he
        go_wp2_with (at_builtin; refine append_one (w0 := w) (w.heap.size + 1) rfl (.tmp 15) (.tmp 18) 81 66 (.agg #[.int .i64 0, .string ⟨#[]⟩, .int .i64 0, .int .i64 0]) 4 40 rfl Tryz.underlying81 tok_info rfl (by decide) (by decide) v l.length (toksC l) [.int .i64 4, .string ⟨#[]⟩, .int .i64 0, .int .i64 p] rfl rfl rfl (by simp [Value.oneCell']) hst.out.2.2.2.1 hst.out.2.2.2.2.2 (Nat.le_succ _) hst.out.size (by omega) ?_; intro v1 w1 hown hB hg hat)
        simp only [Exit.jump]
        go_ret3
        have ho : w1.ownsRow w.heap.size 66 4 v1 (tokensF s).1.length (toksC (tokensF s).1) := by
          rw [HO.out, HR.out]
          simp only [toksC_snoc, List.length_append, List.length_cons, List.length_nil]
          exact ⟨hown.1, hown.2.imp_right fun ⟨g, c, cur, h1, h2, h3⟩ => ⟨g, c, cur, h1, by omega, h3⟩⟩
        exact ⟨v1, by rw [HO.out, HR.out]; rfl, ho, hB⟩
      · have hlt : p < s.size := by omega
        have he2 : ((p : Int) == (s.size : Int)) = false := by simp; omega
        have hrs := rest_size s p hp
        have hgl : p + gapN (s.extract p s.size) ≤ s.size := by have := gapN_le (s.extract p s.size) (by omega); omega
        by_cases hg0 : 0 < gapN (s.extract p s.size)
        · have HG : Hid (LexSt s w (p + gapN (s.extract p s.size)) l v W) := Lib.hid (by
            obtain ⟨-, -, ⟨f, hf, hgo⟩, h4⟩ := hst.out
            obtain ⟨f, rfl⟩ : ∃ m, f = m + 1 := ⟨f - 1, by omega⟩
            rw [lexGo, if_neg he, if_pos hg0] at hgo
            exact ⟨by omega, by omega, ⟨f, by omega, hgo⟩, h4⟩)
          have HRS := Lib.hid hrs
          clear he hrs
          go_wp2_with (go_at_call 73; refine (gap_any _ _ (by rw [HRS.out]; omega) (by rw [HRS.out]; omega)).mono ?_; rintro e w' ⟨rfl, rfl⟩)
          go_step3
          rw [show ((p : Int) + (gapN (s.extract p s.size) : Int)) = ((p + gapN (s.extract p s.size) : Nat) : Int) from by simp]
          refine ⟨rfl, ⟨p + gapN (s.extract p s.size), l, v, _, _, _, _, _, _, _, _, _, _, _, _, _, _, _, _, _, _, _, _, _, _, _, _, _, _, _, _, _, _, _, _, _, _, _, _, _, _, _, _, _, _, _, _, _, rfl, HG⟩, ?_⟩
          simp [intOf]
          omega
        · obtain ⟨⟨t, n, ok⟩, ht⟩ : ∃ x, tokenF (s.extract p s.size) = x := ⟨_, rfl⟩
          have HRS := Lib.hid hrs
          have HT := Lib.hid ht
          cases ok
          · have HR : Hid (lexGo s (s.size + 1) 0 [] = ([], p, 2)) := Lib.hid (by
              obtain ⟨-, -, ⟨f, hf, hgo⟩, h4⟩ := hst.out
              obtain ⟨f, rfl⟩ : ∃ m, f = m + 1 := ⟨f - 1, by omega⟩
              rw [lexGo, if_neg he, if_neg hg0, ht, if_neg (by simp)] at hgo
              exact hgo.symm)
            clear he hrs ht
            go_wp2_with (first | (go_at_call 73; refine (gap_any _ _ (by rw [HRS.out]; omega) (by rw [HRS.out]; omega)).mono ?_; rintro e w' ⟨rfl, rfl⟩) | (go_at_call 74; refine (token_at _ _ (by rw [HRS.out]; omega) (by rw [HRS.out]; omega) (hT.below hst.out.2.2.2.2.2) HT.out).mono ?_; rintro e w1 ⟨rfl, hb1⟩; have HZ := Lib.hid (hst.out.kept hb1); obtain ⟨x, y, z, u, B1⟩ := HZ.out.2.2.2.2.1; have d0 := B1.cell 0 rfl; have d1 := B1.cell 1 rfl; have d2 := B1.cell 2 rfl; have d3 := B1.cell 3 rfl; have e0 := B1.free 0; have e1 := B1.free 1; have e2 := B1.free 2; have e3 := B1.free 3; have HB := Lib.hid B1; clear B1 hb1 hst))
            simp only [Exit.jump]
            go_ret3
            exact ⟨.slice none 0 0, by rw [HO.out, HR.out]; rfl, by rw [HO.out, HR.out]; exact own_nil _ _ _ _, below_setCell (below_setCell (below_setCell (below_setCell HZ.out.2.2.2.2.2 (by simp) _) (by simp) _) (by simp) _) (by simp) _⟩
          · have htl := tokenF_le (s.extract p s.size) (by omega) (by rw [ht])
            rw [ht] at htl
            simp only at htl
            have htl2 : p + n ≤ s.size := by omega
            have hn1 : 1 ≤ n := htl.1
            clear htl
            have HR : Hid (∃ f, s.size - (p + n) + 1 ≤ f ∧ lexGo s f (p + n) (l ++ [{ t with at_ := (p : Int) }]) = lexGo s (s.size + 1) 0 []) := Lib.hid (by
              obtain ⟨-, -, ⟨f, hf, hgo⟩, h4⟩ := hst.out
              obtain ⟨f, rfl⟩ : ∃ m, f = m + 1 := ⟨f - 1, by omega⟩
              rw [lexGo, if_neg he, if_neg hg0, ht, if_pos rfl] at hgo
              exact ⟨f, by omega, hgo⟩)
            clear he hrs ht hgl
            go_upto_region 14 with (first | (go_at_call 73; refine (gap_any _ _ (by rw [HRS.out]; omega) (by rw [HRS.out]; omega)).mono ?_; rintro e w' ⟨rfl, rfl⟩) | (go_at_call 74; refine (token_at _ _ (by rw [HRS.out]; omega) (by rw [HRS.out]; omega) (hT.below hst.out.2.2.2.2.2) HT.out).mono ?_; rintro e w1 ⟨rfl, hb1⟩; have HZ := Lib.hid (hst.out.kept hb1); obtain ⟨x, y, z, u, B1⟩ := HZ.out.2.2.2.2.1; have d0 := B1.cell 0 rfl; have d1 := B1.cell 1 rfl; have d2 := B1.cell 2 rfl; have d3 := B1.cell 3 rfl; have e0 := B1.free 0; have e1 := B1.free 1; have e2 := B1.free 2; have e3 := B1.free 3; have HB := Lib.hid B1; clear B1 hb1 hst))
            generalize hW2 : World.setCell _ _ _ = W2
            have HZ2 : Hid (LexSt s w p l v W2) := Lib.hid (by rw [← hW2]; repeat (first | exact HZ.out | refine LexSt.setBox ?_ _ _))
            have B2 : Blk W2 w.heap.size [.int .i64 t.kind, .string t.text, .int .i64 t.n, .int .i64 t.at_] 66 := by rw [← hW2]; exact (((HB.out.set 0 _).set 1 _).set 2 _).set 3 _
            clear hW2 d0 d1 d2 d3 e0 e1 e2 e3 HB HZ
            have d0 := B2.cell 0 rfl
            have d1 := B2.cell 1 rfl
            have d2 := B2.cell 2 rfl
            have d3 := B2.cell 3 rfl
            have e3 := B2.free 3
            have HB2 := Lib.hid B2
            clear B2
            go_upto_region 15 with (fail)
            generalize hW3 : World.setCell _ _ _ = W3
            have HZ3 : Hid (LexSt s w p l v W3) := Lib.hid (by rw [← hW3]; exact LexSt.setBox HZ2.out _ _)
            have B3 : Blk W3 w.heap.size [.int .i64 t.kind, .string t.text, .int .i64 t.n, .int .i64 p] 66 := by rw [← hW3]; exact HB2.out.set 3 _
            clear hW3 d0 d1 d2 d3 e3 HB2 HZ2
            have d0 := B3.cell 0 rfl
            have d1 := B3.cell 1 rfl
            have d2 := B3.cell 2 rfl
            have d3 := B3.cell 3 rfl
            have HB3 := Lib.hid B3
            clear B3
            go_wp2_with (at_builtin; refine append_one (w0 := w) (w.heap.size + 1) rfl (.tmp 43) (.tmp 45) 81 66 (.agg #[.int .i64 0, .string ⟨#[]⟩, .int .i64 0, .int .i64 0]) 4 40 rfl Tryz.underlying81 tok_info rfl (by decide) (by decide) v l.length (toksC l) [.int .i64 t.kind, .string t.text, .int .i64 t.n, .int .i64 p] rfl rfl rfl (by simp [Value.oneCell']) (LexSt.row HZ3.out) (LexSt.bel HZ3.out) (Nat.le_succ _) (LexSt.size HZ3.out) (by omega) ?_; intro v1 w1 hown hB hg hat)
            go_step3
            rw [show ((p : Int) + (n : Int)) = ((p + n : Nat) : Int) from by simp]
            have HG : Hid (LexSt s w (p + n) (l ++ [{ t with at_ := (p : Int) }]) v1 w1) := Lib.hid (by
              refine ⟨htl2, by simp; omega, HR.out, ?_, ⟨_, _, _, _, HB3.out.grown hg (fun he => ?_)⟩, hB⟩
              · rw [toksC_snoc, List.length_append]
                exact hown
              · have hc := own_base (LexSt.row HZ3.out) _ he.symm
                omega)
            refine ⟨rfl, ⟨p + n, l ++ [{ t with at_ := (p : Int) }], v1, _, _, _, _, _, _, _, _, _, _, _, _, _, _, _, _, _, _, _, _, _, _, _, _, _, _, _, _, _, _, _, _, _, _, _, _, _, _, _, _, _, _, _, _, _, rfl, HG⟩, ?_⟩
            simp [intOf]
            omega
    · intro HP
      go_wp2
      go_step3
      rename_i K hK
      refine hK _ _ (HP.out _ _ ⟨0, [], .slice none 0 0, _, _, _, _, _, _, _, _, _, _, _, _, _, _, _, _, _, _, _, _, _, _, _, _, _, _, _, _, _, _, _, _, _, _, _, _, _, _, _, _, _, _, _, _, _, rfl, Lib.hid ?_⟩)
      refine ⟨Nat.zero_le _, Nat.le_refl _, ⟨s.size + 1, by omega, rfl⟩, own_nil _ _ _ _, ⟨_, _, _, _, Blk.newAt rfl⟩, by repeat (first | exact Below.refl _ _ | refine Below.alloc ?_ (by simp <;> omega) _)⟩
end Go.Proofs.YtopmnpkjhaabcaaGreatDoor
