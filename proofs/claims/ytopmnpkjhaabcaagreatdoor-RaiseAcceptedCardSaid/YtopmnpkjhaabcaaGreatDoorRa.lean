/- A set that comes in, opened: it reads as tasks; no name, no row of numbers longer than a machine holds. -/
import Derived.Test.YtopmnpkjhaabcaaGreatDoorg
import Derived.Deep.Slices
import Derived.Deep.Fields
import Derived.ChangeSame
import Derived.Lib.SmallJoins
import Derived.SizedLaws
import Derived.ProofKit
import Derived.OpenShut
set_option linter.unusedVariables false
set_option linter.unusedSimpArgs false
namespace Go.Proofs.YtopmnpkjhaabcaaGreatDoor
open Go.ChangeShapes Go.WideShapes Go.ChangeAt Go.Joins Go.Deep Go.RowKit

section
variable {H : Type} {enc : TypeId × Value → H} {P : Program} {w : World} {base : Nat} {spare : Nat → Bool} {held : Bool}
/-- A slice of structs of one-cell fields, opened to its cells. -/
theorem open_slice_fields {t e : TypeId} {fs : Array Field} {fuel : Nat} {cs : List Value} {x : DataW H × List MemPlace} (ht : P.underlying t = some (.slice e)) (he : P.underlying e = some (.struct fs))
    (hone : oneCellFields P fs = true) (hC : P.cellsOf e = fs.size) (h : DataW.trod enc P w base spare held fuel t cs = some x) :
    (cs = [.slice none 0 0] ∧ x = (.nil, [])) ∨
    ∃ (a : Addr) (len cap m : Nat) (D : Nat → DataW H) (Pl : Nat → List MemPlace), cs = [.slice (some a) len cap] ∧ base ≤ a.block ∧ len ≤ cap ∧ cap ≤ maxLen ∧ m = (if spare a.block then cap else len) ∧
      x = (.slice ((List.range len).map D) ((List.range (m - len)).map fun j => D (len + j)), MemPlace.row a (m * fs.size) ++ (List.range m).flatMap Pl) ∧
      ∀ i, i < m → ∃ (ys : List (DataW H × List MemPlace)) (n : Nat), D i = .agg (ys.map (·.1)) ∧ Pl i = ys.flatMap (·.2) ∧ ys.length = fs.size ∧
        ∀ (j : Nat) (f : Field), fs[j]? = some f → ∃ (v : Value) (y : DataW H × List MemPlace), w.cell? (a.add (i * fs.size + j)) = some v ∧ ys[j]? = some y ∧ DataW.trod enc P w base spare held n f.type [v] = some y := by
  rcases open_slice ht h with h0 | ⟨a, len, cap, m, n, D, Pl, hcs, hb, hl, hm, hmm, hx, hi⟩
  · exact .inl h0
  · refine .inr ⟨a, len, cap, m, D, Pl, hcs, hb, hl, hm, hmm, by rw [hC] at hx; exact hx, fun i him => ?_⟩
    obtain ⟨cs', hc, ht'⟩ := hi i him
    rw [hC] at hc
    obtain ⟨ys, n', hn', hy, hlen, hyl, hf⟩ := DataW.trod_struct he ht'
    obtain ⟨_, hcl, hat⟩ := World.cells?_some hc
    simp only [Prod.mk.injEq] at hy
    refine ⟨ys, n', hy.1, hy.2, hyl, fun j f hj => ?_⟩
    obtain ⟨ho, hk⟩ := hone_of hone j f hj
    have hjl : j < fs.size := (Array.getElem?_eq_some_iff.1 hj).1
    have hcell := hat j hjl
    have hv : cs'[j]? = some (cs'[j]'(by omega)) := List.getElem?_eq_getElem (by omega)
    have h1 := hf j f hj
    rw [ho, hk] at h1
    have hone' : (cs'.drop j).take 1 = [cs'[j]'(by omega)] := by
      rw [List.drop_eq_getElem_cons (by omega)]
      rfl
    rw [hone'] at h1
    have hys : ys[j]? = some (ys[j]'(by omega)) := List.getElem?_eq_getElem (by omega)
    refine ⟨_, _, ?_, hys, h1.trans hys⟩
    rw [← Go.Deep.add_add, hcell, hv]
theorem weights_all {e : TypeId} : ∀ {l : List (DataW H)} {d : DataW H}, d ∈ l → ∀ {n : Nat}, n ∈ d.weights P e → n ∈ DataW.weightsAll P e l
  | x :: r, d, hd, n, hn => by
    rcases List.mem_cons.1 hd with rfl | hd
    · simp only [DataW.weightsAll, List.mem_append]; exact .inl hn
    · simp only [DataW.weightsAll, List.mem_append]; exact .inr (weights_all hd hn)
theorem plain_addr {a : Addr} {v : Value} (h : w.cell? a = some v) : a = ⟨a.block, a.off, none⟩ := by
  obtain ⟨b, o, s⟩ := a
  unfold World.cell? at h
  split at h
  · split at h
    · cases h
    · rename_i hs
      cases s with
      | none => rfl
      | some x => simp at hs
  · cases h
theorem add_plain (b o n : Nat) : (⟨b, o, none⟩ : Addr).add n = ⟨b, o + n, none⟩ := by unfold Addr.add; split <;> simp_all
end
section
variable {H : Type} {enc : TypeId × Value → H} {w : World} {spare : Nat → Bool}
/-- A row of whole numbers that comes in reads as a list. -/
theorem open_numbers {sp : Nat → Bool} (hsp : ∀ b, sp b = true) {fuel : Nat} {v : Value} {x : DataW H × List MemPlace} (h : DataW.trod enc Tryz.prog w 0 sp true fuel 34 [v] = some x) (hw : ∀ n ∈ x.1.weights Tryz.prog 34, n ≤ reachBytes) : ∃ l, RdI w v l := by
  rcases open_ints Tryz.underlying34 Tryz.underlying2 (by kernel_rfl) h with ⟨hcs, _⟩ | ⟨a, len, cap, zs, hcs, _, hl, hm, hz, hx, hcell, hwz⟩
  · cases hcs
    exact ⟨[], none, 0, rfl, by simp, fun j x hj => by simp at hj⟩
  · cases hcs
    rw [hsp, if_pos rfl] at hz
    have hb : (zs.take len).length + (zs.drop len).length = zs.length := by rw [List.length_take, List.length_drop]; omega
    have hb8 : Tryz.prog.bytesOf 2 = 8 := by kernel_rfl
    have hww := hw (((lits (H := H) .i64 (zs.take len)).length + (lits (H := H) .i64 (zs.drop len)).length) * 8) (by
      rw [hx]
      simp only [DataW.weights, Tryz.underlying34, hb8]
      exact List.mem_cons_self ..)
    have hle : zs.length * 8 ≤ reachBytes := by
      have e1 : (lits (H := H) .i64 (zs.take len)).length = (zs.take len).length := by simp [lits]
      have e2 : (lits (H := H) .i64 (zs.drop len)).length = (zs.drop len).length := by simp [lits]
      rw [e1, e2, hb] at hww
      exact hww
    have hr : reachBytes = 140737488351232 := rfl
    refine ⟨zs.take len, some a, cap, ?_, by rw [List.length_take]; omega, fun j x hj => ?_⟩
    · rw [List.length_take, Nat.min_eq_left (by omega)]
    · have hj2 := List.getElem?_eq_some_iff.1 hj
      have hjl : j < zs.length := by have := hj2.1; rw [List.length_take] at this; omega
      have hc := hcell j hjl
      have ha : a = ⟨a.block, a.off, none⟩ := by
        have h0 := hcell 0 (by omega)
        exact plain_addr (by simpa [Addr.add] using h0)
      refine ⟨a.block, a.off, _, by rw [← ha], rfl, fun k u hu => ?_⟩
      match k, hu with
      | 0, hu =>
        cases hu
        rw [ha, add_plain] at hc
        rw [Nat.mul_one, Nat.add_zero, hc]
        have := hj2.2
        rw [List.getElem_take] at this
        rw [← this, List.getD_eq_getElem?_getD, List.getElem?_eq_getElem hjl]
        rfl
      | k + 1, hu => simp at hu
/-- What is known of tasks that come in. -/
structure Come (ts : List Task) : Prop where
  name : ∀ t ∈ ts, t.name.size ≤ 140737488351232
  ucb : ∀ t ∈ ts, 0 ≤ t.ucb ∧ t.ucb < 18446744073709551616
  ecb : ∀ t ∈ ts, 0 ≤ t.ecb ∧ t.ecb < 18446744073709551616
theorem wf_u64 {n : Int} (h : (Lit.int .u64 n).wf = true) : 0 ≤ n ∧ n < 18446744073709551616 := by
  have h1 : decide (IntKind.u64.min ≤ n) = true ∧ decide (n ≤ IntKind.u64.max) = true := by simpa [Lit.wf] using h
  have e1 : IntKind.u64.min = 0 := by decide
  have e2 : IntKind.u64.max = 18446744073709551615 := by decide
  rw [e1, e2, decide_eq_true_eq, decide_eq_true_eq] at h1
  omega
set_option maxRecDepth 100000 in
theorem open_tasks {sp : Nat → Bool} (hsp : ∀ b, sp b = true) {fuel : Nat} {v : Value} {x : DataW H × List MemPlace} (h : DataW.trod enc Tryz.prog w 0 sp true fuel 22 [v] = some x) (hw : ∀ n ∈ x.1.weights Tryz.prog 22, n ≤ reachBytes) :
    ∃ ts, RdT w v ts ∧ (∀ A n c, v = .slice A n c → n ≤ c) ∧ Come ts := by
  rcases open_slice_fields Tryz.underlying22 Tryz.underlying41 (by kernel_rfl) (by kernel_rfl) h with ⟨hcs, _⟩ | ⟨a, len, cap, m, D, Pl, hcs, _, hl, hm, hmm, hx, hi⟩
  · cases hcs
    exact ⟨[], ⟨none, 0, rfl, by simp, fun j x hj => by simp at hj⟩, fun A n c he => by cases he; omega, ⟨fun t ht => (by cases ht), fun t ht => (by cases ht), fun t ht => (by cases ht)⟩⟩
  · cases hcs
    rw [hsp, if_pos rfl] at hmm
    obtain rfl : cap = m := hmm.symm
    have hb96 : Tryz.prog.bytesOf 41 = 96 := by kernel_rfl
    have hr : reachBytes = 140737488351232 := rfl
    have hlen : len ≤ 140737488351232 := by
      have hww := hw ((((List.range len).map D).length + ((List.range (cap - len)).map fun j => D (len + j)).length) * 96) (by
        rw [hx]
        simp only [DataW.weights, Tryz.underlying22, hb96]
        exact List.mem_cons_self ..)
      simp only [List.length_map, List.length_range] at hww
      omega
    have hwD : ∀ i, i < len → ∀ n ∈ (D i).weights Tryz.prog 41, n ≤ reachBytes := fun i hil n hn => hw n (by
      rw [hx]
      simp only [DataW.weights, Tryz.underlying22]
      refine List.mem_cons_of_mem _ (List.mem_append_left _ (weights_all (List.mem_map.2 ⟨i, List.mem_range.2 hil, rfl⟩) hn)))
    have each : ∀ i, i < len → ∃ t : Task, (∃ cs, CTask w t cs ∧ ∀ k u, cs[k]? = some u → w.cell? (a.add (i * 9 + k)) = some u) ∧ t.name.size ≤ 140737488351232 ∧ (0 ≤ t.ucb ∧ t.ucb < 18446744073709551616) ∧ (0 ≤ t.ecb ∧ t.ecb < 18446744073709551616) := by
      intro i hil
      obtain ⟨ys, n, hD, _, hyl, hf⟩ := hi i (by omega)
      have hwi := hwD i hil
      rw [hD] at hwi
      simp only [DataW.weights, Tryz.underlying41] at hwi
      have hwk : ∀ (k : Nat) (t : TypeId) (y : DataW H × List MemPlace), ([9, 2, 2, 3, 2, 3, 34, 39, 39] : List TypeId)[k]? = some t → ys[k]? = some y → ∀ n ∈ y.1.weights Tryz.prog t, n ≤ reachBytes := fun k t y ht hy n hn =>
        hwi n (DataW.weights_mem_each (j := k) ht (by rw [List.getElem?_map, hy]; rfl) n hn)
      obtain ⟨v0, y0, c0, e0, t0⟩ := hf 0 _ rfl
      obtain ⟨v1, y1, c1, e1, t1⟩ := hf 1 _ rfl
      obtain ⟨v2, y2, c2, e2, t2⟩ := hf 2 _ rfl
      obtain ⟨v3, y3, c3, e3, t3⟩ := hf 3 _ rfl
      obtain ⟨v4, y4, c4, e4, t4⟩ := hf 4 _ rfl
      obtain ⟨v5, y5, c5, e5, t5⟩ := hf 5 _ rfl
      obtain ⟨v6, y6, c6, e6, t6⟩ := hf 6 _ rfl
      obtain ⟨v7, y7, c7, e7, t7⟩ := hf 7 _ rfl
      obtain ⟨v8, y8, c8, e8, t8⟩ := hf 8 _ rfl
      obtain ⟨s, hs, hy0, _⟩ := DataW.trod_string Tryz.underlying9 t0
      obtain ⟨n1, hn1, _, _⟩ := DataW.trod_int Tryz.underlying2 t1
      obtain ⟨n2, hn2, _, _⟩ := DataW.trod_int Tryz.underlying2 t2
      obtain ⟨n3, hn3, _, _⟩ := DataW.trod_int Tryz.underlying3 t3
      obtain ⟨n4, hn4, _, _⟩ := DataW.trod_int Tryz.underlying2 t4
      obtain ⟨n5, hn5, _, _⟩ := DataW.trod_int Tryz.underlying3 t5
      obtain ⟨n7, hn7, _, wf7⟩ := DataW.trod_int Tryz.underlying39 t7
      obtain ⟨n8, hn8, _, wf8⟩ := DataW.trod_int Tryz.underlying39 t8
      obtain ⟨l, hl6⟩ := open_numbers hsp t6 (hwk 6 _ _ rfl e6)
      cases hs; cases hn1; cases hn2; cases hn3; cases hn4; cases hn5; cases hn7; cases hn8
      refine ⟨⟨s, n1, n2, n3, n4, n5, l, n7, n8⟩, ⟨_, ⟨v6, rfl, hl6⟩, fun k u hu => ?_⟩, ?_, wf_u64 wf8, wf_u64 wf7⟩
      · match k, hu with
        | 0, hu => cases hu; exact c0
        | 1, hu => cases hu; exact c1
        | 2, hu => cases hu; exact c2
        | 3, hu => cases hu; exact c3
        | 4, hu => cases hu; exact c4
        | 5, hu => cases hu; exact c5
        | 6, hu => cases hu; exact c6
        | 7, hu => cases hu; exact c7
        | 8, hu => cases hu; exact c8
        | k + 9, hu => simp [Task.cells] at hu
      · have := hwk 0 _ _ rfl e0 s.data.toList.length (by rw [hy0]; simp [DataW.weights])
        simpa [hr] using this
    have hch : ∃ f : Nat → Task, ∀ i, i < len → (∃ cs, CTask w (f i) cs ∧ ∀ k u, cs[k]? = some u → w.cell? (a.add (i * 9 + k)) = some u) ∧ (f i).name.size ≤ 140737488351232 ∧ (0 ≤ (f i).ucb ∧ (f i).ucb < 18446744073709551616) ∧ (0 ≤ (f i).ecb ∧ (f i).ecb < 18446744073709551616) := by
      refine ⟨fun i => if h : i < len then Classical.choose (each i h) else ⟨⟨#[]⟩, 0, 0, 0, 0, 0, [], 0, 0⟩, fun i hil => ?_⟩
      simp only [dif_pos hil]
      exact Classical.choose_spec (each i hil)
    obtain ⟨f, hf⟩ := hch
    have hmem : ∀ t ∈ (List.range len).map f, ∃ i, i < len ∧ f i = t := fun t ht => by
      obtain ⟨i, hi2, rfl⟩ := List.mem_map.1 ht
      exact ⟨i, List.mem_range.1 hi2, rfl⟩
    refine ⟨(List.range len).map f, ⟨some a, cap, by simp, by simpa using hlen, fun j t hj => ?_⟩, fun A n c he => by cases he; exact hl, ⟨fun t ht => ?_, fun t ht => ?_, fun t ht => ?_⟩⟩
    · rw [List.getElem?_map, Option.map_eq_some_iff] at hj
      obtain ⟨i, hi2, rfl⟩ := hj
      obtain ⟨hil, rfl⟩ : j < len ∧ j = i := by
        have h2 := List.getElem?_eq_some_iff.1 hi2
        have h3 := h2.1
        rw [List.length_range] at h3
        exact ⟨h3, by simpa using h2.2⟩
      obtain ⟨⟨cs, hc, hcell⟩, _⟩ := hf j hil
      have ha : a = ⟨a.block, a.off, none⟩ := by
        obtain ⟨⟨cs0, ⟨vr, rfl, _⟩, hcell0⟩, _⟩ := hf 0 (by omega)
        exact plain_addr (by simpa [Addr.add] using hcell0 0 _ rfl)
      refine ⟨a.block, a.off, cs, by rw [← ha], hc, fun k u hu => ?_⟩
      have := hcell k u hu
      rw [ha, add_plain] at this
      rw [Nat.add_assoc]
      exact this
    · obtain ⟨i, hi2, rfl⟩ := hmem t ht
      exact (hf i hi2).2.1
    · obtain ⟨i, hi2, rfl⟩ := hmem t ht
      exact (hf i hi2).2.2.1
    · obtain ⟨i, hi2, rfl⟩ := hmem t ht
      exact (hf i hi2).2.2.2
end
end Go.Proofs.YtopmnpkjhaabcaaGreatDoor
