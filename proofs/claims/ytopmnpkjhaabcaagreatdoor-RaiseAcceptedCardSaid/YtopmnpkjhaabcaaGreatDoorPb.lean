/- Plain laws of the highest thresholds: with them all are in time, with lower ones too, with one higher not. No program in sight. -/
import Derived.Test.YtopmnpkjhaabcaaGreatDoorBg
import Derived.Test.YtopmnpkjhaabcaaGreatDoorBc
import Derived.Test.YtopmnpkjhaabcaaGreatDoorPa
import Derived.Test.YtopmnpkjhaabcaaGreatDoorAc
set_option linter.unusedVariables false
set_option linter.unusedSimpArgs false
namespace Go.Proofs.YtopmnpkjhaabcaaGreatDoor

/-- But modes, Q, thresholds two rows of tasks are one. -/
structure Alike (ts l : List Task) : Prop where
  len : l.length = ts.length
  name : ∀ k, (gT l k).name = (gT ts k).name
  T : ∀ k, (gT l k).T = (gT ts k).T
  D : ∀ k, (gT l k).D = (gT ts k).D
  regs : ∀ k, (gT l k).regs = (gT ts k).regs
  ecb : ∀ k, (gT l k).ecb = (gT ts k).ecb
  ucb : ∀ k, (gT l k).ucb = (gT ts k).ucb
section
variable {reload : Int} {ts l : List Task}
theorem Alike.work (h : Alike ts l) (k : Nat) : workI l k = workI ts k := by unfold workI; rw [h.regs]
theorem Alike.own (h : Alike ts l) (k : Nat) : ownI reload l k = ownI reload ts k := by unfold ownI; rw [h.ucb]
theorem Alike.low (h : Alike ts l) (j k : Nat) : lowTo l j k = lowTo ts j k := by
  induction k with
  | zero => rfl
  | succ k ih => simp only [lowTo, ih, h.ucb]
theorem Alike.made (h : Alike ts l) (k : Nat) : madeI reload l k = madeI reload ts k := by unfold madeI madeX; rw [h.ecb, h.low, h.len]
theorem Alike.loads (h : Alike ts l) (i : Nat) : loadsI reload l i = loadsI reload ts i := by
  unfold loadsI
  refine List.map_congr_left fun j _ => ?_
  unfold loadI
  rw [h.T, h.work, h.made]
theorem Alike.act (h : Alike ts l) (i : Nat) (b : Int) : actF reload l i b = actF reload ts i b := by
  unfold actF actL
  rw [h.loads, h.T, h.work]
theorem Alike.with (h : Alike ts l) (i : Nat) (b : Int) : withF reload l i b = withF reload ts i b := by
  unfold withF
  rw [h.act, h.T, h.work, h.loads, h.D]
theorem Alike.good (h : Alike ts l) (hG : Good reload ts) : Good reload l := by
  have hl := h.len
  exact ⟨hG.r0, hG.r1, by rw [hl]; exact hG.n1, by rw [hl]; exact hG.n8, fun k hk => by rw [h.regs]; exact hG.regs k (by omega), fun k hk => by rw [h.regs, h.D]; exact hG.cd k (by omega), fun k hk => by rw [h.D, h.T]; exact hG.dt k (by omega), fun k hk => by rw [h.T]; exact hG.tm k (by omega), fun k hk => by rw [h.ucb]; exact hG.ucb k (by omega), fun k hk => by rw [h.ecb]; exact hG.ecb k (by omega)⟩
theorem Alike.all (h : Alike ts l) (hr : refAllB reload ts = true) (hm : ∀ k, k < l.length → (gT l k).mode = 2 ∧ (gT l k).Q = 0 ∧ 0 ≤ (gT l k).theta ∧ (gT l k).theta ≤ k) : refAllB reload l = true := by
  have hl := h.len
  obtain ⟨h1, h2, h3, h4, h5⟩ := refAll_at hr
  have hT : ∀ k, k < l.length → refT l k = true := fun k hk => by
    have h6 := h5 k (by omega)
    unfold refT at h6 ⊢
    simp only [Bool.and_eq_true] at h6 ⊢
    refine ⟨?_, ?_⟩
    · have h7 := h6.1
      obtain ⟨m1, m2, m3, m4⟩ := hm k hk
      unfold refIsB at h7 ⊢
      rw [h.name, h.regs, h.ucb, h.ecb, h.D, h.T]
      have hmo : modeB (gT l k) k = true := by unfold modeB; rw [m1]; simp [m2, m3, m4]
      rw [hmo]
      simp only [Bool.and_eq_true, decide_eq_true_eq] at h7 ⊢
      exact ⟨h7.1, h7.2.1, h7.2.2.1, h7.2.2.2.1, h7.2.2.2.2.1, h7.2.2.2.2.2.1, trivial⟩
    · have h8 := h6.2
      have he : (fun j => decide ((gT l j).name = (gT l k).name)) = fun j => decide ((gT ts j).name = (gT ts k).name) := by
        funext j
        rw [h.name, h.name]
      rw [he]
      exact h8
  unfold refAllB inB
  have : (List.range l.length).all (refT l) = true := by
    rw [List.all_eq_true]
    intro j hj
    exact hT j (List.mem_range.1 hj)
  rw [this]
  simp [h1, h2, hl, h3, h4]
end
def accAll (reload : Int) (ts : List Task) : Prop := ∀ i, i < ts.length → (withF reload ts i (mostI reload ts i)).2 = 1
theorem upGo_below (bear : List Int) (w : Int) (p i : Nat) (h : upGo bear w p ≤ i) (hi : i < p) : w ≤ gI bear i := by
  induction p with
  | zero => omega
  | succ p ih =>
    rw [upGo] at h
    by_cases hw : w ≤ gI bear p
    · rw [if_pos hw] at h
      by_cases hip : i = p
      · subst hip; exact hw
      · exact ih h (by omega)
    · rw [if_neg hw] at h; omega
theorem upGo_stop (bear : List Int) (w : Int) (q p : Nat) (h : upGo bear w q = p + 1) : ¬ w ≤ gI bear p := by
  induction q with
  | zero => simp [upGo] at h
  | succ q ih =>
    rw [upGo] at h
    by_cases hw : w ≤ gI bear q
    · rw [if_pos hw] at h; exact ih h
    · rw [if_neg hw] at h
      obtain rfl : q = p := by omega
      exact hw
/-- Thresholds that are the highest ones, or lower. -/
structure Under (reload : Int) (ts l : List Task) (bear : List Int) : Prop where
  like : Alike ts l
  th : ∀ k, k < ts.length → pI reload ts bear k ≤ (gT l k).theta ∧ (gT l k).theta ≤ k
theorem bear_at {reload : Int} {ts : List Task} {bear : List Int} (ht : tolAllF reload ts = some bear) {i : Nat} (hi : i < ts.length) : tolF reload ts i = some (gI bear i) := by
  unfold tolAllF at ht
  split at ht
  · rename_i h
    cases ht
    have hs := h i hi
    obtain ⟨n, hn⟩ := Option.isSome_iff_exists.1 hs
    rw [hn]
    congr 1
    rw [gI_at (by rw [bearL_len]; exact hi)]
    simp [bearL, bearI, hn]
  · cases ht
theorem Under.most {reload : Int} {ts l : List Task} {bear : List Int} (h : Under reload ts l bear) (hG : Good reload ts) (ht : tolAllF reload ts = some bear) {i : Nat} (hi : i < ts.length) (m : Nat) (hm : i + 1 + m ≤ ts.length) : mostTo reload l i m ≤ gI bear i := by
  obtain ⟨g0, -, -⟩ := tolF_some hG hi (bear_at ht hi)
  induction m with
  | zero => exact g0
  | succ m ih =>
    rw [mostTo]
    have h1 := ih (by omega)
    have h2 := h.th (i + 1 + m) (by omega)
    have h3 : thrI reload l (i + 1 + m) i ≤ gI bear i := by
      unfold thrI
      split
      · rename_i h4
        rw [h.like.work, h.like.own]
        have h5 : pI reload ts bear (i + 1 + m) ≤ i := by omega
        exact upGo_below bear (wholeI reload ts (i + 1 + m)) (i + 1 + m) i (by unfold pI at h5; omega) (by omega)
      · exact g0
    omega
theorem Under.accepted {reload : Int} {ts l : List Task} {bear : List Int} (h : Under reload ts l bear) (hG : Good reload ts) (ht : tolAllF reload ts = some bear) : accAll reload l := by
  intro i hi
  rw [h.like.len] at hi
  rw [h.like.with]
  obtain ⟨-, -, g2⟩ := tolF_some hG hi (bear_at ht hi)
  have hl := h.like.len
  have hb := mostTo_bound (h.like.good hG) i (l.length - (i + 1)) (by omega)
  exact (g2 _ hb.1).2 (h.most hG ht hi _ (by omega))
theorem mostTo_ge (reload : Int) (l : List Task) (i m j : Nat) (h : j < m) : thrI reload l (i + 1 + j) i ≤ mostTo reload l i m := by
  induction m with
  | zero => omega
  | succ m ih =>
    rw [mostTo]
    by_cases hj : j = m
    · subst hj; omega
    · have := ih (by omega)
      omega
/-- One threshold that is higher by one: not all are in time. -/
theorem over_refused {reload : Int} {ts l : List Task} {bear : List Int} (hG : Good reload ts) (ht : tolAllF reload ts = some bear) (hl : Alike ts l) {i : Nat} (hi : i < ts.length) {p : Nat} (hp : pI reload ts bear i = ((p + 1 : Nat) : Int)) (hth : (gT l i).theta = p) : ¬ accAll reload l := by
  intro h
  have hp2 : upGo bear (wholeI reload ts i) i = p + 1 := by unfold pI at hp; omega
  have hle := upGo_le bear (wholeI reload ts i) i
  have hpi : p < ts.length := by omega
  have h1 := h p (by rw [hl.len]; exact hpi)
  rw [hl.with] at h1
  obtain ⟨-, -, g2⟩ := tolF_some hG hpi (bear_at ht hpi)
  have hlen := hl.len
  have hb := mostTo_bound (hl.good hG) p (l.length - (p + 1)) (by omega)
  have h2 := (g2 _ hb.1).1 h1
  have h3 := mostTo_ge reload l p (l.length - (p + 1)) (i - (p + 1)) (by omega)
  rw [show p + 1 + (i - (p + 1)) = i by omega] at h3
  have h4 : thrI reload l i p = wholeI reload ts i := by
    unfold thrI
    rw [if_pos (by omega), hl.work, hl.own]
    rfl
  have h5 := upGo_stop bear _ _ _ hp2
  unfold mostI at h2
  omega
theorem put_alike (reload : Int) (ts : List Task) (bear : List Int) : Alike ts ((List.range ts.length).map (pTask reload ts bear)) := by
  have key : ∀ k, gT ((List.range ts.length).map (pTask reload ts bear)) k = if k < ts.length then pTask reload ts bear k else noTask := fun k => by
    split
    · rename_i hk
      rw [gT_at (by simpa using hk)]; simp
    · rename_i hk
      unfold gT
      rw [List.getD_eq_getElem?_getD, List.getElem?_eq_none (by simp; omega)]; rfl
  have no : ∀ k, ¬ k < ts.length → gT ts k = noTask := fun k hk => by
    unfold gT
    rw [List.getD_eq_getElem?_getD, List.getElem?_eq_none (by omega)]; rfl
  refine ⟨by simp, fun k => ?_, fun k => ?_, fun k => ?_, fun k => ?_, fun k => ?_, fun k => ?_⟩ <;>
  · rw [key]
    split
    · rfl
    · rename_i hk
      rw [no k hk]
theorem put_at (reload : Int) (ts : List Task) (bear : List Int) {k : Nat} (hk : k < ts.length) : gT ((List.range ts.length).map (pTask reload ts bear)) k = pTask reload ts bear k := by
  rw [gT_at (by simpa using hk)]; simp
theorem pI_bound (reload : Int) (ts : List Task) (bear : List Int) (k : Nat) : 0 ≤ pI reload ts bear k ∧ pI reload ts bear k ≤ k := by
  have := upGo_le bear (wholeI reload ts k) k
  unfold pI
  omega
theorem put_under (reload : Int) (ts : List Task) (bear : List Int) : Under reload ts ((List.range ts.length).map (pTask reload ts bear)) bear :=
  ⟨put_alike reload ts bear, fun k hk => by rw [put_at reload ts bear hk]; exact ⟨Int.le_refl _, (pI_bound reload ts bear k).2⟩⟩
/-- A row of tasks, the threshold of one another. -/
def setTh (l : List Task) (i : Nat) (t : Int) : List Task := l.set i { gT l i with theta := t }
theorem setTh_at (l : List Task) (i : Nat) (t : Int) (k : Nat) : gT (setTh l i t) k = if k = i ∧ i < l.length then { gT l i with theta := t } else gT l k := by
  unfold setTh
  show (l.set i _).getD k noTask = _
  rw [List.getD_eq_getElem?_getD, List.getElem?_set]
  by_cases hk : i = k
  · subst hk
    by_cases hi : i < l.length
    · simp [hi]
    · rw [if_pos rfl, if_neg hi, if_neg (by simp [hi])]
      unfold gT
      rw [List.getD_eq_getElem?_getD, List.getElem?_eq_none (by omega)]
  · rw [if_neg hk, if_neg (by intro h; exact hk h.1.symm)]
    unfold gT
    rw [List.getD_eq_getElem?_getD]
theorem setTh_alike {ts l : List Task} (h : Alike ts l) (i : Nat) (t : Int) : Alike ts (setTh l i t) := by
  refine ⟨by unfold setTh; rw [List.length_set, h.len], fun k => ?_, fun k => ?_, fun k => ?_, fun k => ?_, fun k => ?_, fun k => ?_⟩ <;> rw [setTh_at]
  · split
    · rename_i hk; rw [hk.1]; exact h.name i
    · exact h.name k
  · split
    · rename_i hk; rw [hk.1]; exact h.T i
    · exact h.T k
  · split
    · rename_i hk; rw [hk.1]; exact h.D i
    · exact h.D k
  · split
    · rename_i hk; rw [hk.1]; exact h.regs i
    · exact h.regs k
  · split
    · rename_i hk; rw [hk.1]; exact h.ecb i
    · exact h.ecb k
  · split
    · rename_i hk; rw [hk.1]; exact h.ucb i
    · exact h.ucb k
end Go.Proofs.YtopmnpkjhaabcaaGreatDoor
