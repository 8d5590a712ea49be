/- Plain laws: the least time, its growth with the base; how long a job takes grows with the blocking; a search by halves is a search one by one. No program in sight. -/
import Derived.Test.YtopmnpkjhaabcaaGreatDoorv
set_option linter.unusedVariables false
set_option linter.unusedSimpArgs false
namespace Go.Proofs.YtopmnpkjhaabcaaGreatDoor

/-- The least time in which all is done that comes in it. -/
structure IsLfp (base : Int) (l : List Ld) (y : Int) : Prop where
  one : 1 ≤ y
  fix : sumL base l y = y
  least : ∀ x, 1 ≤ x → sumL base l x ≤ x → y ≤ x
theorem leastGo_lfp {base : Int} {l : List Ld} (hok : OkL l) {y : Int} (h : IsLfp base l y) (hy : y ≤ 1000000) (f : Nat) (w : Int) (h1 : 1 ≤ w) (h2 : w ≤ y) (h3 : w ≤ sumL base l w) (hf : 1000001 ≤ f + w) : leastGo base l f w = some y := by
  induction f generalizing w with
  | zero => exfalso; omega
  | succ f ih =>
    have h4 := sumL_mono (base := base) hok h2
    rw [h.fix] at h4
    rw [leastGo]
    by_cases h5 : sumL base l w = w
    · rw [if_pos h5]
      have := h.least w h1 (by omega)
      congr 1; omega
    · rw [if_neg h5, if_neg (by omega)]
      have h6 := sumL_mono (base := base) hok h3
      exact ih _ (by omega) h4 h6 (by omega)
theorem leastF_lfp {base : Int} {l : List Ld} (hok : OkL l) {y : Int} (h : IsLfp base l y) (hy : y ≤ 1000000) (h1 : 1 ≤ sumL base l 1) : leastF base l = some y :=
  leastGo_lfp hok h hy 1000001 1 (by omega) h.one h1 (by omega)
theorem leastGo_post {base : Int} {l : List Ld} (hok : OkL l) (f : Nat) (w x : Int) (h1 : 1 ≤ w) (h2 : w ≤ x) (hx : x ≤ 1000000) (hp : sumL base l x ≤ x) (hw : w ≤ sumL base l w) (hf : 1000001 ≤ f + w) :
    ∃ y, leastGo base l f w = some y ∧ w ≤ y ∧ y ≤ x := by
  induction f generalizing w with
  | zero => exfalso; omega
  | succ f ih =>
    have h4 := sumL_mono (base := base) hok h2
    rw [leastGo]
    by_cases h5 : sumL base l w = w
    · rw [if_pos h5]
      exact ⟨w, rfl, Int.le_refl _, h2⟩
    · rw [if_neg h5, if_neg (by omega)]
      have h6 := sumL_mono (base := base) hok hw
      obtain ⟨y, e1, e2, e3⟩ := ih (sumL base l w) (by omega) (by omega) h6 (by omega)
      exact ⟨y, e1, by omega, e3⟩
/-- There is one, where some time is enough. -/
theorem leastF_post {base : Int} {l : List Ld} (hok : OkL l) (h1 : 1 ≤ sumL base l 1) {x : Int} (hx1 : 1 ≤ x) (hx : x ≤ 1000000) (hp : sumL base l x ≤ x) : ∃ y, leastF base l = some y ∧ y ≤ x := by
  obtain ⟨y, e1, _, e3⟩ := leastGo_post hok 1000001 1 x (by omega) hx1 hx hp h1 (by omega)
  exact ⟨y, e1, e3⟩
theorem leastF_is {base : Int} {l : List Ld} (hok : OkL l) (h1 : 1 ≤ sumL base l 1) {y : Int} (h : leastF base l = some y) : IsLfp base l y := by
  obtain ⟨g1, g2, g3⟩ := leastF_some h
  refine ⟨g1, g3, fun x hx1 hx => ?_⟩
  by_cases hb : x ≤ 1000000
  · obtain ⟨y', e1, e2⟩ := leastF_post hok h1 hx1 hb hx
    rw [h] at e1
    cases e1
    exact e2
  · omega
theorem doneGo_lfp {base : Int} {l : List Ld} (hok : OkL l) {y : Int} (h : IsLfp base l y) (f : Nat) (w : Int) (h1 : 1 ≤ w) (h2 : w ≤ y) (h3 : w ≤ sumL base l w) (hf : y < f + w) : doneGo base l f w = y := by
  induction f generalizing w with
  | zero => exfalso; omega
  | succ f ih =>
    have h4 := sumL_mono (base := base) hok h2
    rw [h.fix] at h4
    rw [doneGo]
    by_cases h5 : sumL base l w ≤ w
    · rw [if_pos h5]
      have := h.least w h1 h5
      omega
    · rw [if_neg h5]
      have h6 := sumL_mono (base := base) hok h3
      exact ih _ (by omega) h4 h6 (by omega)
theorem doneF_lfp {base : Int} {l : List Ld} (hok : OkL l) {y : Int} (h : IsLfp base l y) (hy : y ≤ 1000000) (w : Int) (h1 : 1 ≤ w) (h2 : w ≤ y) (h3 : w ≤ sumL base l w) : doneF base l w = y :=
  doneGo_lfp hok h 1000001 w h1 h2 h3 (by omega)
theorem ceilD_pos {a b : Int} (ha : 1 ≤ a) (hb : 1 ≤ b) : 1 ≤ ceilD a b := by
  have := (lt_ceilD (a := a) (q := 0) hb).1 (by omega)
  omega
theorem sumK_base {base : Int} {l : List Ld} (hok : OkL l) {w : Int} (h : 0 ≤ w) (k : Nat) (hk : k ≤ l.length) : base ≤ sumK base l w k := by
  induction k with
  | zero => exact Int.le_refl _
  | succ k ih =>
    have h1 := ih (by omega)
    have h2 := ceilD_nonneg h (hok.t k (by omega)).1
    have h3 := Int.mul_nonneg (hok.c k (by omega)).1 h2
    simp only [sumK]
    omega
theorem sumL_base {base : Int} {l : List Ld} (hok : OkL l) {w : Int} (h : 0 ≤ w) : base ≤ sumL base l w := sumK_base hok h _ (Nat.le_refl _)

/-- As the document says it: each job's end on its own. -/
def endI (bl C : Int) (l : List Ld) (q : Int) : Int := (leastF (bl + (q + 1) * C) l).getD 0
def refGo (bl T C long : Int) (l : List Ld) : Nat → Int → Int → Int
  | 0, _, r => r
  | k + 1, q, r => if q * T < long then refGo bl T C long l k (q + 1) (max r (endI bl C l q - q * T)) else r
def refR (bl T C long : Int) (l : List Ld) : Int := refGo bl T C long l 1000001 0 0
theorem succ_mul' (q C : Int) : (q + 1 + 1) * C = (q + 1) * C + C := by rw [Int.add_mul (q + 1) 1 C]; omega
theorem end_some {reload : Int} {ts : List Task} (hG : Good reload ts) {i : Nat} (hi : i < ts.length) {bl long q : Int} (hb0 : 0 ≤ bl) (h : actF reload ts i bl = some long) (h0 : 0 ≤ q) (hq : q * (gT ts i).T < long) :
    ∃ y, leastF (bl + (q + 1) * workI ts i) (loadsI reload ts i) = some y ∧ y ≤ long := by
  have hok := loadsI_ok hG (show i ≤ ts.length by omega)
  have hw := work_bound hG hi
  obtain ⟨g1, g2, -⟩ := leastF_some h
  have hqc : 1 ≤ (q + 1) * workI ts i := by
    have := Int.mul_le_mul (show 1 ≤ q + 1 by omega) hw.1 (by omega) (by omega)
    omega
  have hs := sumL_base (base := bl + (q + 1) * workI ts i) hok (w := 1) (by omega)
  exact leastF_post hok (by omega) g1 g2 (busy_bound hG hi hb0 h h0 hq long (by omega) (Int.le_refl _))
theorem withGo_ref {reload : Int} {ts : List Task} (hG : Good reload ts) {i : Nat} (hi : i < ts.length) {bl long : Int} (hb0 : 0 ≤ bl) (h : actF reload ts i bl = some long) (k : Nat) (q f r : Int) (h0 : 0 ≤ q) (hf1 : 1 ≤ f)
    (hf2 : f ≤ sumL (bl + (q + 1) * workI ts i) (loadsI reload ts i) f) (hf3 : ∀ y, leastF (bl + (q + 1) * workI ts i) (loadsI reload ts i) = some y → f ≤ y) :
    withGo bl (gT ts i).T (workI ts i) long (loadsI reload ts i) k q f r = refGo bl (gT ts i).T (workI ts i) long (loadsI reload ts i) k q r := by
  have hok := loadsI_ok hG (show i ≤ ts.length by omega)
  have hw := work_bound hG hi
  induction k generalizing q f r with
  | zero => rfl
  | succ k ih =>
    rw [withGo, refGo]
    by_cases hq : q * (gT ts i).T < long
    · rw [if_pos hq, if_pos hq]
      obtain ⟨y, e1, e2⟩ := end_some hG hi hb0 h h0 hq
      have hqc : 1 ≤ (q + 1) * workI ts i := by
        have := Int.mul_le_mul (show 1 ≤ q + 1 by omega) hw.1 (by omega) (by omega)
        omega
      have hs := sumL_base (base := bl + (q + 1) * workI ts i) hok (w := 1) (by omega)
      have hl := leastF_is hok (by omega) e1
      have hlong := (leastF_some h).2.1
      have hd := doneF_lfp hok hl (by omega) f hf1 (hf3 y e1) hf2
      have he : endI bl (workI ts i) (loadsI reload ts i) q = y := by unfold endI; rw [e1]; rfl
      rw [hd, he]
      have hsh := sumL_shift (bl + (q + 1) * workI ts i) (workI ts i) (loadsI reload ts i)
      have hse : bl + (q + 1 + 1) * workI ts i = bl + (q + 1) * workI ts i + workI ts i := by rw [succ_mul']; omega
      refine ih (q + 1) y _ (by omega) hl.one ?_ ?_
      · rw [hse, hsh, hl.fix]; omega
      · intro y' e'
        rw [hse] at e'
        have hs2 := sumL_base (base := bl + (q + 1) * workI ts i + workI ts i) hok (w := 1) (by omega)
        have hl' := leastF_is hok (by omega) e'
        exact hl.least y' hl'.one (by have := hl'.fix; rw [hsh] at this; omega)
    · rw [if_neg hq, if_neg hq]
theorem withR_ref {reload : Int} {ts : List Task} (hG : Good reload ts) {i : Nat} (hi : i < ts.length) {bl long : Int} (hb0 : 0 ≤ bl) (h : actF reload ts i bl = some long) :
    withR bl (gT ts i).T (workI ts i) long (loadsI reload ts i) = refR bl (gT ts i).T (workI ts i) long (loadsI reload ts i) := by
  have hok := loadsI_ok hG (show i ≤ ts.length by omega)
  have hw := work_bound hG hi
  have hs := sumL_base (base := bl + (0 + 1) * workI ts i) hok (w := 1) (by omega)
  exact withGo_ref hG hi hb0 h 1000001 0 1 0 (by omega) (by omega) (by omega) (fun y hy => (leastF_some hy).1)
theorem refGo_le (bl T C long : Int) (l : List Ld) (D : Int) (hT : 1 ≤ T) (k : Nat) (q r : Int) (h0 : 0 ≤ q) (hk : long < k + q * T) :
    refGo bl T C long l k q r ≤ D ↔ r ≤ D ∧ ∀ p, q ≤ p → p * T < long → endI bl C l p - p * T ≤ D := by
  induction k generalizing q r with
  | zero =>
    rw [refGo]
    refine ⟨fun h => ⟨h, fun p hp hpl => ?_⟩, fun h => h.1⟩
    have := Int.mul_le_mul_of_nonneg_right hp (show 0 ≤ T by omega)
    omega
  | succ k ih =>
    rw [refGo]
    have hm : (q + 1) * T = q * T + T := by rw [Int.add_mul]; omega
    by_cases hq : q * T < long
    · rw [if_pos hq, ih (q + 1) _ (by omega) (by omega)]
      constructor
      · rintro ⟨h1, h2⟩
        refine ⟨by omega, fun p hp hpl => ?_⟩
        by_cases hpq : p = q
        · subst hpq; omega
        · exact h2 p (by omega) hpl
      · rintro ⟨h1, h2⟩
        have := h2 q (Int.le_refl _) hq
        exact ⟨by omega, fun p hp hpl => h2 p (by omega) hpl⟩
    · rw [if_neg hq]
      refine ⟨fun h => ⟨h, fun p hp hpl => ?_⟩, fun h => h.1⟩
      have := Int.mul_le_mul_of_nonneg_right hp (show 0 ≤ T by omega)
      omega
/-- When a task's jobs are in time. -/
theorem withF_ok {reload : Int} {ts : List Task} (hG : Good reload ts) {i : Nat} (hi : i < ts.length) {bl : Int} (hb0 : 0 ≤ bl) :
    (withF reload ts i bl).2 = 1 ↔ ∃ long, actF reload ts i bl = some long ∧ ∀ p, 0 ≤ p → p * (gT ts i).T < long → endI bl (workI ts i) (loadsI reload ts i) p - p * (gT ts i).T ≤ (gT ts i).D := by
  have hT := T_bound hG hi
  have hw := work_bound hG hi
  have hcd := hG.cd i hi
  unfold withF
  cases ha : actF reload ts i bl with
  | none => simp
  | some long =>
    have hl := leastF_some ha
    have hr := withR_ref hG hi hb0 ha
    have hle := refGo_le bl (gT ts i).T (workI ts i) long (loadsI reload ts i) (gT ts i).D hT.1 1000001 0 0 (by omega) (by omega)
    simp only
    rw [hr]
    change refR _ _ _ _ _ ≤ _ ↔ _ at hle
    constructor
    · intro h
      refine ⟨long, rfl, ?_⟩
      split at h
      · exact (hle.1 (by assumption)).2
      · cases h
    · rintro ⟨_, h1, h2⟩
      cases h1
      rw [if_pos (hle.2 ⟨by unfold workI at hw; omega, h2⟩)]
theorem actL_one {reload : Int} {ts : List Task} (hG : Good reload ts) {i : Nat} (hi : i < ts.length) {bl : Int} (hb0 : 0 ≤ bl) : 1 ≤ sumL bl (actL reload ts i) 1 := by
  unfold actL
  rw [sumL_snoc]
  have hok := loadsI_ok hG (show i ≤ ts.length by omega)
  have hw := work_bound hG hi
  have h1 := sumL_base (base := bl) hok (w := 1) (by omega)
  have h2 := ceilD_pos (show (1 : Int) ≤ 1 by omega) (T_bound hG hi).1
  have h3 := Int.mul_le_mul hw.1 h2 (by omega) (by omega)
  simp only
  omega
/-- Less blocking, no less in time. -/
theorem withF_mono {reload : Int} {ts : List Task} (hG : Good reload ts) {i : Nat} (hi : i < ts.length) {b b' : Int} (hb0 : 0 ≤ b) (hb : b ≤ b') (h : (withF reload ts i b').2 = 1) : (withF reload ts i b).2 = 1 := by
  rw [withF_ok hG hi (by omega)] at h ⊢
  obtain ⟨long', h1, h2⟩ := h
  have hok := loadsI_ok hG (show i ≤ ts.length by omega)
  have haok := actL_ok hG hi
  have hw := work_bound hG hi
  have hl' := leastF_some h1
  have hsh := sumL_shift b (b' - b) (actL reload ts i) long'
  rw [show b + (b' - b) = b' by omega] at hsh
  obtain ⟨long, e1, e2⟩ := leastF_post haok (actL_one hG hi hb0) hl'.1 hl'.2.1 (by omega)
  refine ⟨long, e1, fun p hp hpl => ?_⟩
  have h3 := h2 p hp (by omega)
  obtain ⟨y', d1, d2⟩ := end_some hG hi (show 0 ≤ b' by omega) h1 hp (by omega)
  obtain ⟨y, c1, c2⟩ := end_some hG hi hb0 e1 hp hpl
  have hpc : 1 ≤ (p + 1) * workI ts i := by
    have := Int.mul_le_mul (show 1 ≤ p + 1 by omega) hw.1 (by omega) (by omega)
    omega
  have hs := sumL_base (base := b + (p + 1) * workI ts i) hok (w := 1) (by omega)
  have hs' := sumL_base (base := b' + (p + 1) * workI ts i) hok (w := 1) (by omega)
  have hy := leastF_is hok (by omega) c1
  have hy' := leastF_is hok (by omega) d1
  have hsh2 := sumL_shift (b + (p + 1) * workI ts i) (b' - b) (loadsI reload ts i) y'
  rw [show b + (p + 1) * workI ts i + (b' - b) = b' + (p + 1) * workI ts i by omega] at hsh2
  have hyy := hy.least y' hy'.one (by have := hy'.fix; omega)
  unfold endI at h3 ⊢
  rw [d1] at h3
  rw [c1]
  simp only [Option.getD_some] at h3 ⊢
  omega
/-- What is in time is done by the deadline, its blocking and its work. -/
theorem withF_least {reload : Int} {ts : List Task} (hG : Good reload ts) {i : Nat} (hi : i < ts.length) {b : Int} (hb0 : 0 ≤ b) (h : (withF reload ts i b).2 = 1) : b + workI ts i ≤ (gT ts i).D := by
  obtain ⟨long, h1, h2⟩ := (withF_ok hG hi hb0).1 h
  have hl := leastF_some h1
  have hok := loadsI_ok hG (show i ≤ ts.length by omega)
  have hw := work_bound hG hi
  have h3 := h2 0 (Int.le_refl _) (by omega)
  obtain ⟨y, c1, c2⟩ := end_some hG hi hb0 h1 (Int.le_refl 0) (by omega)
  have hs := sumL_base (base := b + (0 + 1) * workI ts i) hok (w := 1) (by omega)
  have hy := leastF_is hok (by omega) c1
  have h4 := sumL_base (base := b + (0 + 1) * workI ts i) hok (w := y) (by have := hy.one; omega)
  unfold endI at h3
  rw [c1] at h3
  simp only [Option.getD_some] at h3
  have := hy.fix
  omega
/-- A search by halves finds the first. -/
theorem searchGo_first (p : Int → Bool) (hm : ∀ a b, 0 ≤ a → a ≤ b → p a = true → p b = true) (n : Int) (k : Nat) (i j : Int) (h0 : 0 ≤ i) (hij : i ≤ j) (hk : j < k + i)
    (hlo : ∀ x, 0 ≤ x → x < i → p x = false) (hhi : j < n → p j = true) :
    (∀ x, 0 ≤ x → x < searchGo p k i j → p x = false) ∧ (searchGo p k i j < n → p (searchGo p k i j) = true) := by
  induction k generalizing i j with
  | zero => exfalso; omega
  | succ k ih =>
    rw [searchGo]
    by_cases h : i < j
    · rw [if_pos h]
      cases hp : p ((i + j) / 2)
      · simp only [Bool.false_eq_true, if_false]
        refine ih _ _ (by omega) (by omega) (by omega) (fun x hx0 hx => ?_) hhi
        cases hpx : p x
        · rfl
        · have := hm x ((i + j) / 2) hx0 (by omega) hpx
          rw [hp] at this; cases this
      · simp only [if_true]
        exact ih _ _ h0 (by omega) (by omega) hlo (fun _ => hp)
    · rw [if_neg h]
      obtain rfl : i = j := by omega
      exact ⟨hlo, hhi⟩
theorem searchF_first (p : Int → Bool) (hm : ∀ a b, 0 ≤ a → a ≤ b → p a = true → p b = true) {n : Int} (h : 0 ≤ n) :
    (∀ x, 0 ≤ x → x < searchF p n → p x = false) ∧ (searchF p n < n → p (searchF p n) = true) :=
  searchGo_first p hm n _ 0 n (by omega) h (by omega) (fun x h0 h1 => by omega) (fun h => by omega)
theorem oddB_mono {reload : Int} {ts : List Task} (hG : Good reload ts) {i : Nat} (hi : i < ts.length) (a b : Int) (h0 : 0 ≤ a) (h : a ≤ b) (hp : oddB reload ts i a = true) : oddB reload ts i b = true := by
  unfold oddB at hp ⊢
  simp only [Bool.not_eq_true', decide_eq_false_iff_not] at hp ⊢
  exact fun hb => hp (withF_mono hG hi h0 h hb)
theorem D_bound {reload : Int} {ts : List Task} (hG : Good reload ts) {i : Nat} (hi : i < ts.length) : 1 ≤ (gT ts i).D ∧ (gT ts i).D ≤ 10000 := by
  have h1 := work_bound hG hi
  have h2 := hG.cd i hi
  have h3 := hG.dt i hi
  have h4 := hG.tm i hi
  unfold workI at h1
  omega
/-- What a task bears: with this much it is in time, with one more it is not. -/
theorem tolF_some {reload : Int} {ts : List Task} (hG : Good reload ts) {i : Nat} (hi : i < ts.length) {n : Int} (h : tolF reload ts i = some n) :
    0 ≤ n ∧ n ≤ (gT ts i).D ∧ ∀ b, 0 ≤ b → ((withF reload ts i b).2 = 1 ↔ b ≤ n) := by
  have hD := D_bound hG hi
  obtain ⟨r0, r1⟩ := searchF_range (oddB reload ts i) ((gT ts i).D + 1) (by omega)
  obtain ⟨f0, f1⟩ := searchF_first (oddB reload ts i) (oddB_mono hG hi) (n := (gT ts i).D + 1) (by omega)
  unfold tolF at h
  split at h
  · cases h
  · simp only [Option.some.injEq] at h
    refine ⟨by omega, by omega, fun b hb => ⟨fun hk => ?_, fun hk => ?_⟩⟩
    · by_cases hlt : searchF (oddB reload ts i) ((gT ts i).D + 1) < (gT ts i).D + 1
      · by_cases hbn : b ≤ n
        · exact hbn
        · exfalso
          have h1 := withF_mono hG hi (b := n + 1) (by omega) (show n + 1 ≤ b by omega) hk
          have h2 := f1 hlt
          rw [show searchF (oddB reload ts i) ((gT ts i).D + 1) = n + 1 by omega] at h2
          unfold oddB at h2
          rw [h1] at h2
          simp at h2
      · have := withF_least hG hi hb hk
        have := work_bound hG hi
        omega
    · have h1 := f0 b hb (by omega)
      unfold oddB at h1
      simpa using h1
theorem tolF_none {reload : Int} {ts : List Task} (hG : Good reload ts) {i : Nat} (hi : i < ts.length) : tolF reload ts i = none ↔ (withF reload ts i 0).2 ≠ 1 := by
  have hD := D_bound hG hi
  obtain ⟨r0, r1⟩ := searchF_range (oddB reload ts i) ((gT ts i).D + 1) (by omega)
  obtain ⟨f0, f1⟩ := searchF_first (oddB reload ts i) (oddB_mono hG hi) (n := (gT ts i).D + 1) (by omega)
  unfold tolF
  by_cases h : searchF (oddB reload ts i) ((gT ts i).D + 1) = 0
  · rw [if_pos h]
    have h2 := f1 (by omega)
    rw [h] at h2
    unfold oddB at h2
    simpa using h2
  · rw [if_neg h]
    have h1 := f0 0 (by omega) (by omega)
    unfold oddB at h1
    simpa using h1
end Go.Proofs.YtopmnpkjhaabcaaGreatDoor
