/- bits.Count; again.Own, Made, Cost walked. The first part is plain: how many bits a number has. -/
import Derived.Test.YtopmnpkjhaabcaaGreatDoorl
import Derived.Test.YtopmnpkjhaabcaaGreatDoorj
import Derived.Laws.Bits64b
import Derived.Laws.Bits128
set_option linter.unusedVariables false
set_option linter.unusedSimpArgs false
namespace Go.Proofs.YtopmnpkjhaabcaaGreatDoor
open Go.RowKit

theorem land_parts (n a m A M : Nat) (ha : a < 2 ^ n) (hm : m < 2 ^ n) : (a + 2 ^ n * A) &&& (m + 2 ^ n * M) = (a &&& m) + 2 ^ n * (A &&& M) := by
  apply Nat.eq_of_testBit_eq
  intro i
  have hc : (a &&& m) < 2 ^ n := Nat.lt_of_le_of_lt Nat.and_le_left ha
  rw [Nat.testBit_and, Nat.add_comm a, Nat.add_comm m, Nat.add_comm (a &&& m), Nat.testBit_two_pow_mul_add _ ha, Nat.testBit_two_pow_mul_add _ hm, Nat.testBit_two_pow_mul_add _ hc]
  split
  · rw [Nat.testBit_and]
  · rw [Nat.testBit_and]
theorem land_byte (a m A M : Nat) (ha : a < 256) (hm : m < 256) : (a + 256 * A) &&& (m + 256 * M) = (a &&& m) + 256 * (A &&& M) := land_parts 8 a m A M ha hm
def pop8 (a : Nat) : Nat := a % 2 + a / 2 % 2 + a / 4 % 2 + a / 8 % 2 + a / 16 % 2 + a / 32 % 2 + a / 64 % 2 + a / 128 % 2
def by8 (a b c d e f g h : Nat) : Nat := a + 256 * (b + 256 * (c + 256 * (d + 256 * (e + 256 * (f + 256 * (g + 256 * h))))))
theorem land_by8 (m a b c d e f g h : Nat) (hm : m < 256) (ha : a < 256) (hb : b < 256) (hc : c < 256) (hd : d < 256) (he : e < 256) (hf : f < 256) (hg : g < 256) :
    by8 a b c d e f g h &&& by8 m m m m m m m m = by8 (a &&& m) (b &&& m) (c &&& m) (d &&& m) (e &&& m) (f &&& m) (g &&& m) (h &&& m) := by
  unfold by8
  rw [land_byte _ _ _ _ ha hm, land_byte _ _ _ _ hb hm, land_byte _ _ _ _ hc hm, land_byte _ _ _ _ hd hm, land_byte _ _ _ _ he hm, land_byte _ _ _ _ hf hm, land_byte _ _ _ _ hg hm]
def f1 (a e : Nat) : Nat := ((a / 2 + 128 * (e % 2)) &&& 0x55) + (a &&& 0x55)
def f2 (a e : Nat) : Nat := ((a / 4 + 64 * (e % 4)) &&& 0x33) + (a &&& 0x33)
def f3 (a e : Nat) : Nat := (a / 16 + 16 * (e % 16) + a) &&& 0x0f
def g1 (a : Nat) : Nat := f1 a 0
def g2 (a : Nat) : Nat := f2 (f1 a 0) 0
theorem f1_eq : ∀ a, a < 256 → ∀ e, e < 2 → f1 a e = f1 a 0 ∧ f1 a 0 < 256 := by decide +kernel
theorem f2_eq : ∀ a, a < 256 → ∀ e, e < 4 → f2 a e = f2 a 0 := by decide +kernel
theorem f2_lt : ∀ a, a < 256 → f2 (f1 a 0) 0 < 256 ∧ f2 (f1 a 0) 0 % 16 ≤ 4 ∧ f2 (f1 a 0) 0 / 16 ≤ 4 := by decide +kernel
theorem f3_eq : ∀ a, a < 256 → ∀ e, e < 5 → f3 (f2 (f1 a 0) 0) e = pop8 a := by decide +kernel
theorem pop8_le : ∀ a, a < 256 → pop8 a ≤ 8 := by decide +kernel
theorem by8_half (a b c d e f g h : Nat) (ha : a < 256) (hb : b < 256) (hc : c < 256) (hd : d < 256) (he : e < 256) (hf : f < 256) (hg : g < 256) (hh : h < 256) : by8 a b c d e f g h / 2 = by8 (a / 2 + 128 * (b % 2)) (b / 2 + 128 * (c % 2)) (c / 2 + 128 * (d % 2)) (d / 2 + 128 * (e % 2)) (e / 2 + 128 * (f % 2)) (f / 2 + 128 * (g % 2)) (g / 2 + 128 * (h % 2)) (h / 2 + 128 * (0 % 2)) := by
  unfold by8; omega
theorem by8_quart (a b c d e f g h : Nat) (ha : a < 256) (hb : b < 256) (hc : c < 256) (hd : d < 256) (he : e < 256) (hf : f < 256) (hg : g < 256) (hh : h < 256) : by8 a b c d e f g h / 4 = by8 (a / 4 + 64 * (b % 4)) (b / 4 + 64 * (c % 4)) (c / 4 + 64 * (d % 4)) (d / 4 + 64 * (e % 4)) (e / 4 + 64 * (f % 4)) (f / 4 + 64 * (g % 4)) (g / 4 + 64 * (h % 4)) (h / 4 + 64 * (0 % 4)) := by
  unfold by8; omega
theorem by8_nib (a b c d e f g h : Nat) (ha : a < 256) (hb : b < 256) (hc : c < 256) (hd : d < 256) (he : e < 256) (hf : f < 256) (hg : g < 256) (hh : h < 256) : by8 a b c d e f g h / 16 + by8 a b c d e f g h = by8 (a / 16 + 16 * (b % 16) + a) (b / 16 + 16 * (c % 16) + b) (c / 16 + 16 * (d % 16) + c) (d / 16 + 16 * (e % 16) + d) (e / 16 + 16 * (f % 16) + e) (f / 16 + 16 * (g % 16) + f) (g / 16 + 16 * (h % 16) + g) (h / 16 + 16 * (0 % 16) + h) := by
  unfold by8; omega
theorem f1_all {a : Nat} (ha : a < 256) (e : Nat) : f1 a e = f1 a 0 := by
  have := (f1_eq a ha (e % 2) (Nat.mod_lt _ (by decide))).1
  rwa [show f1 a (e % 2) = f1 a e by unfold f1; rw [Nat.mod_mod]] at this
theorem f2_all {a : Nat} (ha : a < 256) (e : Nat) : f2 a e = f2 a 0 := by
  have := f2_eq a ha (e % 4) (Nat.mod_lt _ (by decide))
  rwa [show f2 a (e % 4) = f2 a e by unfold f2; rw [Nat.mod_mod]] at this
theorem f3_all {a : Nat} (ha : a < 256) (e : Nat) (he : e % 16 ≤ 4) : f3 (f2 (f1 a 0) 0) e = pop8 a := by
  have := f3_eq a ha (e % 16) (by omega)
  rwa [show f3 (f2 (f1 a 0) 0) (e % 16) = f3 (f2 (f1 a 0) 0) e by unfold f3; rw [Nat.mod_mod]] at this
theorem by8_add (a b c d e f g h a' b' c' d' e' f' g' h' : Nat) : by8 a b c d e f g h + by8 a' b' c' d' e' f' g' h' = by8 (a + a') (b + b') (c + c') (d + d') (e + e') (f + f') (g + g') (h + h') := by
  unfold by8; omega
theorem by8_of (x : Nat) (h : x < 18446744073709551616) : by8 (x % 256) (x / 256 % 256) (x / 65536 % 256) (x / 16777216 % 256) (x / 4294967296 % 256) (x / 1099511627776 % 256) (x / 281474976710656 % 256) (x / 72057594037927936 % 256) = x := by
  unfold by8; omega
theorem by8_lt (a b c d e f g h : Nat) (ha : a < 256) (hb : b < 256) (hc : c < 256) (hd : d < 256) (he : e < 256) (hf : f < 256) (hg : g < 256) (hh : h < 256) : by8 a b c d e f g h < 18446744073709551616 := by
  unfold by8; omega
def n1 (x : Nat) : Nat := (x / 2 &&& 6148914691236517205) + (x &&& 6148914691236517205)
def n2 (x : Nat) : Nat := (x / 4 &&& 3689348814741910323) + (x &&& 3689348814741910323)
def n3 (x : Nat) : Nat := (x / 16 + x) &&& 1085102592571150095
theorem land55 (a b c d e f g h : Nat) (ha : a < 256) (hb : b < 256) (hc : c < 256) (hd : d < 256) (he : e < 256) (hf : f < 256) (hg : g < 256) :
    by8 a b c d e f g h &&& 6148914691236517205 = by8 (a &&& 0x55) (b &&& 0x55) (c &&& 0x55) (d &&& 0x55) (e &&& 0x55) (f &&& 0x55) (g &&& 0x55) (h &&& 0x55) :=
  land_by8 0x55 a b c d e f g h (by decide) ha hb hc hd he hf hg
theorem land33 (a b c d e f g h : Nat) (ha : a < 256) (hb : b < 256) (hc : c < 256) (hd : d < 256) (he : e < 256) (hf : f < 256) (hg : g < 256) :
    by8 a b c d e f g h &&& 3689348814741910323 = by8 (a &&& 0x33) (b &&& 0x33) (c &&& 0x33) (d &&& 0x33) (e &&& 0x33) (f &&& 0x33) (g &&& 0x33) (h &&& 0x33) :=
  land_by8 0x33 a b c d e f g h (by decide) ha hb hc hd he hf hg
theorem land0f (a b c d e f g h : Nat) (ha : a < 256) (hb : b < 256) (hc : c < 256) (hd : d < 256) (he : e < 256) (hf : f < 256) (hg : g < 256) :
    by8 a b c d e f g h &&& 1085102592571150095 = by8 (a &&& 0x0f) (b &&& 0x0f) (c &&& 0x0f) (d &&& 0x0f) (e &&& 0x0f) (f &&& 0x0f) (g &&& 0x0f) (h &&& 0x0f) :=
  land_by8 0x0f a b c d e f g h (by decide) ha hb hc hd he hf hg
theorem n1_by8 (a b c d e f g h : Nat) (ha : a < 256) (hb : b < 256) (hc : c < 256) (hd : d < 256) (he : e < 256) (hf : f < 256) (hg : g < 256) (hh : h < 256) :
    n1 (by8 a b c d e f g h) = by8 (f1 a 0) (f1 b 0) (f1 c 0) (f1 d 0) (f1 e 0) (f1 f 0) (f1 g 0) (f1 h 0) := by
  unfold n1
  rw [by8_half a b c d e f g h ha hb hc hd he hf hg hh, land55 _ _ _ _ _ _ _ _ (by omega) (by omega) (by omega) (by omega) (by omega) (by omega) (by omega), land55 _ _ _ _ _ _ _ _ ha hb hc hd he hf hg, by8_add]
  rw [← f1_all ha b, ← f1_all hb c, ← f1_all hc d, ← f1_all hd e, ← f1_all he f, ← f1_all hf g, ← f1_all hg h]
  rfl
theorem n2_by8 (a b c d e f g h : Nat) (ha : a < 256) (hb : b < 256) (hc : c < 256) (hd : d < 256) (he : e < 256) (hf : f < 256) (hg : g < 256) (hh : h < 256) :
    n2 (by8 a b c d e f g h) = by8 (f2 a 0) (f2 b 0) (f2 c 0) (f2 d 0) (f2 e 0) (f2 f 0) (f2 g 0) (f2 h 0) := by
  unfold n2
  rw [by8_quart a b c d e f g h ha hb hc hd he hf hg hh, land33 _ _ _ _ _ _ _ _ (by omega) (by omega) (by omega) (by omega) (by omega) (by omega) (by omega), land33 _ _ _ _ _ _ _ _ ha hb hc hd he hf hg, by8_add]
  rw [← f2_all ha b, ← f2_all hb c, ← f2_all hc d, ← f2_all hd e, ← f2_all he f, ← f2_all hf g, ← f2_all hg h]
  rfl
theorem n3_by8 (a b c d e f g h : Nat) (ha : a < 256) (hb : b < 256) (hc : c < 256) (hd : d < 256) (he : e < 256) (hf : f < 256) (hg : g < 256) (hh : h < 256)
    (ha' : a % 16 ≤ 4 ∧ a / 16 ≤ 4) (hb' : b % 16 ≤ 4 ∧ b / 16 ≤ 4) (hc' : c % 16 ≤ 4 ∧ c / 16 ≤ 4) (hd' : d % 16 ≤ 4 ∧ d / 16 ≤ 4) (he' : e % 16 ≤ 4 ∧ e / 16 ≤ 4) (hf' : f % 16 ≤ 4 ∧ f / 16 ≤ 4) (hg' : g % 16 ≤ 4 ∧ g / 16 ≤ 4) (hh' : h % 16 ≤ 4 ∧ h / 16 ≤ 4) :
    n3 (by8 a b c d e f g h) = by8 (f3 a b) (f3 b c) (f3 c d) (f3 d e) (f3 e f) (f3 f g) (f3 g h) (f3 h 0) ∧ by8 a b c d e f g h / 16 + by8 a b c d e f g h < 18446744073709551616 := by
  unfold n3
  rw [by8_nib a b c d e f g h ha hb hc hd he hf hg hh]
  refine ⟨?_, by8_lt _ _ _ _ _ _ _ _ (by omega) (by omega) (by omega) (by omega) (by omega) (by omega) (by omega) (by omega)⟩
  rw [land0f _ _ _ _ _ _ _ _ (by omega) (by omega) (by omega) (by omega) (by omega) (by omega) (by omega)]
  rfl
def popN (x : Nat) : Nat := pop8 (x % 256) + pop8 (x / 256 % 256) + pop8 (x / 65536 % 256) + pop8 (x / 16777216 % 256) + pop8 (x / 4294967296 % 256) + pop8 (x / 1099511627776 % 256) + pop8 (x / 281474976710656 % 256) + pop8 (x / 72057594037927936 % 256)
def n4 (x : Nat) : Nat := x + x / 256
def n5 (x : Nat) : Nat := x + x / 65536
def n6 (x : Nat) : Nat := x + x / 4294967296
theorem n4_by8 (a b c d e f g h : Nat) (ha : a < 256) : n4 (by8 a b c d e f g h) = by8 (a + b) (b + c) (c + d) (d + e) (e + f) (f + g) (g + h) h := by
  have h1 : by8 a b c d e f g h / 256 = by8 b c d e f g h 0 := by unfold by8; omega
  unfold n4
  rw [h1, by8_add]; simp only [Nat.add_zero]
theorem n5_by8 (a b c d e f g h : Nat) (ha : a < 256) (hb : b < 256) : n5 (by8 a b c d e f g h) = by8 (a + c) (b + d) (c + e) (d + f) (e + g) (f + h) g h := by
  have h1 : by8 a b c d e f g h / 65536 = by8 c d e f g h 0 0 := by unfold by8; omega
  unfold n5
  rw [h1, by8_add]; simp only [Nat.add_zero]
theorem n6_by8 (a b c d e f g h : Nat) (ha : a < 256) (hb : b < 256) (hc : c < 256) (hd : d < 256) : n6 (by8 a b c d e f g h) = by8 (a + e) (b + f) (c + g) (d + h) e f g h := by
  have h1 : by8 a b c d e f g h / 4294967296 = by8 e f g h 0 0 0 0 := by unfold by8; omega
  unfold n6
  rw [h1, by8_add]; simp only [Nat.add_zero]
theorem by8_mod (a b c d e f g h : Nat) (ha : a < 128) : by8 a b c d e f g h % 128 = a := by unfold by8; omega
theorem by8_lt63 (a b c d e f g h : Nat) (ha : a < 256) (hb : b < 256) (hc : c < 256) (hd : d < 256) (he : e < 256) (hf : f < 256) (hg : g < 256) (hh : h < 128) : by8 a b c d e f g h < 9223372036854775808 := by
  unfold by8; omega
theorem fold8 (a b c d e f g h : Nat) (ha : a ≤ 8) (hb : b ≤ 8) (hc : c ≤ 8) (hd : d ≤ 8) (he : e ≤ 8) (hf : f ≤ 8) (hg : g ≤ 8) (hh : h ≤ 8) :
    n4 (by8 a b c d e f g h) < 9223372036854775808 ∧ n5 (n4 (by8 a b c d e f g h)) < 9223372036854775808 ∧ n6 (n5 (n4 (by8 a b c d e f g h))) < 9223372036854775808 ∧ n6 (n5 (n4 (by8 a b c d e f g h))) % 128 = a + b + c + d + e + f + g + h := by
  rw [n4_by8 _ _ _ _ _ _ _ _ (by omega), n5_by8 _ _ _ _ _ _ _ _ (by omega) (by omega), n6_by8 _ _ _ _ _ _ _ _ (by omega) (by omega) (by omega) (by omega), by8_mod _ _ _ _ _ _ _ _ (by omega)]
  refine ⟨by8_lt63 _ _ _ _ _ _ _ _ (by omega) (by omega) (by omega) (by omega) (by omega) (by omega) (by omega) (by omega), by8_lt63 _ _ _ _ _ _ _ _ (by omega) (by omega) (by omega) (by omega) (by omega) (by omega) (by omega) (by omega), by8_lt63 _ _ _ _ _ _ _ _ (by omega) (by omega) (by omega) (by omega) (by omega) (by omega) (by omega) (by omega), by omega⟩
theorem swar (x : Nat) (hx : x < 18446744073709551616) : n1 x < 18446744073709551616 ∧ n2 (n1 x) < 18446744073709551616 ∧ n2 (n1 x) / 16 + n2 (n1 x) < 18446744073709551616 ∧
    n4 (n3 (n2 (n1 x))) < 9223372036854775808 ∧ n5 (n4 (n3 (n2 (n1 x)))) < 9223372036854775808 ∧ n6 (n5 (n4 (n3 (n2 (n1 x))))) < 9223372036854775808 ∧ n6 (n5 (n4 (n3 (n2 (n1 x))))) % 128 = popN x := by
  have h := by8_of x hx
  unfold popN
  generalize hA : x % 256 = a at *
  generalize hB : x / 256 % 256 = b at *
  generalize hC : x / 65536 % 256 = c at *
  generalize hD : x / 16777216 % 256 = d at *
  generalize hE : x / 4294967296 % 256 = e at *
  generalize hF : x / 1099511627776 % 256 = f at *
  generalize hG : x / 281474976710656 % 256 = g at *
  generalize hH : x / 72057594037927936 % 256 = h' at *
  have la : a < 256 := by omega
  have lb : b < 256 := by omega
  have lc : c < 256 := by omega
  have ld : d < 256 := by omega
  have le : e < 256 := by omega
  have lf : f < 256 := by omega
  have lg : g < 256 := by omega
  have lh : h' < 256 := by omega
  clear hA hB hC hD hE hF hG hH
  subst h
  have oa := (f1_eq a la 0 (by decide)).2
  have ob := (f1_eq b lb 0 (by decide)).2
  have oc := (f1_eq c lc 0 (by decide)).2
  have od := (f1_eq d ld 0 (by decide)).2
  have oe := (f1_eq e le 0 (by decide)).2
  have of := (f1_eq f lf 0 (by decide)).2
  have og := (f1_eq g lg 0 (by decide)).2
  have oh := (f1_eq h' lh 0 (by decide)).2
  have pa := f2_lt a la
  have pb := f2_lt b lb
  have pc := f2_lt c lc
  have pd := f2_lt d ld
  have pe := f2_lt e le
  have pf := f2_lt f lf
  have pg := f2_lt g lg
  have ph := f2_lt h' lh
  rw [n1_by8 _ _ _ _ _ _ _ _ la lb lc ld le lf lg lh, n2_by8 _ _ _ _ _ _ _ _ oa ob oc od oe of og oh]
  have h3 := n3_by8 _ _ _ _ _ _ _ _ pa.1 pb.1 pc.1 pd.1 pe.1 pf.1 pg.1 ph.1 pa.2 pb.2 pc.2 pd.2 pe.2 pf.2 pg.2 ph.2
  refine ⟨by8_lt _ _ _ _ _ _ _ _ oa ob oc od oe of og oh, by8_lt _ _ _ _ _ _ _ _ pa.1 pb.1 pc.1 pd.1 pe.1 pf.1 pg.1 ph.1, h3.2, ?_⟩
  rw [h3.1, f3_all la _ pb.2.1, f3_all lb _ pc.2.1, f3_all lc _ pd.2.1, f3_all ld _ pe.2.1, f3_all le _ pf.2.1, f3_all lf _ pg.2.1, f3_all lg _ ph.2.1, f3_all lh _ (by decide)]
  exact fold8 _ _ _ _ _ _ _ _ (pop8_le _ la) (pop8_le _ lb) (pop8_le _ lc) (pop8_le _ ld) (pop8_le _ le) (pop8_le _ lf) (pop8_le _ lg) (pop8_le _ lh)
theorem popN_le (x : Nat) : popN x ≤ 64 := by
  have h := fun k => pop8_le (k % 256) (Nat.mod_lt _ (by decide))
  unfold popN
  have h1 := h x
  have h2 := h (x / 256)
  have h3 := h (x / 65536)
  have h4 := h (x / 16777216)
  have h5 := h (x / 4294967296)
  have h6 := h (x / 1099511627776)
  have h7 := h (x / 281474976710656)
  have h8 := h (x / 72057594037927936)
  omega

def onesE (x : Int) : Int :=
  let a := IntKind.u64.wrap (bits .and .u64 (x / 2) 6148914691236517205 + bits .and .u64 x 6148914691236517205)
  let b := IntKind.u64.wrap (bits .and .u64 (a / 4) 3689348814741910323 + bits .and .u64 a 3689348814741910323)
  let c := bits .and .u64 (IntKind.u64.wrap (b / 16 + b)) 1085102592571150095
  let d := IntKind.u64.wrap (c + c / 256)
  let e := IntKind.u64.wrap (d + d / 65536)
  let f := IntKind.u64.wrap (e + e / 4294967296)
  bits .and .i64 (wrap64 f) 127
def popI (x : Int) : Int := (popN x.toNat : Nat)
theorem wrap_small (n : Nat) (h : n < 18446744073709551616) : IntKind.u64.wrap (n : Int) = (n : Int) := by
  rw [IntKind.wrap_u64]; omega
theorem onesE_eq (x : Int) (h0 : 0 ≤ x) (h1 : x < 18446744073709551616) : onesE x = popI x := by
  obtain ⟨n, rfl⟩ := Int.eq_ofNat_of_zero_le h0
  have hn : n < 18446744073709551616 := by omega
  obtain ⟨s1, s2, s3, s4, s5, s6, s7⟩ := swar n hn
  have e1 : IntKind.u64.wrap (bits .and .u64 ((n : Int) / 2) 6148914691236517205 + bits .and .u64 (n : Int) 6148914691236517205) = (n1 n : Nat) := by
    rw [show ((n : Int) / 2) = ((n / 2 : Nat) : Int) by omega, show (6148914691236517205 : Int) = ((6148914691236517205 : Nat) : Int) by rfl, bits_and_u64_nat _ _ (by omega) (by decide), bits_and_u64_nat _ _ (by omega) (by decide), ← Int.natCast_add]
    exact wrap_small _ s1
  have e2 : IntKind.u64.wrap (bits .and .u64 ((n1 n : Int) / 4) 3689348814741910323 + bits .and .u64 (n1 n : Int) 3689348814741910323) = (n2 (n1 n) : Nat) := by
    rw [show ((n1 n : Int) / 4) = ((n1 n / 4 : Nat) : Int) by omega, show (3689348814741910323 : Int) = ((3689348814741910323 : Nat) : Int) by rfl, bits_and_u64_nat _ _ (by omega) (by decide), bits_and_u64_nat _ _ (by omega) (by decide), ← Int.natCast_add]
    exact wrap_small _ s2
  have e3 : bits .and .u64 (IntKind.u64.wrap ((n2 (n1 n) : Int) / 16 + (n2 (n1 n) : Int))) 1085102592571150095 = (n3 (n2 (n1 n)) : Nat) := by
    rw [show ((n2 (n1 n) : Int) / 16 + (n2 (n1 n) : Int)) = ((n2 (n1 n) / 16 + n2 (n1 n) : Nat) : Int) by omega, wrap_small _ s3, show (1085102592571150095 : Int) = ((1085102592571150095 : Nat) : Int) by rfl, bits_and_u64_nat _ _ s3 (by decide)]
    rfl
  have l3 : n3 (n2 (n1 n)) ≤ n2 (n1 n) / 16 + n2 (n1 n) := Nat.and_le_left
  generalize hY : n3 (n2 (n1 n)) = y at *
  have e4 : IntKind.u64.wrap ((y : Int) + (y : Int) / 256) = (n4 y : Nat) := by
    rw [show ((y : Int) + (y : Int) / 256) = ((n4 y : Nat) : Int) by unfold n4; omega]
    exact wrap_small _ (by omega)
  generalize hZ : n4 y = z at *
  have e5 : IntKind.u64.wrap ((z : Int) + (z : Int) / 65536) = (n5 z : Nat) := by
    rw [show ((z : Int) + (z : Int) / 65536) = ((n5 z : Nat) : Int) by unfold n5; omega]
    exact wrap_small _ (by omega)
  generalize hV : n5 z = v at *
  have e6 : IntKind.u64.wrap ((v : Int) + (v : Int) / 4294967296) = (n6 v : Nat) := by
    rw [show ((v : Int) + (v : Int) / 4294967296) = ((n6 v : Nat) : Int) by unfold n6; omega]
    exact wrap_small _ (by omega)
  unfold onesE
  simp only [e1, e2, e3, e4, e5, e6]
  rw [i64_and127]
  have hw : wrap64 (n6 v : Int) = (n6 v : Int) := by unfold wrap64; omega
  rw [hw]
  show _ = ((popN (n : Int).toNat : Nat) : Int)
  rw [Int.toNat_natCast, ← s7]
  omega
theorem popI_le (x : Int) : 0 ≤ popI x ∧ popI x ≤ 64 := by
  have := popN_le x.toNat
  unfold popI; omega

theorem ones_any (x : Int) (h0 : 0 ≤ x) (h1 : x < 18446744073709551616) (w : World) : Calls Tryz.prog 57 #[.int .u64 x] w fun e w' => e = .returned (.int .i64 (popI x)) ∧ w' = w := by
  have HE := Lib.hid (onesE_eq x h0 h1)
  go_enter Tryz.func57, Tryz.ntmps57
  go_wp2
  go_ret
  refine ⟨?_, rfl⟩
  rw [← HE.out]
  rfl
theorem count_any (x : Int) (h0 : 0 ≤ x) (h1 : x < 18446744073709551616) (w : World) : Calls Tryz.prog 43 #[.int .u64 x] w fun e w' => e = .returned (.int .i64 (popI x)) ∧ w' = w := by
  have HO := Lib.hid (fun W => ones_any x h0 h1 W)
  go_enter Tryz.func43, Tryz.ntmps43
  go_wp2_with (go_at_call 57; refine (HO.out _).mono ?_; rintro e w' ⟨rfl, rfl⟩)
  go_ret
  exact ⟨rfl, rfl⟩
end Go.Proofs.YtopmnpkjhaabcaaGreatDoor
