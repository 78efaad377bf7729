/- Plain arithmetic of heights and draws of package draw: no program in sight. -/
import Derived.Lib.TrailingZeros
import Derived.Laws.Bits64b
import Derived.Laws.BitsAllLaws
namespace Go.Proofs.YtmokfjlkfhopnaaDoor

/-- How many of the lowest k bits of x are 1 below the first 0. -/
def hgo : Nat → Nat → Nat
  | 0, _ => 0
  | k + 1, x => if x % 2 = 1 then 1 + hgo k (x / 2) else 0
/-- The height of a draw. -/
def hgt (x : Nat) : Nat := 1 + hgo 5 x

theorem hgo_le : ∀ k x, hgo k x ≤ k
  | 0, _ => Nat.le_refl _
  | k + 1, x => by
    unfold hgo
    have := hgo_le k (x / 2)
    split <;> omega
theorem hgt_bd (x : Nat) : 1 ≤ hgt x ∧ hgt x ≤ 6 := by
  unfold hgt
  have := hgo_le 5 x
  omega

theorem ctz_hgo : ∀ (f x k : Nat), x < 2 ^ f → k ≤ f → min k (Lib.ctz f (2 ^ f - 1 - x)) = hgo k x
  | 0, x, k, hx, hk => by
    obtain rfl : k = 0 := by omega
    simp [hgo]
  | f + 1, x, 0, hx, hk => by simp [hgo]
  | f + 1, x, k + 1, hx, hk => by
    have ih := ctz_hgo f (x / 2) k (by rw [Nat.pow_succ] at hx; omega) (by omega)
    have hp : 0 < 2 ^ f := Nat.two_pow_pos f
    rw [Nat.pow_succ] at hx ⊢
    unfold hgo Lib.ctz
    unfold Lib.ctz at ih
    generalize 2 ^ f = p at *
    by_cases h0 : p * 2 - 1 - x = 0
    · rw [if_pos h0]
      rw [if_pos (by omega : p - 1 - x / 2 = 0)] at ih
      rw [if_pos (by omega), ← ih]
      omega
    · rw [if_neg h0]
      unfold Lib.ctzFrom
      by_cases h1 : (p * 2 - 1 - x) % 2 = 1
      · rw [if_pos h1, if_neg (by omega)]
        omega
      · rw [if_neg h1, if_pos (by omega)]
        rw [if_neg (by omega : ¬ p - 1 - x / 2 = 0)] at ih
        rw [show (p * 2 - 1 - x) / 2 = p - 1 - x / 2 by omega, ← ih]
        omega

/-- What draw.Height computes is the height. -/
theorem min_ctz (x : Nat) (hx : x < 18446744073709551616) : min (1 + Lib.ctz 64 (18446744073709551615 - x)) 6 = hgt x := by
  have h := ctz_hgo 64 x 5 hx (by decide)
  unfold hgt
  rw [← h]
  have e : (2 : Nat) ^ 64 - 1 - x = 18446744073709551615 - x := by omega
  rw [e]
  omega

/-- The height depends on the lowest five bits alone. -/
theorem hgo_mod : ∀ (k x : Nat), hgo k (x % 2 ^ k) = hgo k x
  | 0, _ => rfl
  | k + 1, x => by
    have ih := hgo_mod k (x / 2)
    unfold hgo
    have e1 : x % 2 ^ (k + 1) % 2 = x % 2 := by
      rw [Nat.pow_succ, Nat.mul_comm]
      exact Nat.mod_mod_of_dvd _ (Nat.dvd_mul_right _ _)
    have e2 : x % 2 ^ (k + 1) / 2 = x / 2 % 2 ^ k := by
      rw [Nat.pow_succ, Nat.mul_comm, Nat.mod_mul_right_div_self]
    rw [e1, e2, ih]
theorem hgt_mod (x : Nat) : hgt (x % 32) = hgt x := by
  unfold hgt
  exact congrArg (1 + ·) (hgo_mod 5 x)
theorem hgt_congr {x y : Nat} (h : x % 32 = y % 32) : hgt x = hgt y := by rw [← hgt_mod x, h, hgt_mod]

/-! ### Draws -/
/-- The steps of a draw: twice a shift, an exclusive or and a product, then a shift. -/
def mixA (z : Nat) : Nat := (z ^^^ z / 1073741824) * 13787848793156543929 % 18446744073709551616
def mixB (z : Nat) : Nat := (z ^^^ z / 134217728) * 10723151780598845931 % 18446744073709551616
def mixC (z : Nat) : Nat := z ^^^ z / 2147483648
def mixZ (z : Nat) : Nat := mixC (mixB (mixA z))
theorem mixA_lt (z : Nat) : mixA z < 18446744073709551616 := Nat.mod_lt _ (by decide)
theorem mixB_lt (z : Nat) : mixB z < 18446744073709551616 := Nat.mod_lt _ (by decide)
/-- The draw number i of a seed (i: the number as a uint64). -/
def mix (s i : Nat) : Nat := mixZ ((s + (i + 1) * 11400714819323198485) % 18446744073709551616)

theorem xs_inj (k : Nat) (hk : 0 < k) {x y : Nat} (hx : x < 2 ^ 64) (hy : y < 2 ^ 64) (h : x ^^^ x / 2 ^ k = y ^^^ y / 2 ^ k) : x = y := by
  have key : ∀ n i, 64 ≤ i + n → x.testBit i = y.testBit i := by
    intro n
    induction n with
    | zero =>
      intro i hi
      rw [Nat.testBit_lt_two_pow (Nat.lt_of_lt_of_le hx (Nat.pow_le_pow_right (by decide) (by omega))), Nat.testBit_lt_two_pow (Nat.lt_of_lt_of_le hy (Nat.pow_le_pow_right (by decide) (by omega)))]
    | succ n ih =>
      intro i hi
      have e := congrArg (fun v => v.testBit i) h
      simp only [Nat.testBit_xor, Nat.testBit_div_two_pow] at e
      rw [ih (i + k) (by omega)] at e
      revert e
      cases x.testBit i <;> cases y.testBit i <;> cases y.testBit (i + k) <;> simp
  exact Nat.eq_of_testBit_eq fun i => key 64 i (by omega)

theorem mul_inj (c d : Nat) (hcd : c * d % 18446744073709551616 = 1) {x y : Nat} (hx : x < 18446744073709551616) (hy : y < 18446744073709551616)
    (h : x * c % 18446744073709551616 = y * c % 18446744073709551616) : x = y := by
  have back : ∀ z, z < 18446744073709551616 → z * c % 18446744073709551616 * d % 18446744073709551616 = z := by
    intro z hz
    rw [Nat.mod_mul_mod, Nat.mul_assoc, Nat.mul_mod, hcd, Nat.mul_one, Nat.mod_mod, Nat.mod_eq_of_lt hz]
  rw [← back x hx, h, back y hy]

theorem xor_div_lt (z s : Nat) (hz : z < 18446744073709551616) : z ^^^ z / s < 18446744073709551616 :=
  Nat.xor_lt_two_pow (n := 64) hz (Nat.lt_of_le_of_lt (Nat.div_le_self _ _) hz)
theorem mixZ_lt (z : Nat) : mixZ z < 18446744073709551616 := xor_div_lt _ _ (mixB_lt _)
theorem mixZ_inj {x y : Nat} (hx : x < 18446744073709551616) (hy : y < 18446744073709551616) (h : mixZ x = mixZ y) : x = y := by
  have h1 : mixB (mixA x) = mixB (mixA y) := xs_inj 31 (by decide) (mixB_lt _) (mixB_lt _) h
  have h2 := mul_inj 10723151780598845931 3573116690164977347 (by decide) (xor_div_lt _ _ (mixA_lt _)) (xor_div_lt _ _ (mixA_lt _)) h1
  have h3 : mixA x = mixA y := xs_inj 27 (by decide) (mixA_lt _) (mixA_lt _) h2
  have h4 := mul_inj 13787848793156543929 10871156337175269513 (by decide) (xor_div_lt _ _ hx) (xor_div_lt _ _ hy) h3
  exact xs_inj 30 (by decide) hx hy h4
theorem mix_lt (s i : Nat) : mix s i < 18446744073709551616 := mixZ_lt _
theorem mix_inj {s t : Nat} (i : Nat) (hs : s < 18446744073709551616) (ht : t < 18446744073709551616) (h : mix s i = mix t i) : s = t := by
  have := mixZ_inj (Nat.mod_lt _ (by decide)) (Nat.mod_lt _ (by decide)) h
  generalize (i + 1) * 11400714819323198485 = q at this
  omega
theorem mix_shift (s i : Nat) : mix ((s + i * 11400714819323198485) % 18446744073709551616) 0 = mix s i := by
  exact congrArg mixZ (by omega)

/-! ### The same in the walk's own forms -/
theorem mixA_form (z : Nat) (hz : z < 18446744073709551616) : IntKind.u64.wrap (bits BinOp.xor IntKind.u64 (z : Int) ((z : Int) / 1073741824) * 13787848793156543929) = ((mixA z : Nat) : Int) :=
  mixStep_u64 z 1073741824 13787848793156543929 hz
theorem mixB_form (z : Nat) (hz : z < 18446744073709551616) : IntKind.u64.wrap (bits BinOp.xor IntKind.u64 (z : Int) ((z : Int) / 134217728) * 10723151780598845931) = ((mixB z : Nat) : Int) :=
  mixStep_u64 z 134217728 10723151780598845931 hz
theorem mixC_form (z : Nat) (hz : z < 18446744073709551616) : bits BinOp.xor IntKind.u64 (z : Int) ((z : Int) / 2147483648) = ((mixC z : Nat) : Int) :=
  xorShift_u64 z 2147483648 hz
theorem mix0_form (s : Nat) (i : Int) : IntKind.u64.wrap ((s : Int) + IntKind.u64.wrap (IntKind.u64.wrap (IntKind.u64.wrap i + 1) * 11400714819323198485)) =
    (((s + ((i % 18446744073709551616).toNat + 1) * 11400714819323198485) % 18446744073709551616 : Nat) : Int) := by
  simp only [IntKind.wrap_u64]
  have h : ((i % 18446744073709551616).toNat : Int) = i % 18446744073709551616 := Int.toNat_of_nonneg (Int.emod_nonneg _ (by decide))
  generalize (i % 18446744073709551616).toNat = j at h
  rw [← h, Int.add_emod, Int.emod_emod, Int.mul_emod, Int.emod_emod, ← Int.mul_emod, ← Int.add_emod]
  rfl
/-- What the code computes for a draw, in the walk's own form. -/
theorem mix_form (s : Nat) (i : Int) :
    bits BinOp.xor IntKind.u64 (IntKind.u64.wrap (bits BinOp.xor IntKind.u64 (IntKind.u64.wrap (bits BinOp.xor IntKind.u64
      (IntKind.u64.wrap ((s : Int) + IntKind.u64.wrap (IntKind.u64.wrap (IntKind.u64.wrap i + 1) * 11400714819323198485)))
      (IntKind.u64.wrap ((s : Int) + IntKind.u64.wrap (IntKind.u64.wrap (IntKind.u64.wrap i + 1) * 11400714819323198485)) / 1073741824) * 13787848793156543929))
      (IntKind.u64.wrap (bits BinOp.xor IntKind.u64
      (IntKind.u64.wrap ((s : Int) + IntKind.u64.wrap (IntKind.u64.wrap (IntKind.u64.wrap i + 1) * 11400714819323198485)))
      (IntKind.u64.wrap ((s : Int) + IntKind.u64.wrap (IntKind.u64.wrap (IntKind.u64.wrap i + 1) * 11400714819323198485)) / 1073741824) * 13787848793156543929) / 134217728) * 10723151780598845931))
      (IntKind.u64.wrap (bits BinOp.xor IntKind.u64 (IntKind.u64.wrap (bits BinOp.xor IntKind.u64
      (IntKind.u64.wrap ((s : Int) + IntKind.u64.wrap (IntKind.u64.wrap (IntKind.u64.wrap i + 1) * 11400714819323198485)))
      (IntKind.u64.wrap ((s : Int) + IntKind.u64.wrap (IntKind.u64.wrap (IntKind.u64.wrap i + 1) * 11400714819323198485)) / 1073741824) * 13787848793156543929))
      (IntKind.u64.wrap (bits BinOp.xor IntKind.u64
      (IntKind.u64.wrap ((s : Int) + IntKind.u64.wrap (IntKind.u64.wrap (IntKind.u64.wrap i + 1) * 11400714819323198485)))
      (IntKind.u64.wrap ((s : Int) + IntKind.u64.wrap (IntKind.u64.wrap (IntKind.u64.wrap i + 1) * 11400714819323198485)) / 1073741824) * 13787848793156543929) / 134217728) * 10723151780598845931) / 2147483648)
    = ((mix s (i % 18446744073709551616).toNat : Nat) : Int) := by
  rw [mix0_form, mixA_form _ (Nat.mod_lt _ (by decide)), mixB_form _ (mixA_lt _), mixC_form _ (mixB_lt _)]
  rfl
theorem tdiv_form (z c : Nat) (hz : z < 18446744073709551616) : IntKind.u64.wrap ((z : Int).tdiv (c : Int)) = (z : Int) / (c : Int) := by
  rw [Int.tdiv_eq_ediv_of_nonneg (Int.natCast_nonneg _), IntKind.wrap_u64]
  have h : (z : Int) / (c : Int) = ((z / c : Nat) : Int) := (Int.natCast_ediv z c).symm
  rw [h]
  have : z / c < 18446744073709551616 := Nat.lt_of_le_of_lt (Nat.div_le_self _ _) hz
  generalize z / c = q at this
  omega
theorem tdiv_formA (z : Nat) (hz : z < 18446744073709551616) : IntKind.u64.wrap ((z : Int).tdiv 1073741824) = (z : Int) / 1073741824 := tdiv_form z 1073741824 hz
theorem tdiv_formB (z : Nat) (hz : z < 18446744073709551616) : IntKind.u64.wrap ((z : Int).tdiv 134217728) = (z : Int) / 134217728 := tdiv_form z 134217728 hz
theorem tdiv_formC (z : Nat) (hz : z < 18446744073709551616) : IntKind.u64.wrap ((z : Int).tdiv 2147483648) = (z : Int) / 2147483648 := tdiv_form z 2147483648 hz
theorem refmix_form (s : Nat) (i : Int) :
    bits BinOp.xor IntKind.u64 (IntKind.u64.wrap (bits BinOp.xor IntKind.u64 (IntKind.u64.wrap (bits BinOp.xor IntKind.u64
      (IntKind.u64.wrap ((s : Int) + IntKind.u64.wrap (IntKind.u64.wrap (IntKind.u64.wrap i + 1) * 11400714819323198485)))
      (IntKind.u64.wrap ((IntKind.u64.wrap ((s : Int) + IntKind.u64.wrap (IntKind.u64.wrap (IntKind.u64.wrap i + 1) * 11400714819323198485))).tdiv 1073741824)) * 13787848793156543929))
      (IntKind.u64.wrap ((IntKind.u64.wrap (bits BinOp.xor IntKind.u64
      (IntKind.u64.wrap ((s : Int) + IntKind.u64.wrap (IntKind.u64.wrap (IntKind.u64.wrap i + 1) * 11400714819323198485)))
      (IntKind.u64.wrap ((IntKind.u64.wrap ((s : Int) + IntKind.u64.wrap (IntKind.u64.wrap (IntKind.u64.wrap i + 1) * 11400714819323198485))).tdiv 1073741824)) * 13787848793156543929)).tdiv 134217728)) * 10723151780598845931))
      (IntKind.u64.wrap ((IntKind.u64.wrap (bits BinOp.xor IntKind.u64 (IntKind.u64.wrap (bits BinOp.xor IntKind.u64
      (IntKind.u64.wrap ((s : Int) + IntKind.u64.wrap (IntKind.u64.wrap (IntKind.u64.wrap i + 1) * 11400714819323198485)))
      (IntKind.u64.wrap ((IntKind.u64.wrap ((s : Int) + IntKind.u64.wrap (IntKind.u64.wrap (IntKind.u64.wrap i + 1) * 11400714819323198485))).tdiv 1073741824)) * 13787848793156543929))
      (IntKind.u64.wrap ((IntKind.u64.wrap (bits BinOp.xor IntKind.u64
      (IntKind.u64.wrap ((s : Int) + IntKind.u64.wrap (IntKind.u64.wrap (IntKind.u64.wrap i + 1) * 11400714819323198485)))
      (IntKind.u64.wrap ((IntKind.u64.wrap ((s : Int) + IntKind.u64.wrap (IntKind.u64.wrap (IntKind.u64.wrap i + 1) * 11400714819323198485))).tdiv 1073741824)) * 13787848793156543929)).tdiv 134217728)) * 10723151780598845931)).tdiv 2147483648))
    = ((mix s (i % 18446744073709551616).toNat : Nat) : Int) := by
  rw [mix0_form, tdiv_formA _ (Nat.mod_lt _ (by decide)), mixA_form _ (Nat.mod_lt _ (by decide)), tdiv_formB _ (mixA_lt _), mixB_form _ (mixA_lt _), tdiv_formC _ (mixB_lt _), mixC_form _ (mixB_lt _)]
  rfl

/-- '^x' of a uint64. -/
theorem not_form (x : Nat) (hx : x < 18446744073709551616) : bits BinOp.xor IntKind.u64 IntKind.u64.max (x : Int) = ((18446744073709551615 - x : Nat) : Int) := by
  have e : IntKind.u64.max = ((18446744073709551615 : Nat) : Int) := by decide
  rw [e, bits_xor_u64_nat _ _ (by decide) hx]
  congr 1
  apply Nat.eq_of_testBit_eq
  intro i
  have h1 : (18446744073709551615 : Nat) = 2 ^ 64 - (0 + 1) := by decide
  have h2 : 18446744073709551615 - x = 2 ^ 64 - (x + 1) := by omega
  rw [Nat.testBit_xor, h2, Nat.testBit_two_pow_sub_succ hx, h1, Nat.testBit_two_pow_sub_succ (by decide)]
  by_cases hi : i < 64
  · simp [hi]
  · have : x.testBit i = false := Nat.testBit_lt_two_pow (Nat.lt_of_lt_of_le (m := 2 ^ 64) hx (Nat.pow_le_pow_right (by decide) (by omega)))
    simp [hi, this]
/-- 'x&31 | y<<5'. -/
theorem or_form (x y : Nat) (hx : x < 18446744073709551616) : ∃ z : Nat, bits BinOp.or IntKind.u64 (bits BinOp.and IntKind.u64 (x : Int) 31) (IntKind.u64.wrap ((y : Int) * 32)) = (z : Int) ∧ z < 18446744073709551616 ∧ z % 32 = x % 32 := by
  have e1 : bits BinOp.and IntKind.u64 (x : Int) 31 = ((x % 32 : Nat) : Int) := by
    have h := bits_and_u64_nat x 31 hx (by decide)
    rw [nat_mask5] at h
    exact h
  have e2 : IntKind.u64.wrap ((y : Int) * 32) = ((y * 32 % 18446744073709551616 : Nat) : Int) := by rw [IntKind.wrap_u64]; omega
  have hq : y * 32 % 18446744073709551616 % 32 = 0 := by omega
  have hl : y * 32 % 18446744073709551616 < 18446744073709551616 := Nat.mod_lt _ (by decide)
  refine ⟨y * 32 % 18446744073709551616 ||| x % 32, ?_, ?_, ?_⟩
  · rw [e1, e2, bits_or_u64_nat _ _ (by omega) hl, Nat.or_comm]
  · exact Nat.or_lt_two_pow (n := 64) hl (by omega)
  · rw [nat_join 5 _ _ hq (by omega)]
    omega
theorem hgo_spec : ∀ (k x : Nat), x % 2 ^ hgo k x = 2 ^ hgo k x - 1 ∧ (hgo k x < k → x / 2 ^ hgo k x % 2 = 0)
  | 0, x => by simp [hgo, Nat.mod_one]
  | k + 1, x => by
    unfold hgo
    by_cases h1 : x % 2 = 1
    · obtain ⟨i1, i2⟩ := hgo_spec k (x / 2)
      rw [if_pos h1, Nat.add_comm 1, Nat.pow_succ]
      generalize hgo k (x / 2) = j at *
      have hp := Nat.two_pow_pos j
      refine ⟨?_, fun hj => ?_⟩
      · rw [Nat.mul_comm, Nat.mod_mul, i1, h1]
        omega
      · rw [Nat.mul_comm, ← Nat.div_div_eq_div_mul]
        exact i2 (by omega)
    · rw [if_neg h1]
      simp [Nat.mod_one]
      omega
theorem low_form (x : Nat) (hx : x < 18446744073709551616) (k : Nat) (hk : k ≤ 5) (h : k + 1 = hgt x) :
    bits BinOp.and IntKind.u64 (x : Int) ((2 ^ k - 1 : Nat) : Int) = ((2 ^ k - 1 : Nat) : Int) ∧ (k < 5 → bits BinOp.and IntKind.u64 ((x : Int) / ((2 ^ k : Nat) : Int)) 1 = 0) := by
  have e : hgo 5 x = k := by unfold hgt at h; omega
  obtain ⟨h1, h2⟩ := hgo_spec 5 x
  rw [e] at h1 h2
  have hp : 2 ^ k ≤ 2 ^ 5 := Nat.pow_le_pow_right (by decide) hk
  refine ⟨?_, fun hk5 => ?_⟩
  · rw [bits_and_u64_nat x _ hx (by omega), Nat.and_two_pow_sub_one_eq_mod, h1]
  · have d : (x : Int) / ((2 ^ k : Nat) : Int) = ((x / 2 ^ k : Nat) : Int) := (Int.natCast_ediv x (2 ^ k)).symm
    have h3 := bits_and_u64_nat (x / 2 ^ k) 1 (Nat.lt_of_le_of_lt (Nat.div_le_self _ _) hx) (by decide)
    rw [nat_mask1, h2 (by omega)] at h3
    rw [d]
    exact h3
end Go.Proofs.YtmokfjlkfhopnaaDoor
