/-
The plain law: a key's bytes, summed, and its bits, summed byte by byte, are one number.
-/
import Derived.Test.YtodacahbeoekhaaGreatDoorMbB
namespace Go.Proofs.YtodacahbeoekhaaGreatDoor
open Go Go.Ev
def byteN (k i : Nat) : Nat := k / 2 ^ (8 * i) % 256
def sumN (k : Nat) : Nat → Nat
  | 0 => 0
  | i + 1 => sumN k i + byteN k i
theorem byteN_lt (k i : Nat) : byteN k i < 256 := Nat.mod_lt _ (by decide)
theorem sumN_le (k : Nat) : ∀ i, sumN k i ≤ 255 * i
  | 0 => Nat.le_refl _
  | i + 1 => by have := sumN_le k i; have := byteN_lt k i; simp only [sumN]; omega

theorem wrap_u64 (a : Nat) : wrapF .u64 (.ofNat a) = .ofNat (a % 18446744073709551616) := rfl
theorem wrap_u8 (a : Nat) : wrapF .u8 (.ofNat a) = .ofNat (a % 256) := rfl
theorem wrap_i64 {a : Nat} (h : a < 9223372036854775808) : wrapF .i64 (.ofNat a) = .ofNat a := by
  have h1 : a % 18446744073709551616 = a := Nat.mod_eq_of_lt (by omega)
  have h2 : Nat.ble 18446744073709551616 (2 * a) = false := by
    rw [Bool.eq_false_iff]
    intro h3
    have := Nat.le_of_ble_eq_true h3
    omega
  show wrapS 18446744073709551616 (.ofNat a) = _
  unfold wrapS
  simp only [modI, h1, h2]
theorem add_ofNat (a b : Nat) : (Int.ofNat a) + (Int.ofNat b) = Int.ofNat (a + b) := rfl
theorem mul_ofNat (a b : Nat) : (Int.ofNat a) * (Int.ofNat b) = Int.ofNat (a * b) := rfl
theorem tmod_ofNat (a b : Nat) : (Int.ofNat a).tmod (Int.ofNat b) = Int.ofNat (a % b) := rfl
theorem tdiv_ofNat (a b : Nat) : (Int.ofNat a).tdiv (Int.ofNat b) = Int.ofNat (a / b) := rfl
theorem divP_ofNat (a n : Nat) : divP (.ofNat a) n = .ofNat (a / 2 ^ n) := rfl

theorem sumX_eq (k : Nat) : ∀ i, i ≤ 8 → sumX (.ofNat k) i = .ofNat (sumN k i)
  | 0, _ => rfl
  | i + 1, h => by
    have h1 := sumN_le k i
    have h2 := byteN_lt k i
    have hmin : min (8 * i) 64 = 8 * i := by omega
    simp only [sumX, sumX_eq k i (by omega), hmin, divP_ofNat, wrap_u8]
    rw [wrap_i64 (by show byteN k i < _; omega), add_ofNat, wrap_i64 (by show sumN k i + byteN k i < _; omega)]
    rfl
theorem bX_eq (k b : Nat) : bX (.ofNat k) b = .ofNat (sumN k 8 % b + 1) := by
  have h1 := sumN_le k 8
  have h2 := Nat.mod_le (sumN k 8) b
  simp only [bX, sumX_eq k 8 (Nat.le_refl _), tmod_ofNat, add_ofNat]
  exact wrap_i64 (by omega)

theorem halfX_eq {k : Nat} (hk : k < 18446744073709551616) : ∀ j, halfX (.ofNat k) j = .ofNat (k / 2 ^ j)
  | 0 => by simp [halfX]
  | j + 1 => by
    have h1 : k / 2 ^ j ≤ k := Nat.div_le_self _ _
    simp only [halfX, halfX_eq hk j, tdiv_ofNat, wrap_u64]
    rw [Nat.mod_eq_of_lt (by omega), Nat.div_div_eq_div_mul, Nat.pow_succ]
theorem bitX_eq {k : Nat} (hk : k < 18446744073709551616) (lo j : Nat) : bitX (.ofNat k) (lo + j) = .ofNat (k / 2 ^ lo / 2 ^ j % 2) := by
  simp only [bitX, halfX_eq hk, tmod_ofNat, Nat.div_div_eq_div_mul, Nat.pow_add]
def fN (q : Nat) : Nat → Nat
  | 0 => 0
  | s + 1 => 2 * fN q s + q / 2 ^ (7 - s) % 2
theorem fN_lt (q : Nat) : ∀ s, fN q s < 2 ^ s
  | 0 => by simp [fN]
  | s + 1 => by
    have h1 := fN_lt q s
    have h2 : q / 2 ^ (7 - s) % 2 < 2 := Nat.mod_lt _ (by decide)
    simp only [fN, Nat.pow_succ]
    omega
theorem fieldN {k : Nat} (hk : k < 18446744073709551616) (lo : Nat) : ∀ s, s ≤ 8 → fieldX (.ofNat k) lo s = .ofNat (fN (k / 2 ^ lo) s)
  | 0, _ => rfl
  | s + 1, h => by
    have e : lo + 7 - s = lo + (7 - s) := by omega
    have h1 := fN_lt (k / 2 ^ lo) s
    have h2 : k / 2 ^ lo / 2 ^ (7 - s) % 2 < 2 := Nat.mod_lt _ (by decide)
    have h3 : 2 ^ s ≤ 2 ^ 7 := Nat.pow_le_pow_right (by decide) (by omega)
    simp only [fieldX, fieldN hk lo s (by omega), e, bitX_eq hk, mul_ofNat, wrap_u64, add_ofNat, fN]
    congr 1
    rw [Nat.mod_eq_of_lt (a := 2 * fN (k / 2 ^ lo) s) (by omega)]
    exact Nat.mod_eq_of_lt (by omega)
theorem byte_bits (q : Nat) : fN q 8 = q % 256 := by
  have e : fN q 8 = 2 * (2 * (2 * (2 * (2 * (2 * (2 * (2 * 0 + q / 128 % 2) + q / 64 % 2) + q / 32 % 2) + q / 16 % 2) + q / 8 % 2) + q / 4 % 2) + q / 2 % 2) + q / 1 % 2 := rfl
  rw [e]
  omega
theorem fieldX_eq {k : Nat} (hk : k < 18446744073709551616) (lo : Nat) : fieldX (.ofNat k) lo 8 = .ofNat (k / 2 ^ lo % 256) := by
  rw [fieldN hk lo 8 (Nat.le_refl _), byte_bits]
theorem sumR_eq {k : Nat} (hk : k < 18446744073709551616) : ∀ i, i ≤ 8 → sumR (.ofNat k) i = .ofNat (sumN k i)
  | 0, _ => rfl
  | i + 1, h => by
    have h1 := sumN_le k i
    have h2 := byteN_lt k i
    simp only [sumR, sumR_eq hk i (by omega), fieldX_eq hk, add_ofNat, wrap_u64, sumN]
    congr 1
    show (sumN k i + byteN k i) % _ = sumN k i + byteN k i
    exact Nat.mod_eq_of_lt (by omega)
theorem rX_eq {k b : Nat} (hk : k < 18446744073709551616) (hb : b ≤ 8) : rX (.ofNat k) b = .ofNat (sumN k 8 % b + 1) := by
  have h1 := sumN_le k 8
  have h2 := Nat.mod_le (sumN k 8) b
  have h3 : b % 18446744073709551616 = b := Nat.mod_eq_of_lt (by omega)
  simp only [rX, sumR_eq hk 8 (Nat.le_refl _), wrap_u64, h3, tmod_ofNat]
  rw [wrap_i64 (by omega), add_ofNat]
  exact wrap_i64 (by omega)
end Go.Proofs.YtodacahbeoekhaaGreatDoor
