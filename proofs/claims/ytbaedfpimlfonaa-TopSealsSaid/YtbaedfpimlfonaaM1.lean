/- Plain laws on bytes and bits (no program in sight): packing bits into bytes, telling them again; no conditions beyond each statement's. -/
import Derived.Test.YtbaedfpimlfonaaWMore
import Derived.Lib.BitFns
import Derived.Laws.Bits64
namespace Go.Proofs.Ytbaedfpimlfonaa.Q
open Go.RowKit Go.Proofs.YtbaedfpimlfonaaW.PrintWords Go.Proofs.YtbaedfpimlfonaaW.PrintLast Go.Proofs.YtbaedfpimlfonaaW.PrintMore
set_option linter.unusedVariables false

theorem or_u8_nat (a b : Nat) (ha : a < 256) (hb : b < 256) : bits .or .u8 (a : Int) (b : Int) = ((a ||| b : Nat) : Int) := by
  have hx : a ||| b < 2 ^ 8 := Nat.or_lt_two_pow (by omega) (by omega)
  have h1 : (BitVec.ofInt 8 (a : Int)).toNat = a := by rw [BitVec.ofInt_natCast, BitVec.toNat_ofNat]; exact Nat.mod_eq_of_lt (by omega)
  have h2 : (BitVec.ofInt 8 (b : Int)).toNat = b := by rw [BitVec.ofInt_natCast, BitVec.toNat_ofNat]; exact Nat.mod_eq_of_lt (by omega)
  show IntKind.u8.wrap ((BitVec.ofInt 8 (a : Int) ||| BitVec.ofInt 8 (b : Int)).toNat : Int) = _
  rw [BitVec.toNat_or, h1, h2, IntKind.wrap_u8]; omega
theorem and_u8_nat (a b : Nat) (ha : a < 256) (hb : b < 256) : bits .and .u8 (a : Int) (b : Int) = ((a &&& b : Nat) : Int) := by
  have hx : a &&& b < 2 ^ 8 := Nat.and_lt_two_pow a (by omega)
  have h1 : (BitVec.ofInt 8 (a : Int)).toNat = a := by rw [BitVec.ofInt_natCast, BitVec.toNat_ofNat]; exact Nat.mod_eq_of_lt (by omega)
  have h2 : (BitVec.ofInt 8 (b : Int)).toNat = b := by rw [BitVec.ofInt_natCast, BitVec.toNat_ofNat]; exact Nat.mod_eq_of_lt (by omega)
  show IntKind.u8.wrap ((BitVec.ofInt 8 (a : Int) &&& BitVec.ofInt 8 (b : Int)).toNat : Int) = _
  rw [BitVec.toNat_and, h1, h2, IntKind.wrap_u8]; omega
theorem or_u64_nat (a b : Nat) (ha : a < 18446744073709551616) (hb : b < 18446744073709551616) : bits .or .u64 (a : Int) (b : Int) = ((a ||| b : Nat) : Int) := by
  have hx : a ||| b < 2 ^ 64 := Nat.or_lt_two_pow (by omega) (by omega)
  have h1 : (BitVec.ofInt 64 (a : Int)).toNat = a := by rw [BitVec.ofInt_natCast, BitVec.toNat_ofNat]; exact Nat.mod_eq_of_lt (by omega)
  have h2 : (BitVec.ofInt 64 (b : Int)).toNat = b := by rw [BitVec.ofInt_natCast, BitVec.toNat_ofNat]; exact Nat.mod_eq_of_lt (by omega)
  show IntKind.u64.wrap ((BitVec.ofInt 64 (a : Int) ||| BitVec.ofInt 64 (b : Int)).toNat : Int) = _
  rw [BitVec.toNat_or, h1, h2, IntKind.wrap_u64]; omega
theorem and_u64_nat (a b : Nat) (ha : a < 18446744073709551616) (hb : b < 18446744073709551616) : bits .and .u64 (a : Int) (b : Int) = ((a &&& b : Nat) : Int) := by
  have hx : a &&& b < 2 ^ 64 := Nat.and_lt_two_pow a (by omega)
  have h1 : (BitVec.ofInt 64 (a : Int)).toNat = a := by rw [BitVec.ofInt_natCast, BitVec.toNat_ofNat]; exact Nat.mod_eq_of_lt (by omega)
  have h2 : (BitVec.ofInt 64 (b : Int)).toNat = b := by rw [BitVec.ofInt_natCast, BitVec.toNat_ofNat]; exact Nat.mod_eq_of_lt (by omega)
  show IntKind.u64.wrap ((BitVec.ofInt 64 (a : Int) &&& BitVec.ofInt 64 (b : Int)).toNat : Int) = _
  rw [BitVec.toNat_and, h1, h2, IntKind.wrap_u64]; omega

/-- All are bytes. -/
def B8 (l : List Int) : Prop := ∀ x ∈ l, 0 ≤ x ∧ x < 256
def nb (l : List Int) (j : Nat) : Nat := (l.getD j 0).toNat
theorem B8.getD {l : List Int} (h : B8 l) (j : Nat) : 0 ≤ l.getD j 0 ∧ l.getD j 0 < 256 := by
  by_cases hj : j < l.length
  · have : l.getD j 0 = l[j] := by simp [List.getD_eq_getElem?_getD, hj]
    rw [this]; exact h _ (List.getElem_mem hj)
  · have : l.getD j 0 = 0 := by simp [List.getD_eq_getElem?_getD, Nat.le_of_not_lt hj]
    rw [this]; omega
theorem B8.nb {l : List Int} (h : B8 l) (j : Nat) : nb l j < 256 := by have := h.getD j; unfold Q.nb; omega
theorem B8.cast {l : List Int} (h : B8 l) (j : Nat) : ((Q.nb l j : Nat) : Int) = l.getD j 0 := by have := h.getD j; unfold Q.nb; omega
def bitAt (l : List Int) (i : Nat) : Bool := (nb l (i / 8)).testBit (7 - i % 8)
def orbit (l : List Int) (p : Nat) : List Int := l.set (p / 8) ((nb l (p / 8) ||| 2 ^ (7 - p % 8) : Nat) : Int)
theorem pow_small (s : Nat) : 2 ^ (7 - s) < 256 := Nat.lt_of_le_of_lt (Nat.pow_le_pow_right (by omega) (Nat.sub_le 7 s)) (by omega)
theorem orbit_B8 {l : List Int} (h : B8 l) (p : Nat) : B8 (orbit l p) := by
  intro x hx
  rcases List.mem_or_eq_of_mem_set hx with hx | rfl
  · exact h x hx
  · have : nb l (p / 8) ||| 2 ^ (7 - p % 8) < 2 ^ 8 := Nat.or_lt_two_pow (h.nb _) (pow_small _)
    omega
theorem orbit_length (l : List Int) (p : Nat) : (orbit l p).length = l.length := by simp [orbit]
theorem bitAt_orbit (l : List Int) (p : Nat) (hp : p < 8 * l.length) (i : Nat) : bitAt (orbit l p) i = (decide (i = p) || bitAt l i) := by
  unfold bitAt orbit nb
  by_cases e : p / 8 = i / 8
  · have hlt : i / 8 < l.length := by omega
    rw [e, List.getD_eq_getElem?_getD, List.getElem?_set_self hlt]
    simp only [Option.getD_some, Int.toNat_natCast, Nat.testBit_or, Nat.testBit_two_pow]
    rw [Bool.or_comm]
    congr 1
    by_cases c : i = p
    · subst c; simp
    · have : ¬ (7 - p % 8 = 7 - i % 8) := by omega
      simp [c, this]
  · rw [List.getD_eq_getElem?_getD, List.getElem?_set_ne e, ← List.getD_eq_getElem?_getD]
    have : ¬ i = p := by rintro rfl; exact e rfl
    simp [this]
def pack : List Bool → List Int → Nat → List Int
  | [], b, _ => b
  | x :: xs, b, p => pack xs (if x then orbit b p else b) (p + 1)
theorem pack_length : ∀ (xs : List Bool) (b : List Int) (p : Nat), (pack xs b p).length = b.length
  | [], b, p => rfl
  | x :: xs, b, p => by
    unfold pack; rw [pack_length]; split
    · exact orbit_length ..
    · rfl
theorem pack_B8 : ∀ (xs : List Bool) (b : List Int) (p : Nat), B8 b → B8 (pack xs b p)
  | [], b, p, h => h
  | x :: xs, b, p, h => by
    unfold pack; apply pack_B8; split
    · exact orbit_B8 h _
    · exact h
theorem bitAt_pack : ∀ (xs : List Bool) (b : List Int) (p : Nat), p + xs.length ≤ 8 * b.length → ∀ i, bitAt (pack xs b p) i = (bitAt b i || (decide (p ≤ i) && xs.getD (i - p) false))
  | [], b, p, h, i => by simp [pack]
  | x :: xs, b, p, h, i => by
    simp only [List.length_cons] at h
    unfold pack
    rw [bitAt_pack xs _ (p + 1) (by split <;> (try rw [orbit_length]) <;> omega) i]
    by_cases e : i = p
    · subst e
      have hn : ¬ i + 1 ≤ i := by omega
      cases x
      · simp [hn]
      · simp [bitAt_orbit _ _ (by omega : i < 8 * b.length)]
    · by_cases c : p + 1 ≤ i
      · have h1 : i - p = (i - (p + 1)) + 1 := by omega
        have h2 : p ≤ i := by omega
        rw [h1, List.getD_cons_succ]
        cases x
        · simp [c, h2]
        · simp [bitAt_orbit _ _ (by omega : p < 8 * b.length), e, c, h2]
      · have h2 : ¬ p ≤ i := by omega
        cases x
        · simp [c, h2]
        · simp [bitAt_orbit _ _ (by omega : p < 8 * b.length), e, c, h2]
theorem bitAt_zeros (m i : Nat) : bitAt (List.replicate m 0) i = false := by
  unfold bitAt nb
  have : (List.replicate m (0 : Int)).getD (i / 8) 0 = 0 := by
    rw [List.getD_eq_getElem?_getD, List.getElem?_replicate]; split <;> rfl
  rw [this]; simp
theorem zeros_B8 (m : Nat) : B8 (List.replicate m 0) := by intro x hx; have := List.eq_of_mem_replicate hx; omega
theorem pack_bits (xs : List Bool) (m : Nat) (h : xs.length ≤ 8 * m) (i : Nat) : bitAt (pack xs (List.replicate m 0) 0) i = xs.getD i false := by
  rw [bitAt_pack _ _ _ (by simpa using h), bitAt_zeros]; simp

theorem bitLen_le : ∀ (f x n : Nat), x < 2 ^ f → (Lib.bitLenAux f x ≤ n ↔ x < 2 ^ n)
  | 0, x, n, h => by
    have : x = 0 := by omega
    subst this; simp [Lib.bitLenAux, Nat.pow_pos]
  | f + 1, x, n, h => by
    unfold Lib.bitLenAux
    by_cases c : x = 0
    · subst c; simp [Nat.pow_pos]
    · rw [if_neg c]
      cases n with
      | zero => simp; omega
      | succ n =>
        have := bitLen_le f (x / 2) n (by rw [Nat.pow_succ] at h; omega)
        rw [show 1 + Lib.bitLenAux f (x / 2) ≤ n + 1 ↔ Lib.bitLenAux f (x / 2) ≤ n from by omega, this, Nat.pow_succ]
        omega
end Go.Proofs.Ytbaedfpimlfonaa.Q
