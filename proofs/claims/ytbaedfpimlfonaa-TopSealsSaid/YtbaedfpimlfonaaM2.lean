/- Plain laws: what seal.Unpack reads of packed bits; bits.Len64; slices.Equal at bytes and at uint64. -/
import Derived.Test.YtbaedfpimlfonaaM1
import Derived.Test.YtbaedfpimlfonaaF2
import Derived.Test.YtbaedfpimlfonaaQ2
namespace Go.Proofs.Ytbaedfpimlfonaa.Q
open Go.RowKit Go.Proofs.YtbaedfpimlfonaaW.PrintWords Go.Proofs.YtbaedfpimlfonaaW.PrintLast Go.Proofs.YtbaedfpimlfonaaW.PrintMore
set_option linter.unusedVariables false

theorem ubit_eq (l : List Int) (h : B8 l) (i : Nat) : ubit l (i : Int) = if bitAt l i then 1 else 0 := by
  have e0 : rd l ((i : Int) / 8) = ((nb l (i / 8) : Nat) : Int) := by
    rw [h.cast]; unfold rd; congr 1
  have e1 : (7 - (i : Int) % 8).toNat = 7 - i % 8 := by omega
  have e2 : ((nb l (i / 8) : Nat) : Int) / 2 ^ (7 - i % 8) = ((nb l (i / 8) / 2 ^ (7 - i % 8) : Nat) : Int) := by
    rw [Int.natCast_ediv, Int.natCast_pow]; rfl
  have hlt : nb l (i / 8) / 2 ^ (7 - i % 8) < 256 := Nat.lt_of_le_of_lt (Nat.div_le_self _ _) (h.nb _)
  unfold ubit
  rw [e0, e1, e2, show (1 : Int) = ((1 : Nat) : Int) from rfl, and_u8_nat _ _ hlt (by omega), Nat.and_one_is_mod, IntKind.wrap_u64]
  unfold bitAt
  rw [Nat.testBit_eq_decide_div_mod_eq]
  have := Nat.mod_two_eq_zero_or_one (nb l (i / 8) / 2 ^ (7 - i % 8))
  rcases this with h | h <;> simp [h]

theorem mod_step (v P c d : Nat) : ((v * 2 % 18446744073709551616 + c) * P + d) % 18446744073709551616 = (v * (P * 2) + (d + P * c)) % 18446744073709551616 := by
  have hq := Nat.div_add_mod (v * 2) 18446744073709551616
  generalize v * 2 / 18446744073709551616 = q at hq
  generalize v * 2 % 18446744073709551616 = r at hq ⊢
  have h1 : v * (P * 2) = (v * 2) * P := by rw [Nat.mul_comm P, Nat.mul_assoc]
  have h2 : v * (P * 2) + (d + P * c) = ((r + c) * P + d) + 18446744073709551616 * (q * P) := by
    rw [h1, ← hq, Nat.add_mul, Nat.add_mul, Nat.mul_comm P c, Nat.mul_assoc]; omega
  rw [h2, Nat.add_mul_mod_self_left]

theorem uval_eq (b : List Int) (hb : B8 b) (x : Nat) : ∀ (n i v0 : Nat), v0 < 18446744073709551616 → (∀ j, j < n → bitAt b (i + j) = x.testBit (n - 1 - j)) →
    uval b n (i : Int) (v0 : Int) = (((v0 * 2 ^ n + x % 2 ^ n) % 18446744073709551616 : Nat) : Int)
  | 0, i, v0, h, _ => by
    simp only [uval, Nat.pow_zero, Nat.mul_one, Nat.mod_one, Nat.add_zero]
    rw [Nat.mod_eq_of_lt h]
  | n + 1, i, v0, h, hj => by
    have h0 := hj 0 (by omega)
    simp only [Nat.add_zero, Nat.add_sub_cancel, Nat.sub_zero] at h0
    unfold uval
    rw [ubit_eq b hb i, h0]
    have e1 : IntKind.u64.wrap ((v0 : Int) * 2) = ((v0 * 2 % 18446744073709551616 : Nat) : Int) := by rw [IntKind.wrap_u64]; omega
    have hev : v0 * 2 % 18446744073709551616 < 18446744073709551616 := Nat.mod_lt _ (by omega)
    have e2 : bits .or .u64 (IntKind.u64.wrap ((v0 : Int) * 2)) (if x.testBit n = true then 1 else 0) = ((v0 * 2 % 18446744073709551616 + (x / 2 ^ n % 2) : Nat) : Int) := by
      rw [e1]
      have ht : (if x.testBit n = true then (1 : Int) else 0) = ((x / 2 ^ n % 2 : Nat) : Int) := by
        rw [Nat.testBit_eq_decide_div_mod_eq]
        rcases Nat.mod_two_eq_zero_or_one (x / 2 ^ n) with h | h <;> simp [h]
      rw [ht, or_u64_nat _ _ hev (by omega)]
      congr 1
      have h2 : v0 * 2 % 18446744073709551616 = 2 ^ 1 * (v0 * 2 % 18446744073709551616 / 2) := by omega
      rw [h2, ← Nat.two_pow_add_eq_or_of_lt (by omega)]
    rw [e2, show ((i : Int) + 1) = ((i + 1 : Nat) : Int) from rfl, uval_eq b hb x n (i + 1) _ (by omega) (fun j hj2 => by
      have := hj (j + 1) (by omega)
      rw [show i + 1 + j = i + (j + 1) from by omega, this]; congr 1; omega)]
    congr 1
    have e3 : x % 2 ^ (n + 1) = x % 2 ^ n + 2 ^ n * (x / 2 ^ n % 2) := Nat.mod_pow_succ
    rw [e3, Nat.pow_succ]
    exact mod_step v0 (2 ^ n) _ _

theorem equal8_l0 (a b : List Int) (h : a.length = b.length) (ha : (a.length : Int) ≤ 140737488355328) : ∀ (d : Nat) (i : Int), 0 ≤ i → i ≤ a.length → (a.length : Int) - i = d →
    Ev (fun k => slices_Equal_byte_byte.l0 k a b (a.length : Int) i) (decide (a.drop i.toNat = b.drop i.toNat)) := by
  intro d
  induction d with
  | zero =>
    intro i h0 h1 hd
    refine Ev.step (f := fun _ => some _) (fun k => ?_) (Ev.now _)
    simp only [slices_Equal_byte_byte.l0]
    rw [if_neg (by omega), List.drop_eq_nil_iff.2 (by omega), List.drop_eq_nil_iff.2 (by omega)]; simp
  | succ d ih =>
    intro i h0 h1 hd
    have hw : wrap64 (i + 1) = i + 1 := by unfold wrap64; omega
    rw [drop_rd a i h0 (by omega), drop_rd b i h0 (by omega)]
    by_cases c : rd a i = rd b i
    · refine Ev.step (f := fun k => slices_Equal_byte_byte.l0 k a b (a.length : Int) (i + 1)) (fun k => ?_) ?_
      · simp only [slices_Equal_byte_byte.l0]
        rw [if_pos (by omega), if_pos h0, if_pos (by omega), if_pos (by omega), if_pos c, hw]
      · have := ih (i + 1) (by omega) (by omega) (by omega)
        rw [c]; simpa using this
    · refine Ev.step (f := fun _ => some _) (fun k => ?_) (Ev.now _)
      simp only [slices_Equal_byte_byte.l0]
      rw [if_pos (by omega), if_pos h0, if_pos (by omega), if_pos (by omega), if_neg c]; simp [c]
theorem equal8 (a b : List Int) (ha : (a.length : Int) ≤ 140737488355328) : Ev (fun k => slices_Equal_byte_byte.f k a b) (decide (a = b)) := by
  unfold slices_Equal_byte_byte.f
  by_cases h : a.length = b.length
  · have := equal8_l0 a b h ha a.length 0 (by omega) (by omega) (by omega)
    simpa [h] using this
  · have hne : a ≠ b := fun e => h (by rw [e])
    refine Ev.congr (f := fun _ => some false) (fun k => ?_) ?_
    · rw [if_neg (by omega)]
    · simpa [hne] using Ev.now false
theorem equal64_l0 (a b : List Int) (h : a.length = b.length) (ha : (a.length : Int) ≤ 140737488355328) : ∀ (d : Nat) (i : Int), 0 ≤ i → i ≤ a.length → (a.length : Int) - i = d →
    Ev (fun k => slices_Equal_uint64_uint64.l0 k a b (a.length : Int) i) (decide (a.drop i.toNat = b.drop i.toNat)) := by
  intro d
  induction d with
  | zero =>
    intro i h0 h1 hd
    refine Ev.step (f := fun _ => some _) (fun k => ?_) (Ev.now _)
    simp only [slices_Equal_uint64_uint64.l0]
    rw [if_neg (by omega), List.drop_eq_nil_iff.2 (by omega), List.drop_eq_nil_iff.2 (by omega)]; simp
  | succ d ih =>
    intro i h0 h1 hd
    have hw : wrap64 (i + 1) = i + 1 := by unfold wrap64; omega
    rw [drop_rd a i h0 (by omega), drop_rd b i h0 (by omega)]
    by_cases c : rd a i = rd b i
    · refine Ev.step (f := fun k => slices_Equal_uint64_uint64.l0 k a b (a.length : Int) (i + 1)) (fun k => ?_) ?_
      · simp only [slices_Equal_uint64_uint64.l0]
        rw [if_pos (by omega), if_pos h0, if_pos (by omega), if_pos (by omega), if_pos c, hw]
      · have := ih (i + 1) (by omega) (by omega) (by omega)
        rw [c]; simpa using this
    · refine Ev.step (f := fun _ => some _) (fun k => ?_) (Ev.now _)
      simp only [slices_Equal_uint64_uint64.l0]
      rw [if_pos (by omega), if_pos h0, if_pos (by omega), if_pos (by omega), if_neg c]; simp [c]
theorem equal64 (a b : List Int) (ha : (a.length : Int) ≤ 140737488355328) : Ev (fun k => slices_Equal_uint64_uint64.f k a b) (decide (a = b)) := by
  unfold slices_Equal_uint64_uint64.f
  by_cases h : a.length = b.length
  · have := equal64_l0 a b h ha a.length 0 (by omega) (by omega) (by omega)
    simpa [h] using this
  · have hne : a ≠ b := fun e => h (by rw [e])
    refine Ev.congr (f := fun _ => some false) (fun k => ?_) ?_
    · rw [if_neg (by omega)]
    · simpa [hne] using Ev.now false
end Go.Proofs.Ytbaedfpimlfonaa.Q
