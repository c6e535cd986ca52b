/- Plain laws: seal.Width and seal.Pack as they are told of widths and values. -/
import Derived.Test.YtbaedfpimlfonaaM2
namespace Go.Proofs.Ytbaedfpimlfonaa.Q
open Go.RowKit Go.Proofs.YtbaedfpimlfonaaW.PrintWords Go.Proofs.YtbaedfpimlfonaaW.PrintLast Go.Proofs.YtbaedfpimlfonaaW.PrintMore
set_option linter.unusedVariables false

def okW (l : List Int) : Bool := l.all fun x => decide (1 ≤ x) && decide (x ≤ 64)
theorem okW_iff (l : List Int) : okW l = true ↔ ∀ x ∈ l, 1 ≤ x ∧ x ≤ 64 := by simp [okW]
theorem total_l0_ev (l : List Int) (hl : l.length ≤ 64) : ∀ (d : Nat) (i x4 : Int), 0 ≤ i → i ≤ l.length → (l.length : Int) - i = d → 0 ≤ x4 → x4 ≤ 64 * i →
    Ev (fun k => seal_total.l0 k x4 l (l.length : Int) i) (if okW (l.drop i.toNat) then (x4 + (l.drop i.toNat).sum, 0) else (0, 1)) := by
  intro d
  induction d with
  | zero =>
    intro i x4 h0 h1 hd _ _
    refine Ev.step (f := fun _ => some _) (fun k => ?_) (Ev.now _)
    simp only [seal_total.l0]
    rw [if_neg (by omega), List.drop_eq_nil_iff.2 (by omega)]; simp [okW]
  | succ d ih =>
    intro i x4 h0 h1 hd h2 h3
    rw [drop_rd l i h0 (by omega)]
    by_cases c1 : rd l i < 1
    · refine Ev.step (f := fun _ => some _) (fun k => ?_) (Ev.now _)
      simp only [seal_total.l0]
      rw [if_pos (by omega), if_pos h0, if_pos (by omega), if_pos c1]
      have : ¬ 1 ≤ rd l i := by omega
      simp [okW, this]
    · by_cases c2 : rd l i > 64
      · refine Ev.step (f := fun _ => some _) (fun k => ?_) (Ev.now _)
        simp only [seal_total.l0]
        rw [if_pos (by omega), if_pos h0, if_pos (by omega), if_neg c1, if_pos c2]
        have : ¬ rd l i ≤ 64 := by omega
        simp [okW, this]
      · have e1 : wrap64 (x4 + rd l i) = x4 + rd l i := by unfold wrap64; omega
        have e2 : wrap64 (i + 1) = i + 1 := by unfold wrap64; omega
        refine Ev.step (f := fun k => seal_total.l0 k (x4 + rd l i) l (l.length : Int) (i + 1)) (fun k => ?_) ?_
        · simp only [seal_total.l0]
          rw [if_pos (by omega), if_pos h0, if_pos (by omega), if_neg c1, if_neg c2, e1, e2]
        · have := ih (i + 1) (x4 + rd l i) (by omega) (by omega) (by omega) (by omega) (by omega)
          have e3 : okW (rd l i :: l.drop (i + 1).toNat) = okW (l.drop (i + 1).toNat) := by
            have a1 : 1 ≤ rd l i := by omega
            have a2 : rd l i ≤ 64 := by omega
            simp [okW, a1, a2]
          rw [e3, List.sum_cons, ← Int.add_assoc]; exact this
theorem total_ev (l : List Int) : Ev (fun k => seal_total.f k l) (if l.length ≤ 64 ∧ okW l = true then (l.sum, 0) else (0, 1)) := by
  unfold seal_total.f
  by_cases h : l.length ≤ 64
  · have := total_l0_ev l h l.length 0 0 (by omega) (by omega) (by omega) (by omega) (by omega)
    refine Ev.congr (fun k => if_neg (by omega)) ?_
    simpa [h] using this
  · refine Ev.congr (f := fun _ => some (0, 1)) (fun k => if_pos (by omega)) ?_
    simpa [h] using Ev.now ((0, 1) : Int × Int)
theorem width_ev (l : List Int) : Ev (fun k => seal_Width.f k l) (if l.length ≤ 64 ∧ okW l = true then ((l.sum + 7) / 8, 0) else (0, 1)) := by
  unfold seal_Width.f
  refine Ev.bind (total_ev l) ?_
  by_cases h : l.length ≤ 64 ∧ okW l = true
  · have hs := sum_le l ((okW_iff l).1 h.2)
    have e1 : wrap64 (l.sum + 7) = l.sum + 7 := by unfold wrap64; omega
    have e2 : wrap64 (Int.tdiv (l.sum + 7) 8) = (l.sum + 7) / 8 := by
      rw [Int.tdiv_eq_ediv_of_nonneg (by omega)]; unfold wrap64; omega
    simp only [if_pos h, e1, e2]; exact Ev.now _
  · simp only [if_neg h]
    have h7 : wrap64 (0 + 7) = 7 := by unfold wrap64; omega
    have h8 : Int.tdiv 7 8 = 0 := by decide
    have : wrap64 (Int.tdiv (wrap64 (0 + 7)) 8) = 0 := by rw [h7, h8]; unfold wrap64; omega
    simp only [this]; exact Ev.now _

/-- The bits of a value, the highest first. -/
def vbits (v : Nat) : Nat → List Bool
  | 0 => []
  | n + 1 => v.testBit n :: vbits v n
theorem vbits_length (v : Nat) : ∀ n, (vbits v n).length = n
  | 0 => rfl
  | n + 1 => by simp [vbits, vbits_length v n]
theorem vbits_getD (v : Nat) : ∀ (n j : Nat), j < n → (vbits v n).getD j false = v.testBit (n - 1 - j)
  | 0, j, h => by omega
  | n + 1, 0, h => by simp [vbits]
  | n + 1, j + 1, h => by
    have := vbits_getD v n j (by omega)
    simp only [vbits, List.getD_cons_succ, this]; congr 1; omega
theorem shift_tab : ∀ r : Nat, r < 8 → (128 : Int) / 2 ^ min r 8 = ((2 ^ (7 - r) : Nat) : Int) ∧ ∀ s : Nat, s + r = 7 → (1 * 2 ^ min s 8 : Int) % 256 = ((2 ^ (7 - r) : Nat) : Int) := by
  intro r hr
  refine ⟨?_, ?_⟩
  · revert r; decide
  · intro s hs
    have : s = 7 - r := by omega
    subst this
    revert r; decide
theorem or_zero8 {l : List Int} (h : B8 l) (j : Nat) : l.set j (bits .or .u8 (l.getD j 0) 0) = l := by
  rw [← h.cast j, show (0 : Int) = ((0 : Nat) : Int) from rfl, or_u8_nat _ _ (h.nb j) (by omega), Nat.or_zero, h.cast j]
  apply List.ext_getElem
  · simp
  · intro i h1 h2
    by_cases e : j = i
    · subst e; simp at h1; simp [List.getD_eq_getElem?_getD, h1]
    · rw [List.getElem_set_ne e]
theorem or_bit8 {l : List Int} (h : B8 l) (p : Nat) : l.set (p / 8) (bits .or .u8 (l.getD (p / 8) 0) ((2 ^ (7 - p % 8) : Nat) : Int)) = orbit l p := by
  rw [← h.cast, or_u8_nat _ _ (h.nb _) (pow_small _)]; rfl
/-- One step of seal.Pack. -/
theorem pack_step {b : List Int} (hb : B8 b) (hlen : b.length ≤ 1000) (p v w j : Nat) (hp : p < 8 * b.length) (hv : v < 18446744073709551616) (hj : j < w) (hw : w ≤ 64) :
    b.set ((wrap64 (Int.tdiv (p : Int) 8)) : Int).toNat (Go.bits .or .u8 (rd b (wrap64 (Int.tdiv (p : Int) 8))) (shl .u8 ((Go.bits .and .u64 (shr .u64 (v : Int) (wrap64 ((wrap64 ((w : Int) - 1)) - (j : Int)))) 1) % 256) (wrap64 (7 - (Int.tmod (p : Int) 8))))) = if v.testBit (w - 1 - j) then orbit b p else b := by
  have e1 : wrap64 (Int.tdiv (p : Int) 8) = ((p / 8 : Nat) : Int) := by rw [Int.tdiv_eq_ediv_of_nonneg (by omega)]; unfold wrap64; omega
  have e2 : wrap64 (7 - Int.tmod (p : Int) 8) = ((7 - p % 8 : Nat) : Int) := by rw [Int.tmod_eq_emod_of_nonneg (by omega)]; unfold wrap64; omega
  have e3 : wrap64 (wrap64 ((w : Int) - 1) - (j : Int)) = ((w - 1 - j : Nat) : Int) := by unfold wrap64; omega
  rw [e1, e2, e3]
  have e4 : shr .u64 (v : Int) ((w - 1 - j : Nat) : Int) = ((v / 2 ^ (w - 1 - j) : Nat) : Int) := by
    unfold shr
    rw [Int.toNat_natCast, Nat.min_eq_left (by show _ ≤ 64; omega), Int.natCast_ediv, Int.natCast_pow]; rfl
  have hlt : v / 2 ^ (w - 1 - j) < 18446744073709551616 := Nat.lt_of_le_of_lt (Nat.div_le_self _ _) hv
  rw [e4, show (1 : Int) = ((1 : Nat) : Int) from rfl, and_u64_nat _ _ hlt (by omega), Nat.and_one_is_mod, Int.toNat_natCast]
  have e5 : rd b ((p / 8 : Nat) : Int) = b.getD (p / 8) 0 := by unfold rd; rw [Int.toNat_natCast]
  rw [e5, Nat.testBit_eq_decide_div_mod_eq]
  have ht := shift_tab (p % 8) (by omega)
  rcases Nat.mod_two_eq_zero_or_one (v / 2 ^ (w - 1 - j)) with h | h
  · rw [h]
    have : shl .u8 ((((0 : Nat) : Int)) % 256) ((7 - p % 8 : Nat) : Int) = 0 := by unfold shl; rw [IntKind.wrap_u8]; simp
    rw [this, or_zero8 hb]; simp
  · rw [h]
    have : shl .u8 ((((1 : Nat) : Int)) % 256) ((7 - p % 8 : Nat) : Int) = ((2 ^ (7 - p % 8) : Nat) : Int) := by
      unfold shl; rw [IntKind.wrap_u8, Int.toNat_natCast]; exact ht.2 (7 - p % 8) (by omega)
    rw [this, or_bit8 hb]; simp
/-- One step of the statement's own packing. -/
theorem own_step {b : List Int} (hb : B8 b) (p : Nat) (hp : p < 1000000) :
    b.set ((wrap64 (Int.tdiv (p : Int) 8)) : Int).toNat (Go.bits .or .u8 (rd b (wrap64 (Int.tdiv (p : Int) 8))) (shr .u8 128 (Int.tmod (p : Int) 8))) = orbit b p := by
  have e1 : wrap64 (Int.tdiv (p : Int) 8) = ((p / 8 : Nat) : Int) := by rw [Int.tdiv_eq_ediv_of_nonneg (by omega)]; unfold wrap64; omega
  have e2 : Int.tmod (p : Int) 8 = ((p % 8 : Nat) : Int) := by rw [Int.tmod_eq_emod_of_nonneg (by omega)]; rfl
  rw [e1, e2, Int.toNat_natCast]
  have e5 : rd b ((p / 8 : Nat) : Int) = b.getD (p / 8) 0 := by unfold rd; rw [Int.toNat_natCast]
  have ht := shift_tab (p % 8) (by omega)
  have e6 : shr .u8 128 ((p % 8 : Nat) : Int) = ((2 ^ (7 - p % 8) : Nat) : Int) := by
    unfold shr; rw [Int.toNat_natCast]; exact ht.1
  rw [e5, e6, or_bit8 hb]
end Go.Proofs.Ytbaedfpimlfonaa.Q
