/- Plain laws on bytes: how many bits are 0, seals, what covers what; no conditions beyond each statement's. -/
import Derived.Test.YtbaedfpimlfonaaM1
namespace Go.Proofs.Ytbaedfpimlfonaa.Q
open Go.RowKit Go.Proofs.YtbaedfpimlfonaaW.PrintWords Go.Proofs.YtbaedfpimlfonaaW.PrintLast Go.Proofs.YtbaedfpimlfonaaW.PrintMore
set_option linter.unusedVariables false

theorem Ev.pos {α : Type} {c : Prop} [Decidable c] {f g : Nat → Option α} {r : α} (h : c) (k : Ev f r) : Ev (fun n => if c then f n else g n) r := Ev.congr (fun _ => if_pos h) k
theorem Ev.neg {α : Type} {c : Prop} [Decidable c] {f g : Nat → Option α} {r : α} (h : ¬ c) (k : Ev g r) : Ev (fun n => if c then f n else g n) r := Ev.congr (fun _ => if_neg h) k
theorem Ev.some_bind {α β : Type} {a : α} {f : Nat → α → Option β} {r : β} (k : Ev (fun n => f n a) r) : Ev (fun n => (some a).bind (f n)) r := k

def zb (x i : Nat) : Nat := if x.testBit i then 0 else 1
def z8 (x : Nat) : Nat := zb x 0 + zb x 1 + zb x 2 + zb x 3 + zb x 4 + zb x 5 + zb x 6 + zb x 7
theorem zb_le (x i : Nat) : zb x i ≤ 1 := by unfold zb; split <;> omega
theorem z8_le (x : Nat) : z8 x ≤ 8 := by
  unfold z8
  have := zb_le x 0; have := zb_le x 1; have := zb_le x 2; have := zb_le x 3; have := zb_le x 4; have := zb_le x 5; have := zb_le x 6; have := zb_le x 7
  omega
theorem zb_or (x y i : Nat) : zb (x ||| y) i ≤ zb x i := by unfold zb; rw [Nat.testBit_or]; cases x.testBit i <;> cases y.testBit i <;> simp
theorem z8_or (x y : Nat) : z8 (x ||| y) ≤ z8 x := by
  unfold z8
  have := zb_or x y 0; have := zb_or x y 1; have := zb_or x y 2; have := zb_or x y 3; have := zb_or x y 4; have := zb_or x y 5; have := zb_or x y 6; have := zb_or x y 7
  omega
theorem zb_eq {x y i : Nat} (h : zb (x ||| y) i = zb x i) : (x ||| y).testBit i = x.testBit i := by
  unfold zb at h; revert h; rw [Nat.testBit_or]; cases x.testBit i <;> cases y.testBit i <;> simp
theorem z8_eq (x y : Nat) (hx : x < 256) (hy : y < 256) (h : z8 (x ||| y) = z8 x) : x ||| y = x := by
  unfold z8 at h
  have h0 := zb_or x y 0; have h1 := zb_or x y 1; have h2 := zb_or x y 2; have h3 := zb_or x y 3; have h4 := zb_or x y 4; have h5 := zb_or x y 5; have h6 := zb_or x y 6; have h7 := zb_or x y 7
  have hxy : x ||| y < 2 ^ 8 := Nat.or_lt_two_pow (by omega) (by omega)
  apply Nat.eq_of_testBit_eq
  intro i
  by_cases hi : i < 8
  · have hc : i = 0 ∨ i = 1 ∨ i = 2 ∨ i = 3 ∨ i = 4 ∨ i = 5 ∨ i = 6 ∨ i = 7 := by omega
    rcases hc with rfl | rfl | rfl | rfl | rfl | rfl | rfl | rfl <;> exact zb_eq (by omega)
  · have e : 2 ^ 8 ≤ 2 ^ i := Nat.pow_le_pow_right (by omega) (by omega)
    rw [Nat.testBit_lt_two_pow (Nat.lt_of_lt_of_le hxy e), Nat.testBit_lt_two_pow (Nat.lt_of_lt_of_le (by omega : x < 2 ^ 8) e)]
set_option maxRecDepth 100000 in
theorem z8_next : ∀ x : Nat, x < 255 → z8 (x ||| (x + 1)) + 1 = z8 x ∧ x ||| (x + 1) < 256 := by decide
theorem z8_255 : z8 255 = 0 := by decide
set_option maxRecDepth 100000 in
theorem z8_zero : ∀ x : Nat, x < 256 → z8 x = 0 → x = 255 := by decide

def zs (l : List Int) : Nat := (l.map fun x => z8 x.toNat).sum
theorem zs_le (l : List Int) : zs l ≤ 8 * l.length := by
  induction l with
  | nil => simp [zs]
  | cons x l ih =>
    have := z8_le x.toNat
    simp only [zs, List.map_cons, List.sum_cons, List.length_cons] at *; omega
theorem zs_append (a b : List Int) : zs (a ++ b) = zs a + zs b := by simp [zs]
def be4 (n : Nat) : List Int := [((n / 16777216 % 256 : Nat) : Int), ((n / 65536 % 256 : Nat) : Int), ((n / 256 % 256 : Nat) : Int), ((n % 256 : Nat) : Int)]
theorem be4_length (n : Nat) : (be4 n).length = 4 := rfl
theorem be4_B8 (n : Nat) : B8 (be4 n) := by
  intro x hx
  simp only [be4, List.mem_cons, List.not_mem_nil, or_false] at hx
  rcases hx with rfl | rfl | rfl | rfl <;> omega
def sealL (l : List Int) : List Int := l ++ be4 (zs l)
theorem sealL_length (l : List Int) : (sealL l).length = l.length + 4 := by simp [sealL, be4_length]
theorem B8.append {a b : List Int} (ha : B8 a) (hb : B8 b) : B8 (a ++ b) := by
  intro x hx
  rcases List.mem_append.1 hx with h | h
  · exact ha x h
  · exact hb x h
theorem sealL_B8 {l : List Int} (h : B8 l) : B8 (sealL l) := h.append (be4_B8 _)
theorem B8.take {l : List Int} (h : B8 l) (n : Nat) : B8 (l.take n) := fun x hx => h x (List.mem_of_mem_take hx)
theorem B8.drop {l : List Int} (h : B8 l) (n : Nat) : B8 (l.drop n) := fun x hx => h x (List.mem_of_mem_drop hx)

/-- What each bit of was is in now. -/
inductive Cv : List Int → List Int → Prop
  | nil : Cv [] []
  | cons {x y : Int} {a b : List Int} (h : x.toNat ||| y.toNat = x.toNat) (k : Cv a b) : Cv (x :: a) (y :: b)
theorem Cv.length {a b : List Int} (h : Cv a b) : a.length = b.length := by
  induction h with
  | nil => rfl
  | cons _ _ ih => simp [ih]
theorem Cv.split : ∀ {a b c d : List Int}, a.length = b.length → Cv (a ++ c) (b ++ d) → Cv a b ∧ Cv c d
  | [], [], c, d, _, h => ⟨.nil, h⟩
  | x :: a, y :: b, c, d, hl, h => by
    cases h with
    | cons h k =>
      have := Cv.split (by simpa using hl) k
      exact ⟨.cons h this.1, this.2⟩
theorem or_ge (x y : Nat) (h : x ||| y = x) : y ≤ x := by rw [← h]; exact Nat.right_le_or
theorem Cv.zs {a b : List Int} (ha : B8 a) (hb : B8 b) (h : Cv a b) : Q.zs a ≤ Q.zs b ∧ (Q.zs a = Q.zs b → a = b) := by
  induction h with
  | nil => exact ⟨Nat.le_refl _, fun _ => rfl⟩
  | @cons x y a b h k ih =>
    have hx := ha x (List.mem_cons_self ..)
    have hy := hb y (List.mem_cons_self ..)
    obtain ⟨i1, i2⟩ := ih (fun z hz => ha z (List.mem_cons_of_mem _ hz)) (fun z hz => hb z (List.mem_cons_of_mem _ hz))
    have h1 := z8_or y.toNat x.toNat
    rw [Nat.or_comm, h] at h1
    simp only [Q.zs, List.map_cons, List.sum_cons] at *
    refine ⟨by omega, fun he => ?_⟩
    have e1 : z8 x.toNat = z8 y.toNat := by omega
    have e2 := z8_eq y.toNat x.toNat (by omega) (by omega) (by rw [Nat.or_comm, h]; exact e1)
    rw [Nat.or_comm, h] at e2
    rw [i2 (by omega)]
    congr 1
    omega
theorem be4_cv (n m : Nat) (hn : n < 4294967296) (hm : m < 4294967296) (h : Cv (be4 n) (be4 m)) : m ≤ n := by
  unfold be4 at h
  cases h with
  | cons h0 h =>
    cases h with
    | cons h1 h =>
      cases h with
      | cons h2 h =>
        cases h with
        | cons h3 h =>
          have g0 := or_ge _ _ h0
          have g1 := or_ge _ _ h1
          have g2 := or_ge _ _ h2
          have g3 := or_ge _ _ h3
          simp only [Int.toNat_natCast] at g0 g1 g2 g3
          have en : n = (n / 16777216 % 256) * 16777216 + (n / 65536 % 256) * 65536 + (n / 256 % 256) * 256 + n % 256 := by clear g0 g1 g2 g3; omega
          have em : m = (m / 16777216 % 256) * 16777216 + (m / 65536 % 256) * 65536 + (m / 256 % 256) * 256 + m % 256 := by clear g0 g1 g2 g3 en; omega
          generalize n / 16777216 % 256 = n0 at *
          generalize n / 65536 % 256 = n1 at *
          generalize n / 256 % 256 = n2 at *
          generalize n % 256 = n3 at *
          generalize m / 16777216 % 256 = m0 at *
          generalize m / 65536 % 256 = m1 at *
          generalize m / 256 % 256 = m2 at *
          generalize m % 256 = m3 at *
          omega
/-- What covers a seal, and is one, is the same. -/
theorem seal_cv (a b : List Int) (ha : B8 a) (hb : B8 b) (hl : a.length = b.length) (hs : a.length ≤ 1000) (h : Cv (sealL a) (sealL b)) : a = b := by
  obtain ⟨h1, h2⟩ := Cv.split hl h
  obtain ⟨g1, g2⟩ := Cv.zs ha hb h1
  have za := zs_le a
  have zb := zs_le b
  have := be4_cv _ _ (by omega) (by omega) h2
  exact g2 (by omega)
/-- What bytes are: 10 erased, 0 sealed, 11 torn. -/
def stOf (l : List Int) : Int := if 0 < l.length ∧ zs l = 0 then 10 else if l.length < 4 then 11 else if l.drop (l.length - 4) = be4 (zs (l.take (l.length - 4))) then 0 else 11
theorem stOf_zero {l : List Int} (h : stOf l = 0) : 4 ≤ l.length ∧ l = sealL (l.take (l.length - 4)) := by
  unfold stOf at h
  split at h
  · exact absurd h (by omega)
  · split at h
    · exact absurd h (by omega)
    · split at h
      · rename_i h2 h3
        refine ⟨by omega, ?_⟩
        unfold sealL
        rw [← h3, List.take_append_drop]
      · exact absurd h (by omega)
end Go.Proofs.Ytbaedfpimlfonaa.Q
