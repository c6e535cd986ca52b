/- Plain laws: masks laid over bytes, and what covers what. -/
import Derived.Test.YtbaedfpimlfonaaM8
import Derived.Test.YtbaedfpimlfonaaM4
namespace Go.Proofs.Ytbaedfpimlfonaa.Q
open Go.RowKit Go.Proofs.YtbaedfpimlfonaaW.PrintWords Go.Proofs.YtbaedfpimlfonaaW.PrintLast Go.Proofs.YtbaedfpimlfonaaW.PrintMore
set_option linter.unusedVariables false

def mk (m : List Int) : List Int → Nat → List Int
  | [], _ => []
  | x :: xs, i => (if 0 < m.length then ((x.toNat ||| nb m (i % m.length) : Nat) : Int) else x) :: mk m xs (i + 1)
theorem mk_length (m : List Int) : ∀ l i, (mk m l i).length = l.length
  | [], _ => rfl
  | x :: xs, i => by simp [mk, mk_length m xs (i + 1)]
theorem or_lt (a b : Nat) (ha : a < 256) (hb : b < 256) : a ||| b < 256 := Nat.or_lt_two_pow (n := 8) ha hb
theorem mk_B8 (m : List Int) (hm : B8 m) : ∀ l i, B8 l → B8 (mk m l i)
  | [], _, _ => by intro x hx; simp [mk] at hx
  | x :: xs, i, h => by
    intro y hy
    have hx := h x (List.mem_cons_self ..)
    simp only [mk, List.mem_cons] at hy
    rcases hy with rfl | hy
    · split
      · have := or_lt x.toNat (nb m (i % m.length)) (by omega) (hm.nb _); omega
      · exact hx
    · exact mk_B8 m hm xs (i + 1) (fun z hz => h z (List.mem_cons_of_mem _ hz)) y hy
theorem mk_Cv (m : List Int) : ∀ l i, Cv (mk m l i) l
  | [], _ => .nil
  | x :: xs, i => by
    refine .cons ?_ (mk_Cv m xs (i + 1))
    split
    · rw [Int.toNat_natCast, Nat.or_assoc, Nat.or_comm (nb m _), ← Nat.or_assoc, Nat.or_self]
    · exact Nat.or_self _
theorem tmodn (i n : Nat) : Int.tmod (i : Int) (n : Int) = ((i % n : Nat) : Int) := by rw [Int.tmod_eq_emod_of_nonneg (by omega)]; rfl
theorem set_at {α : Type} (A : List α) (x y : α) (B : List α) (i : Nat) (h : A.length = i) : (A ++ x :: B).set i y = A ++ y :: B := by
  subst h; simp
theorem rd_at' (A : List Int) (x : Int) (B : List Int) (i : Nat) (h : A.length = i) : rd (A ++ x :: B) (i : Int) = x := by
  subst h; rw [rdn]; simp [List.getD_eq_getElem?_getD]
theorem laid_l0 (m : List Int) (hm : B8 m) (n : Nat) (hn : n ≤ 1000) : ∀ (rest done : List Int) (i : Nat), done.length = i → i + rest.length = n → B8 rest →
    Ev (fun k => slipwaytop_laid.l0 k m (done ++ rest) (n : Int) (i : Int)) (done ++ mk m rest i) := by
  intro rest
  induction rest with
  | nil =>
    intro done i hd hi hb
    have a1 : ¬ (i : Int) < (n : Int) := by simp at hi; omega
    refine Ev.step (f := fun _ => some _) (fun k => ?_) (Ev.now _)
    rw [slipwaytop_laid.l0.eq_2, if_neg a1]; rfl
  | cons x rest ih =>
    intro done i hd hi hb
    simp only [List.length_cons] at hi
    have hx := hb x (List.mem_cons_self ..)
    have a1 : (i : Int) < (n : Int) := by omega
    have a2 : 0 ≤ (i : Int) := by omega
    have a3 : (i : Int) < ((done ++ x :: rest).length : Int) := by rw [List.length_append, List.length_cons]; omega
    have hr := rd_at' done x rest i hd
    have w1 := wsucc i (by omega)
    have hst : ∀ y, (done ++ x :: rest).set i y = (done ++ [y]) ++ rest := fun y => by rw [set_at _ _ _ _ _ hd]; simp
    obtain ⟨xn, hxn⟩ : ∃ xn : Nat, x = (xn : Int) := ⟨x.toNat, by omega⟩
    by_cases c : 0 < m.length
    · have b1 : (m.length : Int) > 0 := by clear w1; omega
      have b2 : ¬ (m.length : Int) = 0 := by clear w1; omega
      have b3 : 0 ≤ ((i % m.length : Nat) : Int) := Int.natCast_nonneg _
      have b4 : ((i % m.length : Nat) : Int) < (m.length : Int) := by have := Nat.mod_lt i c; clear w1; omega
      have e : Go.bits .or .u8 x (rd m ((i % m.length : Nat) : Int)) = ((x.toNat ||| nb m (i % m.length) : Nat) : Int) := by
        rw [rdn, ← hm.cast, hxn, or_u8_nat _ _ (by clear w1; omega) (hm.nb _), Int.toNat_natCast]
      have hs : ∀ k, slipwaytop_laid.l0 (k + 1) m (done ++ x :: rest) (n : Int) (i : Int) = slipwaytop_laid.l0 k m ((done ++ [((x.toNat ||| nb m (i % m.length) : Nat) : Int)]) ++ rest) (n : Int) ((i + 1 : Nat) : Int) := fun k => by
        rw [slipwaytop_laid.l0.eq_2, if_pos a1, if_pos b1, if_pos a2, if_pos a3, if_neg b2, tmodn, if_pos b3, if_pos b4, hr, e, Int.toNat_natCast, hst, w1]
      clear w1
      refine Ev.step hs ?_
      have := ih (done ++ [((x.toNat ||| nb m (i % m.length) : Nat) : Int)]) (i + 1) (by simp; omega) (by omega) (fun z hz => hb z (List.mem_cons_of_mem _ hz))
      simp only [mk]
      rw [if_pos c]
      simp only [List.append_assoc, List.singleton_append] at this ⊢; exact this
    · have b1 : ¬ (m.length : Int) > 0 := by clear w1; omega
      have hs : ∀ k, slipwaytop_laid.l0 (k + 1) m (done ++ x :: rest) (n : Int) (i : Int) = slipwaytop_laid.l0 k m ((done ++ [x]) ++ rest) (n : Int) ((i + 1 : Nat) : Int) := fun k => by
        rw [slipwaytop_laid.l0.eq_2, if_pos a1, if_neg b1, w1, List.append_assoc]; rfl
      clear w1
      refine Ev.step hs ?_
      have := ih (done ++ [x]) (i + 1) (by simp; omega) (by omega) (fun z hz => hb z (List.mem_cons_of_mem _ hz))
      simp only [mk]
      rw [if_neg c]
      simp only [List.append_assoc, List.singleton_append] at this ⊢; exact this
theorem laid_ev (l m : List Int) (hb : B8 l) (hm : B8 m) (hl : l.length ≤ 1000) : Ev (fun k => slipwaytop_laid.f k l m) (mk m l 0) := by
  unfold slipwaytop_laid.f
  rw [clone_eq l (by omega)]
  have := laid_l0 m hm l.length hl l [] 0 rfl (by omega) hb
  exact Ev.some_bind this
theorem Mask_l0 (m : List Int) (hm : B8 m) (n : Nat) (hn : n ≤ 1000) : ∀ (rest done : List Int) (i : Nat), done.length = i → i + rest.length = n → B8 rest →
    Ev (fun k => seal_Mask.l0 k m (done ++ rest) (n : Int) (i : Int)) (done ++ mk m rest i) := by
  intro rest
  induction rest with
  | nil =>
    intro done i hd hi hb
    have a1 : ¬ (i : Int) < (n : Int) := by simp at hi; omega
    refine Ev.step (f := fun _ => some _) (fun k => ?_) (Ev.now _)
    rw [seal_Mask.l0.eq_2, if_neg a1]; rfl
  | cons x rest ih =>
    intro done i hd hi hb
    simp only [List.length_cons] at hi
    have hx := hb x (List.mem_cons_self ..)
    have a1 : (i : Int) < (n : Int) := by omega
    have a2 : 0 ≤ (i : Int) := by omega
    have a3 : (i : Int) < ((done ++ x :: rest).length : Int) := by rw [List.length_append, List.length_cons]; omega
    have hr := rd_at' done x rest i hd
    have w1 := wsucc i (by omega)
    have hst : ∀ y, (done ++ x :: rest).set i y = (done ++ [y]) ++ rest := fun y => by rw [set_at _ _ _ _ _ hd]; simp
    obtain ⟨xn, hxn⟩ : ∃ xn : Nat, x = (xn : Int) := ⟨x.toNat, by omega⟩
    by_cases c : 0 < m.length
    · have b1 : (m.length : Int) > 0 := by clear w1; omega
      have b2 : ¬ (m.length : Int) = 0 := by clear w1; omega
      have b3 : 0 ≤ ((i % m.length : Nat) : Int) := Int.natCast_nonneg _
      have b4 : ((i % m.length : Nat) : Int) < (m.length : Int) := by have := Nat.mod_lt i c; clear w1; omega
      have e : Go.bits .or .u8 x (rd m ((i % m.length : Nat) : Int)) = ((x.toNat ||| nb m (i % m.length) : Nat) : Int) := by
        rw [rdn, ← hm.cast, hxn, or_u8_nat _ _ (by clear w1; omega) (hm.nb _), Int.toNat_natCast]
      have hs : ∀ k, seal_Mask.l0 (k + 1) m (done ++ x :: rest) (n : Int) (i : Int) = seal_Mask.l0 k m ((done ++ [((x.toNat ||| nb m (i % m.length) : Nat) : Int)]) ++ rest) (n : Int) ((i + 1 : Nat) : Int) := fun k => by
        rw [seal_Mask.l0.eq_2, if_pos a1, if_pos b1, if_pos a2, if_pos a3, if_neg b2, tmodn, if_pos b3, if_pos b4, hr, e, Int.toNat_natCast, hst, w1]
      clear w1
      refine Ev.step hs ?_
      have := ih (done ++ [((x.toNat ||| nb m (i % m.length) : Nat) : Int)]) (i + 1) (by simp; omega) (by omega) (fun z hz => hb z (List.mem_cons_of_mem _ hz))
      simp only [mk]
      rw [if_pos c]
      simp only [List.append_assoc, List.singleton_append] at this ⊢; exact this
    · have b1 : ¬ (m.length : Int) > 0 := by clear w1; omega
      have hs : ∀ k, seal_Mask.l0 (k + 1) m (done ++ x :: rest) (n : Int) (i : Int) = seal_Mask.l0 k m ((done ++ [x]) ++ rest) (n : Int) ((i + 1 : Nat) : Int) := fun k => by
        rw [seal_Mask.l0.eq_2, if_pos a1, if_neg b1, w1, List.append_assoc]; rfl
      clear w1
      refine Ev.step hs ?_
      have := ih (done ++ [x]) (i + 1) (by simp; omega) (by omega) (fun z hz => hb z (List.mem_cons_of_mem _ hz))
      simp only [mk]
      rw [if_neg c]
      simp only [List.append_assoc, List.singleton_append] at this ⊢; exact this
theorem Mask_ev (l m : List Int) (hb : B8 l) (hm : B8 m) (hl : l.length ≤ 1000) : Ev (fun k => seal_Mask.f k l m) (mk m l 0) := by
  unfold seal_Mask.f
  rw [clone_eq l (by omega)]
  have := Mask_l0 m hm l.length hl l [] 0 rfl (by omega) hb
  exact Ev.some_bind this

theorem andNot_nat (x y : Nat) (hx : x < 256) (hy : y < 256) : Go.bits .andNot .u8 (y : Int) (x : Int) = 0 ↔ x ||| y = x := by
  have h1 : (BitVec.ofInt 8 (x : Int)) = BitVec.ofNat 8 x := BitVec.ofInt_natCast ..
  have h2 : (BitVec.ofInt 8 (y : Int)) = BitVec.ofNat 8 y := BitVec.ofInt_natCast ..
  have e : Go.bits .andNot .u8 (y : Int) (x : Int) = ((BitVec.ofNat 8 y &&& ~~~ BitVec.ofNat 8 x).toNat : Int) := by
    show IntKind.u8.wrap ((BitVec.ofInt 8 (y : Int) &&& ~~~ BitVec.ofInt 8 (x : Int)).toNat : Int) = _
    rw [h1, h2, IntKind.wrap_u8]
    have := (BitVec.ofNat 8 y &&& ~~~ BitVec.ofNat 8 x).isLt
    omega
  rw [e]
  have hz : ((BitVec.ofNat 8 y &&& ~~~ BitVec.ofNat 8 x).toNat : Int) = 0 ↔ BitVec.ofNat 8 y &&& ~~~ BitVec.ofNat 8 x = 0#8 := by
    constructor
    · intro h; exact BitVec.eq_of_toNat_eq (by simp at h ⊢; omega)
    · intro h; rw [h]; rfl
  rw [hz]
  constructor
  · intro h
    apply Nat.eq_of_testBit_eq
    intro i
    by_cases hi : i < 8
    · have h3 := congrArg (fun b => b.getLsbD i) h
      simp only [BitVec.getLsbD_and, BitVec.getLsbD_not, BitVec.getLsbD_ofNat, BitVec.getLsbD_zero, hi, decide_true, Bool.true_and] at h3
      rw [Nat.testBit_or]
      revert h3
      cases x.testBit i <;> cases y.testBit i <;> simp
    · have ep : 2 ^ 8 ≤ 2 ^ i := Nat.pow_le_pow_right (by omega) (by omega)
      rw [Nat.testBit_lt_two_pow (Nat.lt_of_lt_of_le (or_lt x y hx hy) ep), Nat.testBit_lt_two_pow (Nat.lt_of_lt_of_le hx ep)]
  · intro h
    apply BitVec.eq_of_getLsbD_eq
    intro i hi
    have h3 := congrArg (fun n => n.testBit i) h
    simp only [Nat.testBit_or] at h3
    simp only [BitVec.getLsbD_and, BitVec.getLsbD_not, BitVec.getLsbD_ofNat, BitVec.getLsbD_zero, hi, decide_true, Bool.true_and]
    revert h3
    cases x.testBit i <;> cases y.testBit i <;> simp
def cvB : List Int → List Int → Bool
  | [], [] => true
  | x :: a, y :: b => decide (x.toNat ||| y.toNat = x.toNat) && cvB a b
  | _, _ => false
theorem cvB_iff : ∀ a b : List Int, cvB a b = true ↔ Cv a b
  | [], [] => ⟨fun _ => .nil, fun _ => rfl⟩
  | x :: a, [] => ⟨fun h => by simp [cvB] at h, fun h => nomatch h⟩
  | [], y :: b => ⟨fun h => by simp [cvB] at h, fun h => nomatch h⟩
  | x :: a, y :: b => by
    simp only [cvB, Bool.and_eq_true, decide_eq_true_eq]
    rw [cvB_iff a b]
    exact ⟨fun h => .cons h.1 h.2, fun h => by cases h with | cons h k => exact ⟨h, k⟩⟩
theorem cvB_len {a b : List Int} (h : a.length ≠ b.length) : cvB a b = false := by
  cases hc : cvB a b with
  | false => rfl
  | true => exact absurd ((cvB_iff a b).1 hc).length h
theorem Covers_l0 (now was : List Int) (hn : B8 now) (hw : B8 was) (he : now.length = was.length) (hl : was.length ≤ 1000) : ∀ (d i : Nat), was.length - i = d → i ≤ was.length →
    Ev (fun k => seal_Covers.l0 k now was (was.length : Int) (i : Int)) (cvB (now.drop i) (was.drop i)) := by
  intro d
  induction d with
  | zero =>
    intro i hd hi
    have a1 : ¬ (i : Int) < (was.length : Int) := by omega
    rw [List.drop_eq_nil_iff.2 (by omega : now.length ≤ i), List.drop_eq_nil_iff.2 (by omega : was.length ≤ i)]
    exact Ev.step (f := fun _ => some true) (fun k => by rw [seal_Covers.l0.eq_2, if_neg a1]) (Ev.now _)
  | succ d ih =>
    intro i hd hi
    have i1 : i < was.length := by omega
    have i2 : i < now.length := by omega
    obtain ⟨x, hx, hx2, hx3⟩ := hn.natOf i i2
    obtain ⟨y, hy, hy2, hy3⟩ := hw.natOf i i1
    have a1 : (i : Int) < (was.length : Int) := by omega
    have a2 : 0 ≤ (i : Int) := by omega
    have a3 : (i : Int) < (now.length : Int) := by omega
    have w1 := wsucc i (by omega)
    rw [drop1 now i i2, drop1 was i i1, hx3, hy3]
    simp only [cvB, Int.toNat_natCast]
    by_cases c : x ||| y = x
    · have hs : ∀ k, seal_Covers.l0 (k + 1) now was (was.length : Int) (i : Int) = seal_Covers.l0 k now was (was.length : Int) ((i + 1 : Nat) : Int) := fun k => by
        rw [seal_Covers.l0.eq_2, if_pos a1, if_pos a2, if_pos a1, if_pos a3, hx, hy, if_pos ((andNot_nat x y hx2 hy2).2 c), w1]
      clear w1
      rw [decide_eq_true c, Bool.true_and]
      exact Ev.step hs (ih (i + 1) (by omega) (by omega))
    · rw [decide_eq_false c, Bool.false_and]
      exact Ev.step (f := fun _ => some false) (fun k => by rw [seal_Covers.l0.eq_2, if_pos a1, if_pos a2, if_pos a1, if_pos a3, hx, hy, if_neg (fun h => c ((andNot_nat x y hx2 hy2).1 h))]) (Ev.now _)
theorem Covers_ev (now was : List Int) (hn : B8 now) (hw : B8 was) (hl : was.length ≤ 1000) : Ev (fun k => seal_Covers.f k now was) (cvB now was) := by
  unfold seal_Covers.f
  by_cases c : now.length = was.length
  · have := Covers_l0 now was hn hw c hl was.length 0 (by omega) (by omega)
    exact Ev.pos (by omega) this
  · rw [cvB_len c]; exact Ev.neg (by omega) (Ev.now _)
end Go.Proofs.Ytbaedfpimlfonaa.Q
