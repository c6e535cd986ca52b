/- Plain laws: what the functions of TopSeals answer, each for bytes of at most a thousand. -/
import Derived.Test.YtbaedfpimlfonaaM7
import Derived.Test.YtbaedfpimlfonaaM2
import Derived.Test.YtbaedfpimlfonaaF3
import Derived.Test.YtbaedfpimlfonaaQ4
import Derived.Test.YtbaedfpimlfonaaQ5
import Derived.Test.YtbaedfpimlfonaaQ6
import Derived.Test.YtbaedfpimlfonaaQ7
namespace Go.Proofs.Ytbaedfpimlfonaa.Q
open Go.RowKit Go.Proofs.YtbaedfpimlfonaaW.PrintWords Go.Proofs.YtbaedfpimlfonaaW.PrintLast Go.Proofs.YtbaedfpimlfonaaW.PrintMore
set_option linter.unusedVariables false

theorem wsucc (i : Nat) (h : i ≤ 1000000) : wrap64 ((i : Int) + 1) = ((i + 1 : Nat) : Int) := by unfold wrap64; omega
theorem rdn (l : List Int) (i : Nat) : rd l (i : Int) = l.getD i 0 := by unfold rd; rw [Int.toNat_natCast]
theorem getD_at (l : List Int) (i : Nat) (h : i < l.length) : l.getD i 0 = l[i] := by simp [List.getD_eq_getElem?_getD, h]
theorem B8.natOf {l : List Int} (hb : B8 l) (i : Nat) (h : i < l.length) : ∃ x : Nat, rd l (i : Int) = (x : Int) ∧ x < 256 ∧ l[i] = (x : Int) := by
  have := hb _ (List.getElem_mem h)
  exact ⟨l[i].toNat, by rw [rdn, getD_at l i h]; omega, by omega, by omega⟩
theorem drop1 (l : List Int) (i : Nat) (h : i < l.length) : l.drop i = l[i] :: l.drop (i + 1) := List.drop_eq_getElem_cons h
theorem zs_cons (x : Nat) (l : List Int) : zs ((x : Int) :: l) = z8 x + zs l := by simp [zs]

/-- The program's own count. -/
theorem noughts_l1 (l : List Int) (i : Nat) (hi : i ≤ 1000) (r : Int) : ∀ (d x n : Nat), z8 x = d → x < 256 → n + d ≤ 20000 →
    Ev (fun k => slipwaytop_noughts.l0 k ((n + d : Nat) : Int) l (l.length : Int) ((i + 1 : Nat) : Int)) r →
    Ev (fun k => slipwaytop_noughts.l1 k (n : Int) (x : Int) l (l.length : Int) (i : Int)) r := by
  intro d
  induction d with
  | zero =>
    intro x n hx hx2 hn h
    have e := z8_zero x hx2 hx
    subst e
    have w1 := wsucc i (by omega)
    have hs : ∀ k, slipwaytop_noughts.l1 (k + 1) (n : Int) ((255 : Nat) : Int) l (l.length : Int) (i : Int) = slipwaytop_noughts.l0 k ((n + 0 : Nat) : Int) l (l.length : Int) ((i + 1 : Nat) : Int) := fun k => by
      rw [slipwaytop_noughts.l1.eq_2, if_pos (by decide), w1]; rfl
    exact Ev.step hs h
  | succ d ih =>
    intro x n hx hx2 hn h
    have hne : x ≠ 255 := by rintro rfl; rw [z8_255] at hx; omega
    obtain ⟨g1, g2⟩ := z8_next x (by omega)
    have e1 : ((x : Int) + 1) % 256 = ((x + 1 : Nat) : Int) := by omega
    have e2 := or_u8_nat x (x + 1) hx2 (by omega)
    have a1 : ¬ (x : Int) = 255 := by omega
    have w1 := wsucc n (by omega)
    have hs : ∀ k, slipwaytop_noughts.l1 (k + 1) (n : Int) (x : Int) l (l.length : Int) (i : Int) = slipwaytop_noughts.l1 k ((n + 1 : Nat) : Int) ((x ||| (x + 1) : Nat) : Int) l (l.length : Int) (i : Int) := fun k => by
      rw [slipwaytop_noughts.l1.eq_2, if_neg a1, e1, e2, w1]
    clear w1 e2
    refine Ev.step hs (ih _ (n + 1) (by omega) g2 (by omega) ?_)
    rw [show n + 1 + d = n + (d + 1) from by omega]; exact h
theorem noughts_l0 (l : List Int) (hb : B8 l) (hl : l.length ≤ 1000) : ∀ (d i n : Nat), l.length - i = d → i ≤ l.length → n ≤ 8 * i →
    Ev (fun k => slipwaytop_noughts.l0 k (n : Int) l (l.length : Int) (i : Int)) ((n + zs (l.drop i) : Nat) : Int) := by
  intro d
  induction d with
  | zero =>
    intro i n hd hi hn
    have a1 : ¬ (i : Int) < (l.length : Int) := by omega
    have e : l.drop i = [] := List.drop_eq_nil_iff.2 (by omega)
    refine Ev.step (f := fun _ => some (n : Int)) (fun k => ?_) ?_
    · rw [slipwaytop_noughts.l0.eq_2, if_neg a1]
    · rw [e]; exact Ev.now _
  | succ d ih =>
    intro i n hd hi hn
    have hi2 : i < l.length := by omega
    obtain ⟨x, hx, hx2, hx3⟩ := hb.natOf i hi2
    have a1 : (i : Int) < (l.length : Int) := by omega
    have a2 : 0 ≤ (i : Int) := by omega
    have hz := z8_le x
    have hs : ∀ k, slipwaytop_noughts.l0 (k + 1) (n : Int) l (l.length : Int) (i : Int) = slipwaytop_noughts.l1 k (n : Int) (x : Int) l (l.length : Int) (i : Int) := fun k => by
      rw [slipwaytop_noughts.l0.eq_2, if_pos a1, if_pos a2, if_pos a1, hx]
    refine Ev.step hs (noughts_l1 l i (by omega) _ (z8 x) x n rfl hx2 (by omega) ?_)
    have := ih (i + 1) (n + z8 x) (by omega) (by omega) (by omega)
    rw [drop1 l i hi2, hx3, zs_cons, ← Nat.add_assoc]; exact this
theorem noughts_ev (l : List Int) (hb : B8 l) (hl : l.length ≤ 1000) : Ev (fun k => slipwaytop_noughts.f k l) (zs l : Int) := by
  have := noughts_l0 l hb hl l.length 0 0 (by omega) (by omega) (by omega)
  simpa [slipwaytop_noughts.f] using this

theorem and_bit (x i : Nat) (hx : x < 256) (hi : i < 8) : (Go.bits .and .u8 (shr .u8 (x : Int) (i : Int)) 1) = if x.testBit i then 1 else 0 := by
  have e4 : shr .u8 (x : Int) (i : Int) = ((x / 2 ^ i : Nat) : Int) := by
    unfold shr
    rw [Int.toNat_natCast, Nat.min_eq_left (by show _ ≤ 8; omega), Int.natCast_ediv, Int.natCast_pow]; rfl
  rw [e4, show (1 : Int) = ((1 : Nat) : Int) from rfl, and_u8_nat _ _ (Nat.lt_of_le_of_lt (Nat.div_le_self _ _) hx) (by omega), Nat.and_one_is_mod, Nat.testBit_eq_decide_div_mod_eq]
  rcases Nat.mod_two_eq_zero_or_one (x / 2 ^ i) with h | h <;> rw [h] <;> rfl
/-- The bits of a byte from one on that are 0. -/
def zfrom (x : Nat) : Nat → Nat
  | 0 => 0
  | d + 1 => zb x (7 - d) + zfrom x d
theorem zfrom_8 (x : Nat) : zfrom x 8 = z8 x := by
  show zb x 0 + (zb x 1 + (zb x 2 + (zb x 3 + (zb x 4 + (zb x 5 + (zb x 6 + (zb x 7 + 0))))))) = _
  unfold z8; omega
theorem zeros_l1 (l : List Int) (i x : Nat) (hi : i ≤ 1000) (hx : x < 256) (r : Int) : ∀ (d j n : Nat), d + j = 8 → n ≤ 10000 + j →
    Ev (fun k => seal_Zeros.l0 k ((n + zfrom x d : Nat) : Int) l (l.length : Int) ((i + 1 : Nat) : Int)) r →
    Ev (fun k => seal_Zeros.l1 k (n : Int) (x : Int) l (l.length : Int) (i : Int) (j : Int)) r := by
  intro d
  induction d with
  | zero =>
    intro j n hj hn h
    have a1 : ¬ (j : Int) < 8 := by omega
    have w1 := wsucc i (by omega)
    have hs : ∀ k, seal_Zeros.l1 (k + 1) (n : Int) (x : Int) l (l.length : Int) (i : Int) (j : Int) = seal_Zeros.l0 k ((n + zfrom x 0 : Nat) : Int) l (l.length : Int) ((i + 1 : Nat) : Int) := fun k => by
      rw [seal_Zeros.l1.eq_2, if_neg a1, w1]; rfl
    exact Ev.step hs h
  | succ d ih =>
    intro j n hj hn h
    have a1 : (j : Int) < 8 := by omega
    have a2 : 0 ≤ (j : Int) := by omega
    have hb := and_bit x j hx (by omega)
    have w1 := wsucc n (by omega)
    have w2 := wsucc j (by omega)
    have hjd : 7 - d = j := by clear w1 w2 hb; omega
    have hz : zfrom x (d + 1) = zb x j + zfrom x d := by show zb x (7 - d) + _ = _; rw [hjd]
    rw [hz] at h
    have hs : ∀ k, seal_Zeros.l1 (k + 1) (n : Int) (x : Int) l (l.length : Int) (i : Int) (j : Int) = seal_Zeros.l1 k ((n + zb x j : Nat) : Int) (x : Int) l (l.length : Int) (i : Int) ((j + 1 : Nat) : Int) := fun k => by
      rw [seal_Zeros.l1.eq_2, if_pos a1, if_pos a2, hb]
      unfold zb
      cases x.testBit j with
      | true => rw [if_neg (by decide), w2]; rfl
      | false => rw [if_pos (by decide), w1, w2]; rfl
    clear w1 w2 hb
    have := zb_le x j
    refine Ev.step hs (ih (j + 1) _ (by omega) (by omega) ?_)
    rw [Nat.add_assoc]; exact h
theorem zeros_l0 (l : List Int) (hb : B8 l) (hl : l.length ≤ 1000) : ∀ (d i n : Nat), l.length - i = d → i ≤ l.length → n ≤ 8 * i →
    Ev (fun k => seal_Zeros.l0 k (n : Int) l (l.length : Int) (i : Int)) ((n + zs (l.drop i) : Nat) : Int) := by
  intro d
  induction d with
  | zero =>
    intro i n hd hi hn
    have a1 : ¬ (i : Int) < (l.length : Int) := by omega
    have e : l.drop i = [] := List.drop_eq_nil_iff.2 (by omega)
    refine Ev.step (f := fun _ => some (n : Int)) (fun k => ?_) ?_
    · rw [seal_Zeros.l0.eq_2, if_neg a1]
    · rw [e]; exact Ev.now _
  | succ d ih =>
    intro i n hd hi hn
    have hi2 : i < l.length := by omega
    obtain ⟨x, hx, hx2, hx3⟩ := hb.natOf i hi2
    have a1 : (i : Int) < (l.length : Int) := by omega
    have a2 : 0 ≤ (i : Int) := by omega
    have hz := z8_le x
    have hs : ∀ k, seal_Zeros.l0 (k + 1) (n : Int) l (l.length : Int) (i : Int) = seal_Zeros.l1 k (n : Int) (x : Int) l (l.length : Int) (i : Int) ((0 : Nat) : Int) := fun k => by
      rw [seal_Zeros.l0.eq_2, if_pos a1, if_pos a2, if_pos a1, hx]; rfl
    refine Ev.step hs (zeros_l1 l i x (by omega) hx2 _ 8 0 n rfl (by omega) ?_)
    have := ih (i + 1) (n + z8 x) (by omega) (by omega) (by omega)
    rw [drop1 l i hi2, hx3, zs_cons, ← Nat.add_assoc, zfrom_8]; exact this
theorem zeros_ev (l : List Int) (hb : B8 l) (hl : l.length ≤ 1000) : Ev (fun k => seal_Zeros.f k l) (zs l : Int) := by
  have := zeros_l0 l hb hl l.length 0 0 (by omega) (by omega) (by omega)
  simpa [seal_Zeros.f] using this

theorem be4_int (n : Nat) : [(n : Int) / 16777216 % 256, (n : Int) / 65536 % 256, (n : Int) / 256 % 256, (n : Int) % 256] = be4 n := by unfold be4; rfl
theorem clone_eq (l : List Int) (hl : l.length ≤ 10000) : slices_Clone_byte_byte.f l = some l := by unfold slices_Clone_byte_byte.f; rw [if_pos (by omega)]
theorem sealed_ev (l : List Int) (hb : B8 l) (hl : l.length ≤ 1000) : Ev (fun k => slipwaytop_sealed.f k l) (sealL l) := by
  unfold slipwaytop_sealed.f
  refine Ev.bind (noughts_ev l hb hl) ?_
  rw [clone_eq l (by omega)]
  refine Ev.some_bind ?_
  rw [be4_int]
  refine Ev.some_bind (Ev.pos (by rw [be4_length]; omega) (Ev.now _))
theorem sum_ev (l : List Int) (hb : B8 l) (hl : l.length ≤ 1000) : Ev (fun k => seal_sum.f k l) (be4 (zs l)) := by
  unfold seal_sum.f
  refine Ev.bind (zeros_ev l hb hl) ?_
  rw [be4_int]; exact Ev.now _
theorem Seal_ev (l : List Int) (hb : B8 l) (hl : l.length ≤ 1000) : Ev (fun k => seal_Seal.f k l) (sealL l, 0) := by
  unfold seal_Seal.f
  refine Ev.neg (by omega) (Ev.bind (sum_ev l hb hl) ?_)
  have : slices_Concat_byte_byte.f [l, be4 (zs l)] = some (sealL l) := by
    unfold slices_Concat_byte_byte.f
    have e : [l, be4 (zs l)].flatten = sealL l := by simp [sealL]
    rw [e, if_pos (by rw [sealL_length]; omega)]
  rw [this]
  exact Ev.some_bind (Ev.now _)
theorem wlen4 (n : Nat) (h : n ≤ 10000) : wrap64 ((n : Int) - 4) = (n : Int) - 4 := by unfold wrap64; omega
theorem State_j0 (l : List Int) (hb : B8 l) (hl : l.length ≤ 1000) (q : Bool) (hq : q = decide (0 < l.length ∧ zs l = 0)) : Ev (fun k => seal_State.j0 k l ((l.length : Int) - 4) q) (stOf l) := by
  unfold stOf
  by_cases c : 0 < l.length ∧ zs l = 0
  · rw [decide_eq_true c] at hq
    subst hq
    rw [if_pos c]
    exact Ev.step (f := fun _ => some 10) (fun k => by rw [seal_State.j0.eq_2, if_pos rfl]) (Ev.now _)
  · rw [decide_eq_false c] at hq
    subst hq
    rw [if_neg c]
    by_cases c1 : l.length < 4
    · rw [if_pos c1]
      exact Ev.step (f := fun _ => some 11) (fun k => by rw [seal_State.j0.eq_2, if_neg (by decide), if_pos (by omega)]) (Ev.now _)
    · rw [if_neg c1]
      have e : ((l.length : Int) - 4).toNat = l.length - 4 := by omega
      have hs : ∀ k, seal_State.j0 (k + 1) l ((l.length : Int) - 4) false = ((seal_sum.f k (l.take (l.length - 4))).bind fun t211 => ((slices_Equal_byte_byte.f k (l.drop (l.length - 4)) t211).bind fun t214 => (if t214 = true then (some 0) else (some 11)))) := fun k => by
        rw [seal_State.j0.eq_2, if_neg (by decide), if_neg (by omega), if_neg (by omega), if_pos (by omega), if_pos (by omega), e]
      refine Ev.step hs (Ev.bind (sum_ev _ (hb.take _) (by rw [List.length_take]; omega)) (Ev.bind (equal8 _ _ (by rw [List.length_drop]; omega)) ?_))
      by_cases c2 : l.drop (l.length - 4) = be4 (zs (l.take (l.length - 4)))
      · rw [if_pos c2]; exact Ev.pos (by rw [decide_eq_true c2]) (Ev.now _)
      · rw [if_neg c2]; exact Ev.neg (by rw [decide_eq_false c2]; decide) (Ev.now _)
theorem State_ev (l : List Int) (hb : B8 l) (hl : l.length ≤ 1000) : Ev (fun k => seal_State.f k l) (stOf l) := by
  unfold seal_State.f
  rw [wlen4 _ (by omega)]
  by_cases c : (l.length : Int) > 0
  · refine Ev.pos c (Ev.bind (zeros_ev l hb hl) (State_j0 l hb hl _ ?_))
    by_cases z : zs l = 0
    · rw [z, decide_eq_true ⟨by omega, rfl⟩]; rfl
    · rw [decide_eq_false (fun h => z h.2), beq_eq_false_iff_ne]; omega
  · refine Ev.neg c (State_j0 l hb hl _ ?_)
    rw [decide_eq_false (fun h => c (by omega))]
theorem stated_j0 (l : List Int) (hb : B8 l) (hl : l.length ≤ 1000) (q : Bool) (hq : q = decide (0 < l.length ∧ zs l = 0)) : Ev (fun k => slipwaytop_stated.j0 k l q) (stOf l) := by
  unfold stOf
  by_cases c : 0 < l.length ∧ zs l = 0
  · rw [decide_eq_true c] at hq
    subst hq
    rw [if_pos c]
    exact Ev.step (f := fun _ => some 10) (fun k => by rw [slipwaytop_stated.j0.eq_2, if_pos rfl]) (Ev.now _)
  · rw [decide_eq_false c] at hq
    subst hq
    rw [if_neg c]
    by_cases c1 : l.length < 4
    · rw [if_pos c1]
      exact Ev.step (f := fun _ => some 11) (fun k => by rw [slipwaytop_stated.j0.eq_2, if_neg (by decide), if_neg (by omega)]) (Ev.now _)
    · rw [if_neg c1]
      have e : ((l.length : Int) - 4).toNat = l.length - 4 := by omega
      have a1 : 0 ≤ (l.length : Int) - 4 := by omega
      have a2 : (l.length : Int) - 4 ≤ (l.length : Int) := by omega
      have a3 : (l.length : Int) ≥ 4 := by omega
      have hs : ∀ k, slipwaytop_stated.j0 (k + 1) l false = ((slipwaytop_sealed.f k (l.take (l.length - 4))).bind fun t222 => ((slices_Equal_byte_byte.f k t222 l).bind fun t225 => (if t225 = true then (some 0) else (some 11)))) := fun k => by
        rw [slipwaytop_stated.j0.eq_2, if_neg (by decide), if_pos a3, wlen4 _ (by omega), if_pos a1, if_pos a2, e]
      have hiff : (sealL (l.take (l.length - 4)) = l) ↔ l.drop (l.length - 4) = be4 (zs (l.take (l.length - 4))) := by
        unfold sealL
        constructor
        · intro h
          have h2 : l.take (l.length - 4) ++ be4 (zs (l.take (l.length - 4))) = l.take (l.length - 4) ++ l.drop (l.length - 4) := by rw [h, List.take_append_drop]
          exact (List.append_cancel_left h2).symm
        · intro h
          rw [← h, List.take_append_drop]
      refine Ev.step hs (Ev.bind (sealed_ev _ (hb.take _) (by rw [List.length_take]; omega)) (Ev.bind (equal8 _ _ (by rw [sealL_length, List.length_take]; omega)) ?_))
      by_cases c2 : l.drop (l.length - 4) = be4 (zs (l.take (l.length - 4)))
      · rw [if_pos c2]; exact Ev.pos (by rw [decide_eq_true (hiff.2 c2)]) (Ev.now _)
      · rw [if_neg c2]; exact Ev.neg (by rw [decide_eq_false (fun h => c2 (hiff.1 h))]; decide) (Ev.now _)
theorem stated_ev (l : List Int) (hb : B8 l) (hl : l.length ≤ 1000) : Ev (fun k => slipwaytop_stated.f k l) (stOf l) := by
  unfold slipwaytop_stated.f
  by_cases c : (l.length : Int) > 0
  · refine Ev.pos c (Ev.bind (noughts_ev l hb hl) (stated_j0 l hb hl _ ?_))
    by_cases z : zs l = 0
    · rw [z, decide_eq_true ⟨by omega, rfl⟩]; rfl
    · rw [decide_eq_false (fun h => z h.2), beq_eq_false_iff_ne]; omega
  · refine Ev.neg c (stated_j0 l hb hl _ ?_)
    rw [decide_eq_false (fun h => c (by omega))]
theorem Open_ev (l : List Int) (hb : B8 l) (hl : l.length ≤ 1000) : Ev (fun k => seal_Open.f k l) (if stOf l = 0 then (l.take (l.length - 4), 0) else ([], stOf l)) := by
  by_cases c : stOf l = 0
  · obtain ⟨h4, _⟩ := stOf_zero c
    have e : ((l.length : Int) - 4).toNat = l.length - 4 := by omega
    rw [if_pos c]
    unfold seal_Open.f
    refine Ev.bind (State_ev l hb hl) ?_
    rw [wlen4 _ (by omega), e, clone_eq _ (by rw [List.length_take]; omega)]
    exact Ev.pos c (Ev.pos (by omega) (Ev.pos (by omega) (Ev.some_bind (Ev.now _))))
  · rw [if_neg c]
    unfold seal_Open.f
    exact Ev.bind (State_ev l hb hl) (Ev.neg c (Ev.now _))
end Go.Proofs.Ytbaedfpimlfonaa.Q
