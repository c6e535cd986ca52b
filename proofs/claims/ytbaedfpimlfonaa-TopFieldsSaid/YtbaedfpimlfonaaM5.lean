/- Plain laws: the loops of TopFields, told on pairs of a width and a value. -/
import Derived.Test.YtbaedfpimlfonaaM4
import Derived.Test.YtbaedfpimlfonaaQ3
namespace Go.Proofs.Ytbaedfpimlfonaa.Q
open Go.RowKit Go.Proofs.YtbaedfpimlfonaaW.PrintWords Go.Proofs.YtbaedfpimlfonaaW.PrintLast Go.Proofs.YtbaedfpimlfonaaW.PrintMore
set_option linter.unusedVariables false

theorem tf_l2_step (x1 : List Int) (x2 : Int) (x7 x8 : List Int) (x9 : List Bool) (x10 x11 : Bool) (b : List Int) (bs : List Bool) (i : Nat) (hi : i < bs.length) (hbs : bs.length ≤ 10000) (hb : B8 b) (hl : i < 8 * b.length) :
    ∀ k, slipwaytop_TopFields.l2 (k + 1) x1 x2 x7 x8 x9 x10 x11 b bs (bs.length : Int) (i : Int) = slipwaytop_TopFields.l2 k x1 x2 x7 x8 x9 x10 x11 (if bs.getD i false then orbit b i else b) bs (bs.length : Int) ((i + 1 : Nat) : Int) := by
  intro k
  have a1 : (i : Int) < (bs.length : Int) := by omega
  have a2 : 0 ≤ (i : Int) := by omega
  have a4 : 0 ≤ Int.tmod (i : Int) 8 := by rw [Int.tmod_eq_emod_of_nonneg (by omega)]; omega
  have hst := own_step hb i (by omega)
  have e : rdOf false bs (i : Int) = bs.getD i false := by unfold rdOf; rw [Int.toNat_natCast]
  have w1 := wrap_succ i (by omega)
  have a3 : 0 ≤ wrap64 (Int.tdiv (i : Int) 8) := by rw [wrap_tdiv8 i (by clear hst w1; omega)]; exact Int.natCast_nonneg _
  have a5 : wrap64 (Int.tdiv (i : Int) 8) < (b.length : Int) := by rw [wrap_tdiv8 i (by clear hst w1 a3; omega)]; clear hst w1 a3; omega
  rw [slipwaytop_TopFields.l2.eq_2, if_pos a1, if_pos a2, if_pos a1, e]
  cases bs.getD i false with
  | true => rw [if_pos rfl, if_pos a3, if_pos a5, if_pos a4, w1, hst, if_pos rfl]
  | false => rw [if_neg (by simp), w1, if_neg (by simp)]
theorem drop_getD (bs : List Bool) (i : Nat) (h : i < bs.length) : bs.drop i = bs.getD i false :: bs.drop (i + 1) := by
  rw [List.drop_eq_getElem_cons h]; simp [List.getD_eq_getElem?_getD, h]
theorem tf_l2_run (x1 : List Int) (x2 : Int) (x7 x8 : List Int) (x9 : List Bool) (x10 x11 : Bool) (bs : List Bool) (hbs : bs.length ≤ 10000) (r : Bool) :
    ∀ (d i : Nat) (b : List Int), bs.length - i = d → i ≤ bs.length → B8 b → bs.length ≤ 8 * b.length →
    Ev (fun k => slipwaytop_TopFields.l2 k x1 x2 x7 x8 x9 x10 x11 (pack (bs.drop i) b i) bs (bs.length : Int) (bs.length : Int)) r →
    Ev (fun k => slipwaytop_TopFields.l2 k x1 x2 x7 x8 x9 x10 x11 b bs (bs.length : Int) (i : Int)) r := by
  intro d
  induction d with
  | zero =>
    intro i b hd hi hb hl h
    have e : i = bs.length := by omega
    subst e
    rw [List.drop_length] at h; exact h
  | succ d ih =>
    intro i b hd hi hb hl h
    refine Ev.step (tf_l2_step x1 x2 x7 x8 x9 x10 x11 b bs i (by omega) hbs hb (by omega)) ?_
    rw [drop_getD bs i (by omega)] at h
    refine ih (i + 1) _ (by omega) (by omega) ?_ ?_ h
    · split
      · exact orbit_B8 hb i
      · exact hb
    · split
      · rw [orbit_length]; exact hl
      · exact hl

theorem wrap_pred (n : Nat) (h : n ≤ 1000000) : wrap64 ((n : Int) - 1) = (n : Int) - 1 := by unfold wrap64; omega
theorem testBit_hi (v d : Nat) (hv : V64 v) (h : 64 ≤ d) : v.testBit d = false :=
  Nat.testBit_lt_two_pow (Nat.lt_of_lt_of_le hv (Nat.pow_le_pow_right (n := 2) (by omega) h))
theorem bit_of (v d : Nat) (hv : V64 v) (h : d < 64) : ((Go.bits .and .u64 (shr .u64 (v : Int) (d : Int)) 1) == 1) = v.testBit d := by
  have e4 : shr .u64 (v : Int) (d : Int) = ((v / 2 ^ d : Nat) : Int) := by
    unfold shr
    rw [Int.toNat_natCast, Nat.min_eq_left (by show _ ≤ 64; omega), Int.natCast_ediv, Int.natCast_pow]; rfl
  rw [e4, show (1 : Int) = ((1 : Nat) : Int) from rfl, and_u64_nat _ _ (Nat.lt_of_le_of_lt (Nat.div_le_self _ _) hv) (by omega), Nat.and_one_is_mod, Nat.testBit_eq_decide_div_mod_eq]
  rcases Nat.mod_two_eq_zero_or_one (v / 2 ^ d) with h | h <;> rw [h] <;> rfl
theorem tf_l1_step (x1 : List Int) (x2 : Int) (x7 x8 : List Int) (x9 : List Bool) (x10 x11 : Bool) (v d : Nat) (ws : List Int) (x47 x48 : Int) (hv : V64 v) (hd : d ≤ 100) (h9 : x9.length ≤ 100000) :
    ∀ k, slipwaytop_TopFields.l1 (k + 1) x1 x2 x7 x8 x9 x10 x11 (v : Int) (d : Int) ws x47 x48 = slipwaytop_TopFields.l1 k x1 x2 x7 x8 (x9 ++ [v.testBit d]) x10 x11 (v : Int) ((d : Int) - 1) ws x47 x48 := by
  intro k
  have a1 : (d : Int) ≥ 0 := by omega
  have a2 : 0 ≤ (d : Int) := a1
  have a3 : x9.length < 140737488355328 := by omega
  have w1 := wrap_pred d (by omega)
  by_cases c : d < 64
  · have a4 : (d : Int) < 64 := by clear w1; omega
    rw [slipwaytop_TopFields.l1.eq_2, if_pos a1, if_pos a4, if_pos a2, if_pos a3, w1, bit_of v d hv c]
  · have a4 : ¬ (d : Int) < 64 := by clear w1; omega
    rw [slipwaytop_TopFields.l1.eq_2, if_pos a1, if_neg a4, if_pos a3, w1, testBit_hi v d hv (by clear w1; omega)]
theorem tf_l1_run (x1 : List Int) (x2 : Int) (x7 x8 : List Int) (x10 x11 : Bool) (v : Nat) (ws : List Int) (x47 : Int) (i : Nat) (hi : i ≤ 1000) (hv : V64 v) (r : Bool) :
    ∀ (d : Nat) (x9 : List Bool), d ≤ 100 → x9.length + d ≤ 100000 →
    Ev (fun k => slipwaytop_TopFields.l0 k x1 x2 x7 x8 (x9 ++ vbits v d) x10 x11 ws x47 ((i + 1 : Nat) : Int)) r →
    Ev (fun k => slipwaytop_TopFields.l1 k x1 x2 x7 x8 x9 x10 x11 (v : Int) ((d : Int) - 1) ws x47 (i : Int)) r := by
  intro d
  induction d with
  | zero =>
    intro x9 _ _ h
    have w1 := wrap_succ i (by omega)
    have hs : ∀ k, slipwaytop_TopFields.l1 (k + 1) x1 x2 x7 x8 x9 x10 x11 (v : Int) (((0 : Nat) : Int) - 1) ws x47 (i : Int) = slipwaytop_TopFields.l0 k x1 x2 x7 x8 x9 x10 x11 ws x47 ((i + 1 : Nat) : Int) := fun k => by
      rw [slipwaytop_TopFields.l1.eq_2, if_neg (by decide), w1]
    simp only [vbits, List.append_nil] at h
    exact Ev.step hs h
  | succ d ih =>
    intro x9 hd h9 h
    have e : (((d + 1 : Nat) : Int) - 1) = (d : Int) := by omega
    rw [e]
    refine Ev.step (tf_l1_step x1 x2 x7 x8 x9 x10 x11 v d ws x47 (i : Int) hv (by omega) (by omega)) ?_
    refine ih _ (by omega) (by simp; omega) ?_
    simp only [vbits] at h
    rw [List.append_assoc]; exact h

/-- A round of the first loop, but for the inner one. -/
theorem tf_round (l1 : List Int) (x2 : Int) (x7 x8 : List Int) (x9 : List Bool) (x10 x11 : Bool) (ws : List Int) (i w v : Nat) (hi : i < ws.length) (hws : ws.length ≤ 100) (hw : rd ws (i : Int) = (w : Int)) (hw2 : w < 256) (hv : l1.getD i 0 = (v : Int)) (hv2 : V64 v) (h7 : x7.length ≤ 100) (h8 : x8.length ≤ 100) (r : Bool)
    (h : Ev (fun k => slipwaytop_TopFields.l1 k l1 x2 (x7 ++ [((w % 67 : Nat) : Int)]) (x8 ++ [(v : Int)]) x9 (x10 && (decide (1 ≤ w % 67) && decide (w % 67 ≤ 64))) (x11 && decide (v < 2 ^ (w % 67))) (v : Int) (((w % 67 : Nat) : Int) - 1) ws (ws.length : Int) (i : Int)) r) :
    Ev (fun k => slipwaytop_TopFields.l0 k l1 x2 x7 x8 x9 x10 x11 ws (ws.length : Int) (i : Int)) r := by
  have a1 : (i : Int) < (ws.length : Int) := by omega
  have a2 : 0 ≤ (i : Int) := by omega
  have a3 : x7.length < 17592186044416 := by omega
  have a8 : x8.length < 17592186044416 := by omega
  have ew : wrap64 (Int.tmod (w : Int) 67) = ((w % 67 : Nat) : Int) := by rw [Int.tmod_eq_emod_of_nonneg (by omega)]; unfold wrap64; omega
  obtain ⟨n, hn⟩ : ∃ n, n = w % 67 := ⟨_, rfl⟩
  have hn67 : n < 67 := by omega
  rw [← hn] at ew h
  have wp := wrap_pred n (by omega)
  have s0 : ∀ k, slipwaytop_TopFields.l0 (k + 1) l1 x2 x7 x8 x9 x10 x11 ws (ws.length : Int) (i : Int) = slipwaytop_TopFields.j1 k l1 x2 (x7 ++ [(n : Int)]) x8 x9 (x10 && (decide (1 ≤ n) && decide (n ≤ 64))) x11 (i : Int) (n : Int) ws (ws.length : Int) (i : Int) := fun k => by
    rw [slipwaytop_TopFields.l0.eq_2, if_pos a1, if_pos a2, if_pos a1, if_pos a3, hw, ew, Option.bind_some]
    have d1 : decide ((n : Int) ≤ 64) = decide (n ≤ 64) := by simp only [decide_eq_decide]; clear ew wp; omega
    cases x10 with
    | false => rw [if_neg (by simp)]; rfl
    | true =>
      rw [if_pos rfl]
      by_cases c : 1 ≤ n
      · rw [if_pos (by clear ew wp; omega), d1, decide_eq_true c]; rfl
      · rw [if_neg (by clear ew wp; omega), decide_eq_false c]; rfl
  have s1 : ∀ k, slipwaytop_TopFields.j1 (k + 1) l1 x2 (x7 ++ [(n : Int)]) x8 x9 (x10 && (decide (1 ≤ n) && decide (n ≤ 64))) x11 (i : Int) (n : Int) ws (ws.length : Int) (i : Int) = slipwaytop_TopFields.j2 k l1 x2 (x7 ++ [(n : Int)]) x8 x9 (x10 && (decide (1 ≤ n) && decide (n ≤ 64))) x11 (n : Int) (v : Int) ws (ws.length : Int) (i : Int) := fun k => by
    rw [slipwaytop_TopFields.j1.eq_2]
    by_cases c : (i : Int) < (l1.length : Int)
    · rw [if_pos c, if_pos a2, rd_nat, hv]
    · rw [if_neg c]
      have : l1.getD i 0 = 0 := by rw [List.getD_eq_getElem?_getD, List.getElem?_eq_none (by clear ew wp; omega)]; rfl
      rw [← hv, this]
  have s2 : ∀ k, slipwaytop_TopFields.j2 (k + 1) l1 x2 (x7 ++ [(n : Int)]) x8 x9 (x10 && (decide (1 ≤ n) && decide (n ≤ 64))) x11 (n : Int) (v : Int) ws (ws.length : Int) (i : Int) = slipwaytop_TopFields.j3 k l1 x2 (x7 ++ [(n : Int)]) x8 x9 (x10 && (decide (1 ≤ n) && decide (n ≤ 64))) (x11 && decide (v < 2 ^ n)) (n : Int) (v : Int) ws (ws.length : Int) (i : Int) := fun k => by
    rw [slipwaytop_TopFields.j2.eq_2]
    cases x11 with
    | false => rw [if_neg (by simp)]; rfl
    | true =>
      rw [if_pos rfl]
      by_cases c : 64 ≤ n
      · have : v < 2 ^ n := Nat.lt_of_lt_of_le hv2 (Nat.pow_le_pow_right (n := 2) (by omega) c)
        rw [if_pos (by clear ew wp this; omega), decide_eq_true this]; rfl
      · rw [if_neg (by clear ew wp; omega), if_pos (by clear ew wp; omega)]
        have e4 : shr .u64 (v : Int) (n : Int) = ((v / 2 ^ n : Nat) : Int) := by
          unfold shr
          rw [Int.toNat_natCast, Nat.min_eq_left (by show _ ≤ 64; clear ew wp; omega), Int.natCast_ediv, Int.natCast_pow]; rfl
        have e5 : (((v / 2 ^ n : Nat) : Int) == 0) = decide (v < 2 ^ n) := by
          by_cases c2 : v < 2 ^ n
          · rw [Nat.div_eq_of_lt c2, decide_eq_true c2]; rfl
          · have : 0 < v / 2 ^ n := Nat.div_pos (by clear ew wp; omega) (Nat.pow_pos (by omega))
            rw [decide_eq_false c2, beq_eq_false_iff_ne]; clear ew wp; omega
        rw [e4, e5]; rfl
  have s3 : ∀ k, slipwaytop_TopFields.j3 (k + 1) l1 x2 (x7 ++ [(n : Int)]) x8 x9 (x10 && (decide (1 ≤ n) && decide (n ≤ 64))) (x11 && decide (v < 2 ^ n)) (n : Int) (v : Int) ws (ws.length : Int) (i : Int) = slipwaytop_TopFields.l1 k l1 x2 (x7 ++ [(n : Int)]) (x8 ++ [(v : Int)]) x9 (x10 && (decide (1 ≤ n) && decide (n ≤ 64))) (x11 && decide (v < 2 ^ n)) (v : Int) ((n : Int) - 1) ws (ws.length : Int) (i : Int) := fun k => by
    rw [slipwaytop_TopFields.j3.eq_2, if_pos a8, wp]
  exact Ev.step s0 (Ev.step s1 (Ev.step s2 (Ev.step s3 h)))

/-- The pairs that the statement makes of widths and values. -/
def mkps (vals : List Int) : List Int → Nat → List (Nat × Nat)
  | [], _ => []
  | w :: ws, i => (w.toNat % 67, (vals.getD i 0).toNat) :: mkps vals ws (i + 1)
theorem mkps_cons (vals : List Int) (w : Int) (ws : List Int) (i : Nat) : mkps vals (w :: ws) i = (w.toNat % 67, (vals.getD i 0).toNat) :: mkps vals ws (i + 1) := rfl
def mayB (ps : List (Nat × Nat)) : Bool := ps.all fun p => decide (1 ≤ p.1) && decide (p.1 ≤ 64)
def fitB (ps : List (Nat × Nat)) : Bool := ps.all fun p => decide (p.2 < 2 ^ p.1)
theorem mkps_length (vals : List Int) : ∀ ws i, (mkps vals ws i).length = ws.length
  | [], _ => rfl
  | w :: ws, i => by simp [mkps, mkps_length vals ws (i + 1)]
theorem mkps_67 (vals : List Int) : ∀ ws i, ∀ p ∈ mkps vals ws i, p.1 < 67
  | [], _, p, h => by simp [mkps] at h
  | w :: ws, i, p, h => by
    simp only [mkps, List.mem_cons] at h
    rcases h with rfl | h
    · exact Nat.mod_lt _ (by omega)
    · exact mkps_67 vals ws (i + 1) p h
theorem mkps_W64 (vals : List Int) (hv : ∀ x ∈ vals, 0 ≤ x ∧ x < 18446744073709551616) : ∀ ws i, W64 (mkps vals ws i)
  | [], _, p, h => by simp [mkps] at h
  | w :: ws, i, p, h => by
    simp only [mkps, List.mem_cons] at h
    rcases h with rfl | h
    · show (vals.getD i 0).toNat < 18446744073709551616
      by_cases c : i < vals.length
      · have e : vals.getD i 0 = vals[i] := by simp [List.getD_eq_getElem?_getD, c]
        have := hv _ (List.getElem_mem c)
        rw [e]; omega
      · have e : vals.getD i 0 = 0 := by rw [List.getD_eq_getElem?_getD, List.getElem?_eq_none (by omega)]; rfl
        rw [e]; decide
    · exact mkps_W64 vals hv ws (i + 1) p h
theorem bits_le67 : ∀ ps : List (Nat × Nat), (∀ p ∈ ps, p.1 < 67) → (allBits ps).length ≤ 66 * ps.length
  | [], _ => by simp [allBits]
  | p :: ps, h => by
    have h1 := bits_le67 ps (fun q hq => h q (List.mem_cons_of_mem _ hq))
    have h2 := h p (List.mem_cons_self ..)
    rw [allBits_cons, List.length_append, vbits_length, List.length_cons]; omega

theorem tf_l0_run (l1 : List Int) (hv : ∀ x ∈ l1, 0 ≤ x ∧ x < 18446744073709551616) (x2 : Int) (ws : List Int) (hws : ws.length ≤ 100) (hwb : ∀ x ∈ ws, 0 ≤ x ∧ x < 256) (r : Bool) :
    ∀ (d i : Nat) (x7 x8 : List Int) (x9 : List Bool) (x10 x11 : Bool), ws.length - i = d → i ≤ ws.length → x7.length = i → x8.length = i → x9.length ≤ 66 * i →
    Ev (fun k => slipwaytop_TopFields.l0 k l1 x2 (x7 ++ nsOf (mkps l1 (ws.drop i) i)) (x8 ++ vsOf (mkps l1 (ws.drop i) i)) (x9 ++ allBits (mkps l1 (ws.drop i) i)) (x10 && mayB (mkps l1 (ws.drop i) i)) (x11 && fitB (mkps l1 (ws.drop i) i)) ws (ws.length : Int) (ws.length : Int)) r →
    Ev (fun k => slipwaytop_TopFields.l0 k l1 x2 x7 x8 x9 x10 x11 ws (ws.length : Int) (i : Int)) r := by
  intro d
  induction d with
  | zero =>
    intro i x7 x8 x9 x10 x11 hd hi h7 h8 h9 h
    have e : i = ws.length := by omega
    subst e
    rw [List.drop_length] at h
    simpa [mkps, nsOf, vsOf, allBits, mayB, fitB] using h
  | succ d ih =>
    intro i x7 x8 x9 x10 x11 hd hi h7 h8 h9 h
    have hi2 : i < ws.length := by omega
    have hwi := hwb _ (List.getElem_mem hi2)
    obtain ⟨w, hw⟩ : ∃ w : Nat, ws[i] = (w : Int) := ⟨ws[i].toNat, by omega⟩
    have hvi : 0 ≤ l1.getD i 0 ∧ l1.getD i 0 < 18446744073709551616 := by
      by_cases c : i < l1.length
      · have e : l1.getD i 0 = l1[i] := by simp [List.getD_eq_getElem?_getD, c]
        rw [e]; exact hv _ (List.getElem_mem c)
      · have e : l1.getD i 0 = 0 := by rw [List.getD_eq_getElem?_getD, List.getElem?_eq_none (by omega)]; rfl
        rw [e]; decide
    obtain ⟨v, hvv⟩ : ∃ v : Nat, l1.getD i 0 = (v : Int) := ⟨(l1.getD i 0).toNat, by omega⟩
    have hv64 : V64 v := by unfold V64; omega
    clear hvi
    have hrd : rd ws (i : Int) = (w : Int) := by rw [rd_nat, List.getD_eq_getElem?_getD, List.getElem?_eq_getElem hi2, ← hw]; rfl
    have hmk : mkps l1 (ws.drop i) i = (w % 67, v) :: mkps l1 (ws.drop (i + 1)) (i + 1) := by
      rw [drop_cons ws i hi2, mkps_cons, hw, hvv, Int.toNat_natCast, Int.toNat_natCast]
    rw [hmk] at h
    refine tf_round l1 x2 x7 x8 x9 x10 x11 ws i w v hi2 hws hrd (by omega) hvv hv64 (by omega) (by omega) r ?_
    refine tf_l1_run l1 x2 _ _ _ _ v ws _ i (by omega) hv64 r (w % 67) x9 (by omega) (by omega) ?_
    refine ih (i + 1) _ _ _ _ _ (by omega) (by omega) (by simp; omega) (by simp; omega) (by simp [vbits_length]; omega) ?_
    rw [allBits_cons] at h
    have c1 : nsOf ((w % 67, v) :: mkps l1 (ws.drop (i + 1)) (i + 1)) = ((w % 67 : Nat) : Int) :: nsOf (mkps l1 (ws.drop (i + 1)) (i + 1)) := rfl
    have c2 : vsOf ((w % 67, v) :: mkps l1 (ws.drop (i + 1)) (i + 1)) = (v : Int) :: vsOf (mkps l1 (ws.drop (i + 1)) (i + 1)) := rfl
    have c3 : mayB ((w % 67, v) :: mkps l1 (ws.drop (i + 1)) (i + 1)) = ((decide (1 ≤ w % 67) && decide (w % 67 ≤ 64)) && mayB (mkps l1 (ws.drop (i + 1)) (i + 1))) := rfl
    have c4 : fitB ((w % 67, v) :: mkps l1 (ws.drop (i + 1)) (i + 1)) = (decide (v < 2 ^ (w % 67)) && fitB (mkps l1 (ws.drop (i + 1)) (i + 1))) := rfl
    rw [c1, c2, c3, c4] at h
    simp only [List.append_assoc, List.singleton_append, Bool.and_assoc] at h ⊢
    exact h
end Go.Proofs.Ytbaedfpimlfonaa.Q
