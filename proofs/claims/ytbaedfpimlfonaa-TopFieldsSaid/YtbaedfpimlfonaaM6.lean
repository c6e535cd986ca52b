/- Plain laws: what TopFields answers: true. -/
import Derived.Test.YtbaedfpimlfonaaM5
namespace Go.Proofs.Ytbaedfpimlfonaa.Q
open Go.RowKit Go.Proofs.YtbaedfpimlfonaaW.PrintWords Go.Proofs.YtbaedfpimlfonaaW.PrintLast Go.Proofs.YtbaedfpimlfonaaW.PrintMore
set_option linter.unusedVariables false

theorem masked_one (v n : Nat) (hv : V64 v) (hn : n < 64) : Go.bits .and .u64 (v : Int) (IntKind.u64.wrap ((shl .u64 1 (n : Int)) - 1)) = ((v % 2 ^ n : Nat) : Int) := by
  have h1 : 2 ^ n < 2 ^ 64 := Nat.pow_lt_pow_right (by omega) hn
  have h2 : 0 < 2 ^ n := Nat.pow_pos (by omega)
  have e1 : shl .u64 1 (n : Int) = ((2 ^ n : Nat) : Int) := by
    unfold shl
    rw [Int.toNat_natCast, Nat.min_eq_left (by show _ ≤ 64; omega), Int.one_mul, IntKind.wrap_u64, Int.natCast_pow]
    have : ((2 : Nat) : Int) ^ n < 18446744073709551616 := by rw [← Int.natCast_pow]; exact Int.ofNat_lt.2 h1
    exact Int.emod_eq_of_lt (by rw [show (2 : Int) = ((2 : Nat) : Int) from rfl, ← Int.natCast_pow]; exact Int.natCast_nonneg _) this
  have e2 : IntKind.u64.wrap (((2 ^ n : Nat) : Int) - 1) = ((2 ^ n - 1 : Nat) : Int) := by
    rw [IntKind.wrap_u64]
    generalize 2 ^ n = q at h1 h2
    omega
  rw [e1, e2, and_u64_nat _ _ hv (by generalize 2 ^ n = q at h1 h2; omega), Nat.and_two_pow_sub_one_eq_mod]
theorem masked_64 (v : Nat) (hv : V64 v) : v % 2 ^ 64 = v := Nat.mod_eq_of_lt hv
theorem set_mid {α : Type} (A : List α) (x y : α) (B : List α) (i : Nat) (h : A.length = i) : (A ++ x :: B).set i y = A ++ y :: B := by
  subst h; simp
theorem rd_mid (A : List Int) (x : Int) (B : List Int) (i : Nat) (h : A.length = i) : rd (A ++ x :: B) (i : Int) = x := by
  subst h; rw [rd_nat]; simp [List.getD_eq_getElem?_getD]
theorem take_succ' {α : Type} (l : List α) (i : Nat) (h : i < l.length) : l.take (i + 1) = l.take i ++ [l[i]] := List.take_succ_eq_append_getElem h

theorem masked_append (a b : List (Nat × Nat)) : masked (a ++ b) = masked a ++ masked b := by simp [masked]
theorem tf_l3_run (x2 : Int) (x9 : List Bool) (x17 : List Int) (x27 : Int) (x28 : List Int) (ps : List (Nat × Nat)) (hps : ps.length ≤ 64) (hw : N64 ps) (hv : W64 ps) (r : Bool) :
    ∀ (d i : Nat), ps.length - i = d → i ≤ ps.length →
    Ev (fun k => slipwaytop_TopFields.l3 k x2 (nsOf ps) (masked ps) x9 x17 x27 x28 (nsOf ps) ((nsOf ps).length : Int) ((nsOf ps).length : Int)) r →
    Ev (fun k => slipwaytop_TopFields.l3 k x2 (nsOf ps) (masked (ps.take i) ++ vsOf (ps.drop i)) x9 x17 x27 x28 (nsOf ps) ((nsOf ps).length : Int) (i : Int)) r := by
  have hnl : (nsOf ps).length = ps.length := by simp [nsOf]
  intro d
  induction d with
  | zero =>
    intro i hd hi h
    have e : i = ps.length := by omega
    subst e
    rw [List.take_length, List.drop_length, show vsOf [] = [] from rfl, List.append_nil]
    rw [hnl] at h ⊢
    exact h
  | succ d ih =>
    intro i hd hi h
    have hi2 : i < ps.length := by omega
    have hwi := hw ps[i] (List.getElem_mem hi2)
    have hvi : V64 ps[i].2 := hv ps[i] (List.getElem_mem hi2)
    have hml : (masked (ps.take i)).length = i := by simp [masked]; omega
    have hvd : vsOf (ps.drop i) = (ps[i].2 : Int) :: vsOf (ps.drop (i + 1)) := by rw [drop_cons ps i hi2]; rfl
    have hmk : masked (ps.take (i + 1)) = masked (ps.take i) ++ [((ps[i].2 % 2 ^ ps[i].1 : Nat) : Int)] := by rw [take_succ' ps i hi2, masked_append]; rfl
    have hr := rd_ns ps i hi2
    have a1 : (i : Int) < ((nsOf ps).length : Int) := by omega
    have a2 : 0 ≤ (i : Int) := by omega
    have hlen : (masked (ps.take i) ++ vsOf (ps.drop i)).length = ps.length := by simp [masked, vsOf]; omega
    have a3 : (i : Int) < ((masked (ps.take i) ++ vsOf (ps.drop i)).length : Int) := by omega
    have hx := rd_mid (masked (ps.take i)) (ps[i].2 : Int) (vsOf (ps.drop (i + 1))) i hml
    have w1 := wrap_succ i (by omega)
    have hs : ∀ k, slipwaytop_TopFields.l3 (k + 1) x2 (nsOf ps) (masked (ps.take i) ++ vsOf (ps.drop i)) x9 x17 x27 x28 (nsOf ps) ((nsOf ps).length : Int) (i : Int) = slipwaytop_TopFields.l3 k x2 (nsOf ps) (masked (ps.take (i + 1)) ++ vsOf (ps.drop (i + 1))) x9 x17 x27 x28 (nsOf ps) ((nsOf ps).length : Int) ((i + 1 : Nat) : Int) := fun k => by
      rw [slipwaytop_TopFields.l3.eq_2, if_pos a1, if_pos a2, if_pos a1, hr]
      by_cases c : ps[i].1 < 64
      · rw [if_pos (by clear w1 hx; omega), if_pos a3, if_pos (by clear w1 hx; omega), hvd, hx, masked_one _ _ hvi c, Int.toNat_natCast, set_mid _ _ _ _ _ hml, w1, hmk, List.append_assoc, List.singleton_append]
      · have e64 : ps[i].1 = 64 := by clear w1 hx; omega
        rw [if_neg (by clear w1 hx; omega), hvd, w1, hmk, e64, masked_64 _ hvi, List.append_assoc, List.singleton_append]
    clear w1 hx
    exact Ev.step hs (ih (i + 1) (by omega) (by omega) h)
theorem tf_j8 (ps : List (Nat × Nat)) (hps : ps.length ≤ 64) (hw : N64 ps) : Ev (fun k => slipwaytop_TopFields.j8 k (nsOf ps) (allBits ps) (packed ps) false) true := by
  have hal := allBits_le ps hw
  by_cases c : (allBits ps).length % 8 > 0
  · have hm : bytesFor ps = (allBits ps).length / 8 + 1 := by unfold bytesFor; omega
    have hpl := packed_length ps
    obtain ⟨m, hmm⟩ : ∃ m, m = (allBits ps).length / 8 := ⟨_, rfl⟩
    have h64 : bitAt (orbit (packed ps) (8 * m + 7)) (8 * m + 7) = true := by rw [bitAt_orbit _ _ (by omega)]; simp
    have hev := unpack_ev_tail ps hps hw (orbit (packed ps) (8 * m + 7)) (orbit_B8 (packed_B8 ps) _) (by rw [orbit_length]; exact hpl) (8 * m + 7) (by omega) (by rw [orbit_length]; omega) h64
    have eset : (packed ps).set m (Go.bits .or .u8 (rd (packed ps) (m : Int)) 1) = orbit (packed ps) (8 * m + 7) := by
      have e2 : (8 * m + 7) / 8 = m := by omega
      have e3 : (8 * m + 7) % 8 = 7 := by omega
      have := or_bit8 (packed_B8 ps) (8 * m + 7)
      rw [e2, e3] at this
      rw [rd_nat, ← this]; rfl
    have a1 : (((allBits ps).length : Int) % 8) > 0 := by omega
    have a2 : 0 ≤ (m : Int) := by omega
    have a3 : (m : Int) < ((packed ps).length : Int) := by omega
    have e1 : wrap64 (((packed ps).length : Int) - 1) = (m : Int) := by rw [hpl, hm, ← hmm, wrap_pred (m + 1) (by omega)]; omega
    have hs : ∀ k, slipwaytop_TopFields.j8 (k + 1) (nsOf ps) (allBits ps) (packed ps) false = ((seal_Unpack.f k (nsOf ps) (orbit (packed ps) (8 * m + 7))).bind fun bt => (if (bt.1.length : Int) = 0 then (some (bt.2 == 1)) else (some false))) := fun k => by
      rw [slipwaytop_TopFields.j8.eq_2, if_neg (by simp), if_pos a1, e1, if_pos a2, if_pos a3, Int.toNat_natCast, eset]
    exact Ev.step hs (Ev.bind hev (Ev.now _))
  · have a1 : ¬ (((allBits ps).length : Int) % 8) > 0 := by omega
    have hs : ∀ k, slipwaytop_TopFields.j8 (k + 1) (nsOf ps) (allBits ps) (packed ps) false = some true := fun k => by
      rw [slipwaytop_TopFields.j8.eq_2, if_neg (by simp), if_neg a1]
    exact Ev.step hs (Ev.now _)
theorem unpack_packed (ps : List (Nat × Nat)) (hps : ps.length ≤ 64) (hw : N64 ps) : Ev (fun k => seal_Unpack.f k (nsOf ps) (packed ps)) (masked ps, 0) :=
  unpack_ev ps hps hw _ (packed_B8 ps) (packed_length ps) (fun j _ => packed_bit ps j) (fun j h1 _ => by rw [packed_bit, List.getD_eq_getElem?_getD, List.getElem?_eq_none h1]; rfl)
theorem tf_j6 (x2 : Int) (ps : List (Nat × Nat)) (hps : ps.length ≤ 64) (hw : N64 ps) (hv : W64 ps) : Ev (fun k => slipwaytop_TopFields.j6 k x2 (nsOf ps) (vsOf ps) (allBits ps) (packed ps) false) true := by
  have hal := allBits_le ps hw
  have hpl := packed_length ps
  have hbf : bytesFor ps ≤ 600 := by unfold bytesFor; omega
  have hnl : (nsOf ps).length = ps.length := by simp [nsOf]
  have hs : ∀ k, slipwaytop_TopFields.j6 (k + 1) x2 (nsOf ps) (vsOf ps) (allBits ps) (packed ps) false = ((seal_Unpack.f k (nsOf ps) (packed ps)).bind fun bt159 => (slipwaytop_TopFields.l3 k x2 (nsOf ps) (vsOf ps) (allBits ps) (packed ps) bt159.2 bt159.1 (nsOf ps) ((nsOf ps).length : Int) 0)) := fun k => by
    rw [slipwaytop_TopFields.j6.eq_2, if_neg (by simp)]
  refine Ev.step hs (Ev.bind (unpack_packed ps hps hw) ?_)
  have h0 := tf_l3_run x2 (allBits ps) (packed ps) 0 (masked ps) ps hps hw hv true ps.length 0 (by omega) (by omega)
  rw [List.take_zero, show masked [] = [] from rfl, List.nil_append, List.drop_zero] at h0
  refine h0 ?_
  have a1 : ¬ ((nsOf ps).length : Int) < ((nsOf ps).length : Int) := by omega
  have hc : slices_Clone_byte_byte.f (packed ps) = some (packed ps) := by unfold slices_Clone_byte_byte.f; rw [if_pos (by omega)]
  have a2 : (packed ps).length < 140737488355328 := by omega
  have hs2 : ∀ k, slipwaytop_TopFields.l3 (k + 1) x2 (nsOf ps) (masked ps) (allBits ps) (packed ps) 0 (masked ps) (nsOf ps) ((nsOf ps).length : Int) ((nsOf ps).length : Int) = ((seal_Unpack.f k (nsOf ps) (packed ps ++ [x2])).bind fun bt172 => ((slices_Equal_uint64_uint64.f k (masked ps) (masked ps)).bind fun t176 => (if t176 = true then (slipwaytop_TopFields.j8 k (nsOf ps) (allBits ps) (packed ps) (bt172.2 != 3)) else (slipwaytop_TopFields.j8 k (nsOf ps) (allBits ps) (packed ps) true)))) := fun k => by
    rw [slipwaytop_TopFields.l3.eq_2, if_neg a1, hc, Option.bind_some, if_pos a2]; rfl
  refine Ev.step hs2 (Ev.bind (unpack_ev_long ps hps hw _ (by simp; omega)) ?_)
  have heq := equal64 (masked ps) (masked ps) (by simp [masked]; omega)
  rw [decide_eq_true rfl] at heq
  refine Ev.bind heq ?_
  exact tf_j8 ps hps hw

theorem wf_u8 {x : Int} (h : (Lit.int .u8 x).wf = true) : 0 ≤ x ∧ x < 256 := by
  simp [Lit.wf, IntKind.min, IntKind.max, IntKind.bits, IntKind.signed] at h; omega
theorem wf_u64 {x : Int} (h : (Lit.int .u64 x).wf = true) : 0 ≤ x ∧ x < 18446744073709551616 := by
  simp [Lit.wf, IntKind.min, IntKind.max, IntKind.bits, IntKind.signed] at h; omega
end Go.Proofs.Ytbaedfpimlfonaa.Q
