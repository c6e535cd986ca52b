/- Plain laws: seal.Pack and seal.Unpack of widths that may be, told on pairs of a width and a value. -/
import Derived.Test.YtbaedfpimlfonaaM3
namespace Go.Proofs.Ytbaedfpimlfonaa.Q
open Go.RowKit Go.Proofs.YtbaedfpimlfonaaW.PrintWords Go.Proofs.YtbaedfpimlfonaaW.PrintLast Go.Proofs.YtbaedfpimlfonaaW.PrintMore
set_option linter.unusedVariables false

def nsOf (ps : List (Nat × Nat)) : List Int := ps.map fun p => (p.1 : Int)
def vsOf (ps : List (Nat × Nat)) : List Int := ps.map fun p => (p.2 : Int)
def allBits (ps : List (Nat × Nat)) : List Bool := ps.flatMap fun p => vbits p.2 p.1
def W64 (ps : List (Nat × Nat)) : Prop := ∀ p ∈ ps, p.2 < 18446744073709551616
def N64 (ps : List (Nat × Nat)) : Prop := ∀ p ∈ ps, 1 ≤ p.1 ∧ p.1 ≤ 64
theorem nsOf_okW (ps : List (Nat × Nat)) (h : N64 ps) : okW (nsOf ps) = true := by
  rw [okW_iff]; intro x hx
  obtain ⟨p, hp, rfl⟩ := List.mem_map.1 hx
  have := h p hp; omega
theorem allBits_length : ∀ ps, ((allBits ps).length : Int) = (nsOf ps).sum
  | [] => rfl
  | p :: ps => by
    have := allBits_length ps
    unfold allBits nsOf at *
    simp only [List.flatMap_cons, List.length_append, vbits_length, List.map_cons, List.sum_cons]; omega
theorem allBits_le : ∀ ps, N64 ps → (allBits ps).length ≤ 64 * ps.length
  | [], _ => by simp [allBits]
  | p :: ps, h => by
    have := allBits_le ps (fun q hq => h q (List.mem_cons_of_mem _ hq))
    have := h p (List.mem_cons_self ..)
    simp only [allBits, List.flatMap_cons, List.length_append, vbits_length, List.length_cons] at *; omega
theorem drop_cons {α : Type} (l : List α) (i : Nat) (h : i < l.length) : l.drop i = l[i] :: l.drop (i + 1) := List.drop_eq_getElem_cons h
theorem rd_nat (l : List Int) (i : Nat) : rd l (i : Int) = l.getD i 0 := by unfold rd; rw [Int.toNat_natCast]
theorem rd_ns (ps : List (Nat × Nat)) (i : Nat) (h : i < ps.length) : rd (nsOf ps) (i : Int) = (ps[i].1 : Int) := by
  rw [rd_nat]; unfold nsOf; simp [List.getD_eq_getElem?_getD, h]
theorem rd_vs (ps : List (Nat × Nat)) (i : Nat) (h : i < ps.length) : rd (vsOf ps) (i : Int) = (ps[i].2 : Int) := by
  rw [rd_nat]; unfold vsOf; simp [List.getD_eq_getElem?_getD, h]

theorem allBits_cons (p : Nat × Nat) (ps : List (Nat × Nat)) : allBits (p :: ps) = vbits p.2 p.1 ++ allBits ps := by simp [allBits]
theorem wrap_succ (i : Nat) (h : i ≤ 1000000) : wrap64 ((i : Int) + 1) = ((i + 1 : Nat) : Int) := by unfold wrap64; omega
theorem wrap_tdiv8 (p : Nat) (h : p ≤ 1000000) : wrap64 (Int.tdiv (p : Int) 8) = ((p / 8 : Nat) : Int) := by rw [Int.tdiv_eq_ediv_of_nonneg (by omega)]; unfold wrap64; omega
theorem wrap_bitpos (n j : Nat) (h : j < n) (hn : n ≤ 1000000) : wrap64 (wrap64 ((n : Int) - 1) - (j : Int)) = ((n - 1 - j : Nat) : Int) := by unfold wrap64; omega
theorem wrap_tmod8 (p : Nat) (h : p ≤ 1000000) : wrap64 (7 - Int.tmod (p : Int) 8) = ((7 - p % 8 : Nat) : Int) := by rw [Int.tmod_eq_emod_of_nonneg (by omega)]; unfold wrap64; omega
def V64 (v : Nat) : Prop := v < 18446744073709551616
theorem pack_l1_step (vals ns : List Int) (i n v : Nat) (hi : i < vals.length) (hi2 : i ≤ 64) (hrd : rd vals (i : Int) = (v : Int)) (hw : n ≤ 64) (hv : V64 v) (j : Nat) (b : List Int) (p : Nat) (hb : B8 b) (hl : b.length ≤ 1000) (hj : j < n) (hp : p < 8 * b.length) :
    ∀ k, seal_Pack.l1 (k + 1) vals b (p : Int) (i : Int) (n : Int) ns (ns.length : Int) (i : Int) (n : Int) (j : Int) = seal_Pack.l1 k vals (if v.testBit (n - 1 - j) then orbit b p else b) ((p + 1 : Nat) : Int) (i : Int) (n : Int) ns (ns.length : Int) (i : Int) (n : Int) ((j + 1 : Nat) : Int) := by
  intro k
  have a1 : (j : Int) < (n : Int) := by omega
  have a4 : 0 ≤ (i : Int) := by omega
  have a5 : (i : Int) < (vals.length : Int) := by omega
  have a6 : 0 ≤ wrap64 (wrap64 ((n : Int) - 1) - (j : Int)) := by rw [wrap_bitpos n j (by omega) (by omega)]; exact Int.natCast_nonneg _
  have a7 : 0 ≤ wrap64 (7 - Int.tmod (p : Int) 8) := by rw [wrap_tmod8 p (by omega)]; exact Int.natCast_nonneg _
  have a2 : 0 ≤ wrap64 (Int.tdiv (p : Int) 8) := by rw [wrap_tdiv8 p (by omega)]; exact Int.natCast_nonneg _
  have a3 : wrap64 (Int.tdiv (p : Int) 8) < (b.length : Int) := by rw [wrap_tdiv8 p (by omega)]; clear a6 a7 a2; omega
  have hst := pack_step hb hl p v n j hp hv hj hw
  rw [← hrd] at hst
  have w1 := wrap_succ p (by clear a6 a7 a2 a3 hst; omega)
  have w2 := wrap_succ j (by clear a6 a7 a2 a3 hst w1; omega)
  rw [seal_Pack.l1.eq_2, if_pos a1, if_pos a2, if_pos a3, if_pos a4, if_pos a5, if_pos a6, if_pos a7, w1, w2, hst]
theorem pack_l1 (vals ns : List Int) (i n v : Nat) (hi : i < vals.length) (hi2 : i ≤ 64) (hrd : rd vals (i : Int) = (v : Int)) (hw : n ≤ 64) (hv : V64 v) (r : List Int × Int) :
    ∀ (d j : Nat) (b : List Int) (p : Nat), B8 b → b.length ≤ 1000 → n - j = d → j ≤ n → p + d ≤ 8 * b.length →
    Ev (fun k => seal_Pack.l0 k vals (pack (vbits v d) b p) ((p + d : Nat) : Int) ns (ns.length : Int) ((i + 1 : Nat) : Int)) r →
    Ev (fun k => seal_Pack.l1 k vals b (p : Int) (i : Int) (n : Int) ns (ns.length : Int) (i : Int) (n : Int) (j : Int)) r := by
  intro d
  induction d with
  | zero =>
    intro j b p hb hl hd hj hp h
    have e := wrap_succ i (by omega)
    have a1 : ¬ (j : Int) < (n : Int) := by omega
    have hs : ∀ k, seal_Pack.l1 (k + 1) vals b (p : Int) (i : Int) (n : Int) ns (ns.length : Int) (i : Int) (n : Int) (j : Int) = seal_Pack.l0 k vals b (p : Int) ns (ns.length : Int) ((i + 1 : Nat) : Int) := fun k => by
      rw [seal_Pack.l1.eq_2, if_neg a1, e]
    simp only [vbits, pack, Nat.add_zero] at h
    exact Ev.step hs h
  | succ d ih =>
    intro j b p hb hl hd hj hp h
    have hs := pack_l1_step vals ns i n v hi hi2 hrd hw hv j b p hb hl (by omega) (by omega)
    refine Ev.step hs ?_
    · have hdd : n - 1 - j = d := by omega
      rw [hdd]
      refine ih (j + 1) _ (p + 1) ?_ ?_ (by omega) (by omega) ?_ ?_
      · split
        · exact orbit_B8 hb p
        · exact hb
      · split
        · rw [orbit_length]; exact hl
        · exact hl
      · split
        · rw [orbit_length]; omega
        · omega
      · have : ((p + 1 + d : Nat) : Int) = ((p + (d + 1) : Nat) : Int) := by omega
        rw [this]; exact h

theorem pack_l0 (ps : List (Nat × Nat)) (hps : ps.length ≤ 64) (hw : N64 ps) (hv : W64 ps) (b0 : List Int) :
    ∀ (d i : Nat) (b : List Int) (p : Nat), ps.length - i = d → i ≤ ps.length → B8 b → b.length ≤ 1000 → p + (allBits (ps.drop i)).length ≤ 8 * b.length →
    Ev (fun k => seal_Pack.l0 k (vsOf ps) b (p : Int) (nsOf ps) ((nsOf ps).length : Int) (i : Int)) (if (ps.drop i).all (fun q => decide (q.2 < 2 ^ q.1)) then (pack (allBits (ps.drop i)) b p, 0) else ([], 1)) := by
  intro d
  induction d with
  | zero =>
    intro i b p hd hi hb hl hp
    have e : ps.drop i = [] := List.drop_eq_nil_iff.2 (by omega)
    refine Ev.step (f := fun _ => some _) (fun k => ?_) (Ev.now _)
    simp only [seal_Pack.l0]
    rw [if_neg (by simp [nsOf]; omega), e]; simp [allBits, pack]
  | succ d ih =>
    intro i b p hd hi hb hl hp
    have hi2 : i < ps.length := by omega
    rw [drop_cons ps i hi2] at hp ⊢
    have hwi := hw ps[i] (List.getElem_mem hi2)
    have hvi := hv ps[i] (List.getElem_mem hi2)
    have hnl : (nsOf ps).length = ps.length := by simp [nsOf]
    have hvl : (vsOf ps).length = ps.length := by simp [vsOf]
    have hlen : bits_Len64.f (rd (vsOf ps) (i : Int)) = some ((Lib.bitLen ps[i].2 : Nat) : Int) := by
      rw [rd_vs ps i hi2]; unfold bits_Len64.f; rw [if_pos (by omega)]; simp
    have hbl : (Lib.bitLen ps[i].2 ≤ ps[i].1 ↔ ps[i].2 < 2 ^ ps[i].1) := bitLen_le 64 _ _ hvi
    by_cases c : ps[i].2 < 2 ^ ps[i].1
    · have hab := allBits_cons ps[i] (ps.drop (i + 1))
      rw [hab] at hp ⊢
      simp only [List.length_append, vbits_length] at hp
      have hall : ((ps[i] :: ps.drop (i + 1)).all fun q => decide (q.2 < 2 ^ q.1)) = ((ps.drop (i + 1)).all fun q => decide (q.2 < 2 ^ q.1)) := by rw [List.all_cons, decide_eq_true c, Bool.true_and]
      rw [hall]
      have hpk : ∀ (xs ys : List Bool) (b : List Int) (p : Nat), pack (xs ++ ys) b p = pack ys (pack xs b p) (p + xs.length) := by
        intro xs
        induction xs with
        | nil => intro ys b p; rfl
        | cons x xs ih2 => intro ys b p; simp only [List.cons_append, pack, List.length_cons]; rw [ih2]; congr 1; omega
      refine Ev.step (f := fun k => seal_Pack.l1 k (vsOf ps) b (p : Int) (i : Int) (ps[i].1 : Int) (nsOf ps) ((nsOf ps).length : Int) (i : Int) (ps[i].1 : Int) ((0 : Nat) : Int)) (fun k => ?_) ?_
      · simp only [seal_Pack.l0]
        have := hbl.2 c
        rw [if_pos (by omega), if_pos (by omega), if_pos (by omega), if_pos (by omega), hlen]
        simp only [Option.bind_some]
        rw [if_neg (by rw [rd_ns ps i hi2]; omega), rd_ns ps i hi2]; rfl
      · refine pack_l1 (vsOf ps) (nsOf ps) i ps[i].1 ps[i].2 (by omega) (by omega) (rd_vs ps i hi2) hwi.2 hvi _ ps[i].1 0 b p hb hl (by omega) (by omega) (by omega) ?_
        have := ih (i + 1) (pack (vbits ps[i].2 ps[i].1) b p) (p + ps[i].1) (by omega) (by omega) (pack_B8 _ _ _ hb) (by rw [pack_length]; exact hl) (by rw [pack_length]; omega)
        rw [hpk, vbits_length]
        exact this
    · refine Ev.step (f := fun _ => some _) (fun k => ?_) (Ev.now _)
      simp only [seal_Pack.l0]
      have : ¬ Lib.bitLen ps[i].2 ≤ ps[i].1 := fun h => c (hbl.1 h)
      rw [if_pos (by omega), if_pos (by omega), if_pos (by omega), if_pos (by omega), hlen]
      simp only [Option.bind_some]
      rw [if_pos (by rw [rd_ns ps i hi2]; omega), List.all_cons, decide_eq_false c, Bool.false_and, if_neg (by simp)]

def bytesFor (ps : List (Nat × Nat)) : Nat := ((allBits ps).length + 7) / 8
def packed (ps : List (Nat × Nat)) : List Int := pack (allBits ps) (List.replicate (bytesFor ps) 0) 0
theorem packed_length (ps) : (packed ps).length = bytesFor ps := by simp [packed, pack_length]
theorem packed_B8 (ps) : B8 (packed ps) := pack_B8 _ _ _ (zeros_B8 _)
theorem packed_bit (ps : List (Nat × Nat)) (i : Nat) : bitAt (packed ps) i = (allBits ps).getD i false := pack_bits _ _ (by unfold bytesFor; omega) i
theorem ns_sum8 (ps : List (Nat × Nat)) : ((nsOf ps).sum + 7) / 8 = ((bytesFor ps : Nat) : Int) := by rw [← allBits_length]; unfold bytesFor; omega
theorem pack_ev (ps : List (Nat × Nat)) (hps : ps.length ≤ 64) (hw : N64 ps) (hv : W64 ps) :
    Ev (fun k => seal_Pack.f k (nsOf ps) (vsOf ps)) (if ps.all (fun q => decide (q.2 < 2 ^ q.1)) then (packed ps, 0) else ([], 1)) := by
  unfold seal_Pack.f
  have hnl : (nsOf ps).length = ps.length := by simp [nsOf]
  have hvl : (vsOf ps).length = ps.length := by simp [vsOf]
  refine Ev.bind (width_ev _) ?_
  rw [if_pos ⟨by omega, nsOf_okW ps hw⟩]
  have hal := allBits_le ps hw
  have h8 := ns_sum8 ps
  have hbf : bytesFor ps ≤ 600 := by unfold bytesFor; omega
  have := pack_l0 ps hps hw hv (List.replicate (bytesFor ps) 0) ps.length 0 (List.replicate (bytesFor ps) 0) 0 (by omega) (by omega) (zeros_B8 _) (by simp; omega) (by simp [bytesFor]; omega)
  refine Ev.congr (fun k => ?_) this
  dsimp only
  rw [if_pos rfl, if_pos (by omega), h8, if_pos (by omega), Int.toNat_natCast, if_pos (by omega), hnl]; rfl
theorem pack_ev_len (ps : List (Nat × Nat)) (vs : List Int) (hps : ps.length ≤ 64) (hw : N64 ps) (hne : vs.length ≠ ps.length) :
    Ev (fun k => seal_Pack.f k (nsOf ps) vs) ([], 1) := by
  unfold seal_Pack.f
  have hnl : (nsOf ps).length = ps.length := by simp [nsOf]
  refine Ev.bind (width_ev _) ?_
  rw [if_pos ⟨by omega, nsOf_okW ps hw⟩]
  refine Ev.congr (f := fun _ => some ([], 1)) (fun k => ?_) (Ev.now _)
  dsimp only
  rw [if_pos rfl, if_neg (by omega)]
theorem pack_ev_bad (ns vs : List Int) (h : ¬ (ns.length ≤ 64 ∧ okW ns = true)) : Ev (fun k => seal_Pack.f k ns vs) ([], 1) := by
  unfold seal_Pack.f
  refine Ev.bind (width_ev _) ?_
  rw [if_neg h]
  exact Ev.congr (f := fun _ => some ([], 1)) (fun k => by dsimp only; rw [if_neg (by decide)]) (Ev.now _)
theorem unpack_ev_bad (ns : List Int) (b : List Int) (h : ¬ (ns.length ≤ 64 ∧ okW ns = true)) : Ev (fun k => seal_Unpack.f k ns b) ([], 1) := by
  unfold seal_Unpack.f
  refine Ev.bind (total_ev _) ?_
  rw [if_neg h]
  exact Ev.congr (f := fun _ => some ([], 1)) (fun k => by dsimp only; rw [if_pos (by decide)]) (Ev.now _)

theorem utail_eq (b : List Int) (hb : B8 b) : ∀ (d i : Nat), utail b d (i : Int) = true ↔ ∀ j, i ≤ j → j < i + d → bitAt b j = false
  | 0, i => by simp [utail]; intro j h1 h2; omega
  | d + 1, i => by
    unfold utail
    rw [ubit_eq b hb i]
    cases h : bitAt b i with
    | true =>
      simp
      exact ⟨i, by omega, by omega, h⟩
    | false =>
      simp only [Bool.false_eq_true, if_false, if_true]
      rw [show ((i : Int) + 1) = ((i + 1 : Nat) : Int) from rfl, utail_eq b hb d (i + 1)]
      constructor
      · intro g j h1 h2
        by_cases e : j = i
        · subst e; exact h
        · exact g j (by omega) (by omega)
      · intro g j h1 h2
        exact g j (by omega) (by omega)
theorem getD_left (l r : List Bool) (j : Nat) (h : j < l.length) : (l ++ r).getD j false = l.getD j false := by
  rw [List.getD_eq_getElem?_getD, List.getElem?_append_left h, ← List.getD_eq_getElem?_getD]
theorem getD_right (l r : List Bool) (j : Nat) (h : l.length ≤ j) : (l ++ r).getD j false = r.getD (j - l.length) false := by
  rw [List.getD_eq_getElem?_getD, List.getElem?_append_right h, ← List.getD_eq_getElem?_getD]
theorem uvals_eq (b : List Int) (hb : B8 b) : ∀ (ps : List (Nat × Nat)) (at_ : Nat) (acc : List Int), N64 ps → (∀ j, j < (allBits ps).length → bitAt b (at_ + j) = (allBits ps).getD j false) →
    uvals b (nsOf ps) (at_ : Int) acc = acc ++ ps.map (fun p => ((p.2 % 2 ^ p.1 : Nat) : Int))
  | [], at_, acc, _, _ => by simp [nsOf, uvals]
  | p :: ps, at_, acc, hw, h => by
    have hp := hw p (List.mem_cons_self ..)
    have hab := allBits_cons p ps
    rw [hab] at h
    simp only [List.length_append, vbits_length] at h
    have hu := uval_eq b hb p.2 p.1 at_ 0 (by omega) (fun j hj => by
      rw [h j (by omega), getD_left _ _ _ (by rw [vbits_length]; exact hj)]; exact vbits_getD _ _ _ hj)
    have hlt : p.2 % 2 ^ p.1 < 18446744073709551616 := Nat.lt_of_lt_of_le (Nat.mod_lt _ (Nat.pow_pos (by omega))) (Nat.pow_le_pow_right (n := 2) (by omega) hp.2)
    rw [Nat.zero_mul, Nat.zero_add, Nat.mod_eq_of_lt hlt] at hu
    show uvals b (nsOf ps) ((at_ : Int) + (p.1 : Int)) (acc ++ [uval b ((p.1 : Int)).toNat (at_ : Int) 0]) = _
    rw [Int.toNat_natCast, show (0 : Int) = ((0 : Nat) : Int) from rfl, hu, show ((at_ : Int) + (p.1 : Int)) = ((at_ + p.1 : Nat) : Int) from rfl,
      uvals_eq b hb ps (at_ + p.1) _ (fun q hq => hw q (List.mem_cons_of_mem _ hq)) (fun j hj => by
        have := h (p.1 + j) (by omega)
        rw [Nat.add_assoc, this, getD_right _ _ _ (by rw [vbits_length]; omega), vbits_length]; congr 1; omega)]
    simp
def masked (ps : List (Nat × Nat)) : List Int := ps.map fun p => ((p.2 % 2 ^ p.1 : Nat) : Int)
theorem total_ok_ev (ps : List (Nat × Nat)) (hps : ps.length ≤ 64) (hw : N64 ps) : Ev (fun k => seal_total.f k (nsOf ps)) ((nsOf ps).sum, 0) := by
  have hnl : (nsOf ps).length = ps.length := by simp [nsOf]
  have := total_ev (nsOf ps)
  rw [if_pos ⟨by omega, nsOf_okW ps hw⟩] at this; exact this
/-- Unpack: of bytes that bear the pairs' bits, and beyond them none. -/
theorem unpack_ev (ps : List (Nat × Nat)) (hps : ps.length ≤ 64) (hw : N64 ps) (b : List Int) (hb : B8 b) (hlen : b.length = bytesFor ps) (h : ∀ j, j < (allBits ps).length → bitAt b j = (allBits ps).getD j false)
    (c : ∀ j, (allBits ps).length ≤ j → j < 8 * b.length → bitAt b j = false) :
    Ev (fun k => seal_Unpack.f k (nsOf ps) b) (masked ps, 0) := by
  unfold seal_Unpack.f
  refine Ev.bind (total_ok_ev ps hps hw) ?_
  have h8 := ns_sum8 ps
  have hs := allBits_length ps
  refine Ev.congr (f := fun _ => some _) (fun k => ?_) (Ev.now _)
  dsimp only
  rw [if_neg (by simp), if_neg (by rw [h8, hlen]; simp), ← hs]
  have e1 : (8 * (b.length : Int) - ((allBits ps).length : Int)).toNat = 8 * b.length - (allBits ps).length := by omega
  have hle : (allBits ps).length ≤ 8 * b.length := by rw [hlen]; unfold bytesFor; omega
  have ht : utail b (8 * b.length - (allBits ps).length) (((allBits ps).length : Nat) : Int) = true := (utail_eq b hb _ _).2 (fun j h1 h2 => c j h1 (by omega))
  rw [e1, if_neg (by rw [ht]; simp)]
  have := uvals_eq b hb ps 0 [] hw (fun j hj => by rw [Nat.zero_add]; exact h j hj)
  rw [List.nil_append] at this
  rw [show (0 : Int) = ((0 : Nat) : Int) from rfl, this]; rfl
/-- Unpack: of bytes with a bit beyond. -/
theorem unpack_ev_tail (ps : List (Nat × Nat)) (hps : ps.length ≤ 64) (hw : N64 ps) (b : List Int) (hb : B8 b) (hlen : b.length = bytesFor ps) (j : Nat) (h1 : (allBits ps).length ≤ j) (h2 : j < 8 * b.length) (h3 : bitAt b j = true) :
    Ev (fun k => seal_Unpack.f k (nsOf ps) b) ([], 1) := by
  unfold seal_Unpack.f
  refine Ev.bind (total_ok_ev ps hps hw) ?_
  have h8 := ns_sum8 ps
  have hs := allBits_length ps
  refine Ev.congr (f := fun _ => some _) (fun k => ?_) (Ev.now _)
  dsimp only
  rw [if_neg (by simp), if_neg (by rw [h8, hlen]; simp), ← hs]
  have e1 : (8 * (b.length : Int) - ((allBits ps).length : Int)).toNat = 8 * b.length - (allBits ps).length := by omega
  have ht : utail b (8 * b.length - (allBits ps).length) (((allBits ps).length : Nat) : Int) = false := by
    cases hx : utail b (8 * b.length - (allBits ps).length) (((allBits ps).length : Nat) : Int) with
    | false => rfl
    | true => have := (utail_eq b hb _ _).1 hx j h1 (by omega); rw [h3] at this; exact absurd this (by simp)
  rw [e1, if_pos ht]
theorem unpack_ev_long (ps : List (Nat × Nat)) (hps : ps.length ≤ 64) (hw : N64 ps) (b : List Int) (hlen : b.length ≠ bytesFor ps) :
    Ev (fun k => seal_Unpack.f k (nsOf ps) b) ([], 3) := by
  unfold seal_Unpack.f
  refine Ev.bind (total_ok_ev ps hps hw) ?_
  have h8 := ns_sum8 ps
  refine Ev.congr (f := fun _ => some _) (fun k => ?_) (Ev.now _)
  dsimp only
  rw [if_neg (by simp), if_pos (by rw [h8]; omega)]
end Go.Proofs.Ytbaedfpimlfonaa.Q
