/- For every list of widths, every list of values and every byte, the pure form of TopFields answers true; the conditions are the row's own (lengths that memory can hold, numbers of their kinds). -/
import Derived.Test.YtbaedfpimlfonaaM6
namespace Go.Proofs.Ytbaedfpimlfonaa.Pure
open Go.RowKit Go.Proofs.Ytbaedfpimlfonaa.Q Go.Proofs.YtbaedfpimlfonaaW.PrintWords Go.Proofs.YtbaedfpimlfonaaW.PrintLast Go.Proofs.YtbaedfpimlfonaaW.PrintMore
set_option linter.unusedVariables false

theorem mn_nat (a b : Nat) : mn (a : Int) (b : Int) = ((min a b : Nat) : Int) := by unfold mn; split <;> omega
theorem mayB_okW : ∀ ps : List (Nat × Nat), okW (nsOf ps) = mayB ps
  | [] => rfl
  | p :: ps => by
    have := mayB_okW ps
    have e1 : okW (nsOf (p :: ps)) = ((decide (1 ≤ (p.1 : Int)) && decide ((p.1 : Int) ≤ 64)) && okW (nsOf ps)) := rfl
    have e2 : mayB (p :: ps) = ((decide (1 ≤ p.1) && decide (p.1 ≤ 64)) && mayB ps) := rfl
    rw [e1, e2, this]
    congr 2
    · simp only [decide_eq_decide]; omega
    · simp only [decide_eq_decide]; omega
theorem mayB_N64 (ps : List (Nat × Nat)) (h : mayB ps = true) : N64 ps := by
  intro p hp
  have := List.all_eq_true.1 h p hp
  simp at this; exact this

/-- What follows the second loop. -/
theorem tf_tail (l1 : List Int) (x2 : Int) (ps : List (Nat × Nat)) (m64 : Bool) (hm : m64 = decide (ps.length ≤ 64)) (fits : Bool) (hfits : fits = decide (ps.length ≤ l1.length)) (hps : ps.length ≤ 70) (h67 : ∀ p ∈ ps, p.1 < 67) (hv : W64 ps) :
    Ev (fun k => slipwaytop_TopFields.l2 k l1 x2 (nsOf ps) (vsOf ps) (allBits ps) (m64 && mayB ps) (fits && fitB ps) (packed ps) (allBits ps) ((allBits ps).length : Int) ((allBits ps).length : Int)) true := by
  have hnl : (nsOf ps).length = ps.length := by simp [nsOf]
  have hvl : (vsOf ps).length = ps.length := by simp [vsOf]
  have hpl := packed_length ps
  have hal := bits_le67 ps h67
  have hbf : bytesFor ps ≤ 600 := by unfold bytesFor; omega
  have a1 : ¬ ((allBits ps).length : Int) < ((allBits ps).length : Int) := by omega
  by_cases hmay : (m64 && mayB ps) = true
  · rw [Bool.and_eq_true] at hmay
    obtain ⟨h1, h2⟩ := hmay
    have hps64 : ps.length ≤ 64 := by rw [hm] at h1; exact of_decide_eq_true h1
    have hw := mayB_N64 ps h2
    rw [h1, h2, show (true && true) = true from rfl]
    have hj6 := tf_j6 x2 ps hps64 hw hv
    have hwd := width_ev (nsOf ps)
    rw [if_pos ⟨by omega, nsOf_okW ps hw⟩, ns_sum8] at hwd
    have b1 : 0 ≤ mn ((vsOf ps).length : Int) (l1.length : Int) := by rw [mn_nat]; exact Int.natCast_nonneg _
    have b2 : mn ((vsOf ps).length : Int) (l1.length : Int) ≤ ((vsOf ps).length : Int) := by rw [mn_nat]; omega
    have hs : ∀ k, slipwaytop_TopFields.l2 (k + 1) l1 x2 (nsOf ps) (vsOf ps) (allBits ps) true (fits && fitB ps) (packed ps) (allBits ps) ((allBits ps).length : Int) ((allBits ps).length : Int) =
        (seal_Width.f k (nsOf ps)).bind fun bt140 => ((seal_Pack.f k (nsOf ps) ((vsOf ps).take ((mn ((vsOf ps).length : Int) (l1.length : Int)) : Int).toNat)).bind fun bt154 => (if bt140.1 = ((packed ps).length : Int) then (if bt140.2 = 0 then (if ((fits && fitB ps) != (bt154.2 == 0)) = true then (slipwaytop_TopFields.j6 k x2 (nsOf ps) (vsOf ps) (allBits ps) (packed ps) true) else (if (fits && fitB ps) = true then ((slices_Equal_byte_byte.f k bt154.1 (packed ps)).bind fun t158 => (if t158 = true then (slipwaytop_TopFields.j6 k x2 (nsOf ps) (vsOf ps) (allBits ps) (packed ps) false) else (slipwaytop_TopFields.j6 k x2 (nsOf ps) (vsOf ps) (allBits ps) (packed ps) true))) else (if bt154.2 = 1 then (slipwaytop_TopFields.j6 k x2 (nsOf ps) (vsOf ps) (allBits ps) (packed ps) (decide ((bt154.1.length : Int) > 0))) else (slipwaytop_TopFields.j6 k x2 (nsOf ps) (vsOf ps) (allBits ps) (packed ps) true)))) else (slipwaytop_TopFields.j6 k x2 (nsOf ps) (vsOf ps) (allBits ps) (packed ps) true)) else (slipwaytop_TopFields.j6 k x2 (nsOf ps) (vsOf ps) (allBits ps) (packed ps) true))) := fun k => by
      rw [slipwaytop_TopFields.l2.eq_2, if_neg a1]
      simp only [b1, b2, if_true]
    refine Ev.step hs (Ev.bind hwd ?_)
    have hc1 : ((bytesFor ps : Nat) : Int) = ((packed ps).length : Int) := by rw [hpl]
    have htake : ((vsOf ps).take ((mn ((vsOf ps).length : Int) (l1.length : Int)) : Int).toNat).length = min ps.length l1.length := by
      rw [mn_nat, Int.toNat_natCast, List.length_take, hvl]; omega
    have hbad : ∀ F : Bool, F = false → Ev (fun k => (if ((bytesFor ps : Nat) : Int) = ((packed ps).length : Int) then (if (0 : Int) = 0 then (if (F != ((1 : Int) == 0)) = true then (slipwaytop_TopFields.j6 k x2 (nsOf ps) (vsOf ps) (allBits ps) (packed ps) true) else (if F = true then ((slices_Equal_byte_byte.f k [] (packed ps)).bind fun t158 => (if t158 = true then (slipwaytop_TopFields.j6 k x2 (nsOf ps) (vsOf ps) (allBits ps) (packed ps) false) else (slipwaytop_TopFields.j6 k x2 (nsOf ps) (vsOf ps) (allBits ps) (packed ps) true))) else (if (1 : Int) = 1 then (slipwaytop_TopFields.j6 k x2 (nsOf ps) (vsOf ps) (allBits ps) (packed ps) (decide ((([] : List Int).length : Int) > 0))) else (slipwaytop_TopFields.j6 k x2 (nsOf ps) (vsOf ps) (allBits ps) (packed ps) true)))) else (slipwaytop_TopFields.j6 k x2 (nsOf ps) (vsOf ps) (allBits ps) (packed ps) true)) else (slipwaytop_TopFields.j6 k x2 (nsOf ps) (vsOf ps) (allBits ps) (packed ps) true))) true := by
      intro F hF
      subst hF
      refine Ev.congr (fun k => ?_) hj6
      rw [if_pos hc1, if_pos rfl, if_neg (by decide), if_neg (by decide), if_pos rfl]; rfl
    by_cases c : ps.length ≤ l1.length
    · have hall : (vsOf ps).take ((mn ((vsOf ps).length : Int) (l1.length : Int)) : Int).toNat = vsOf ps := List.take_of_length_le (by rw [mn_nat, Int.toNat_natCast]; omega)
      have hf : fits = true := by rw [hfits, decide_eq_true c]
      rw [hall, hf, Bool.true_and]
      have hp := pack_ev ps hps64 hw hv
      by_cases c2 : fitB ps = true
      · rw [show (ps.all fun q => decide (q.2 < 2 ^ q.1)) = fitB ps from rfl, if_pos c2] at hp
        refine Ev.bind hp ?_
        have heq := equal8 (packed ps) (packed ps) (by omega)
        rw [decide_eq_true rfl] at heq
        rw [c2]
        refine Ev.congr (f := fun k => (slices_Equal_byte_byte.f k (packed ps) (packed ps)).bind fun t158 => (if t158 = true then (slipwaytop_TopFields.j6 k x2 (nsOf ps) (vsOf ps) (allBits ps) (packed ps) false) else (slipwaytop_TopFields.j6 k x2 (nsOf ps) (vsOf ps) (allBits ps) (packed ps) true))) (fun k => ?_) (Ev.bind heq ?_)
        · dsimp only
          rw [if_pos hc1, if_pos rfl, if_neg (by decide), if_pos rfl]
        · exact hj6
      · rw [show (ps.all fun q => decide (q.2 < 2 ^ q.1)) = fitB ps from rfl, if_neg c2] at hp
        refine Ev.bind hp ?_
        exact hbad _ (by simpa using c2)
    · have hf : fits = false := by rw [hfits, decide_eq_false c]
      rw [hf, Bool.false_and]
      refine Ev.bind (pack_ev_len ps _ hps64 hw (by rw [htake]; omega)) ?_
      exact hbad false rfl
  · have hmf : (m64 && mayB ps) = false := by simpa using hmay
    have hnot : ¬ ((nsOf ps).length ≤ 64 ∧ okW (nsOf ps) = true) := by
      rintro ⟨g1, g2⟩
      rw [mayB_okW] at g2
      rw [hm, g2, decide_eq_true (by omega : ps.length ≤ 64)] at hmf
      exact absurd hmf (by decide)
    rw [hmf]
    have hwd := width_ev (nsOf ps)
    rw [if_neg hnot] at hwd
    have hs : ∀ k, slipwaytop_TopFields.l2 (k + 1) l1 x2 (nsOf ps) (vsOf ps) (allBits ps) false (fits && fitB ps) (packed ps) (allBits ps) ((allBits ps).length : Int) ((allBits ps).length : Int) =
        (seal_Width.f k (nsOf ps)).bind fun bt140 => ((seal_Pack.f k (nsOf ps) (vsOf ps)).bind fun bt142 => ((seal_Unpack.f k (nsOf ps) (packed ps)).bind fun bt146 => (if bt140.1 = 0 then (if bt140.2 = 1 then (if (wrap64 ((bt142.1.length : Int) + (bt146.1.length : Int))) = 0 then (if bt142.2 = 1 then (some (bt146.2 == 1)) else (some false)) else (some false)) else (some false)) else (some false)))) := fun k => by
      rw [slipwaytop_TopFields.l2.eq_2, if_neg a1]; rfl
    refine Ev.step hs (Ev.bind hwd (Ev.bind (pack_ev_bad _ _ hnot) (Ev.bind (unpack_ev_bad _ _ hnot) ?_)))
    refine Ev.congr (f := fun _ => some true) (fun k => ?_) (Ev.now _)
    dsimp only
    have : wrap64 ((([] : List Int).length : Int) + (([] : List Int).length : Int)) = 0 := by unfold wrap64; decide
    rw [if_pos rfl, if_pos rfl, if_pos this, if_pos rfl]; rfl

theorem TopFields : slipwaytop_TopFields.Pure := by
  intro l0 l1 a2 _ _ hb0 _ _ hb1 _
  have hb0' : ∀ x ∈ l0, 0 ≤ x ∧ x < 256 := fun x hx => wf_u8 (hb0 x hx)
  have hb1' : ∀ x ∈ l1, 0 ≤ x ∧ x < 18446744073709551616 := fun x hx => wf_u64 (hb1 x hx)
  clear hb0 hb1
  apply Ev.rounds
  obtain ⟨m, hm⟩ : ∃ m, m = min l0.length 70 := ⟨_, rfl⟩
  have e1 : mn (l0.length : Int) 70 = (m : Int) := by rw [hm]; exact mn_nat l0.length 70
  obtain ⟨ws, hws⟩ : ∃ ws, ws = l0.take m := ⟨_, rfl⟩
  have hwl : ws.length = m := by rw [hws, List.length_take]; omega
  have hwb : ∀ x ∈ ws, 0 ≤ x ∧ x < 256 := fun x hx => hb0' x (by rw [hws] at hx; exact List.mem_of_mem_take hx)
  have hf : ∀ k, slipwaytop_TopFields.f k l0 l1 a2 = slipwaytop_TopFields.l0 k l1 a2 [] [] [] (decide ((l0.length : Int) ≤ 64)) (decide ((l1.length : Int) ≥ (m : Int))) ws (ws.length : Int) ((0 : Nat) : Int) := fun k => by
    unfold slipwaytop_TopFields.f
    rw [e1, if_pos (by omega), if_pos (by omega), Int.toNat_natCast, ← hws]; rfl
  refine Ev.congr hf ?_
  refine tf_l0_run l1 hb1' a2 ws (by omega) hwb true ws.length 0 [] [] [] _ _ (by omega) (by omega) rfl rfl (by simp) ?_
  rw [List.drop_zero]
  simp only [List.nil_append]
  obtain ⟨ps, hps⟩ : ∃ ps, ps = mkps l1 ws 0 := ⟨_, rfl⟩
  rw [← hps]
  have hpl : ps.length = m := by rw [hps, mkps_length, hwl]
  have h67 : ∀ p ∈ ps, p.1 < 67 := by rw [hps]; exact mkps_67 l1 ws 0
  have hW : W64 ps := by rw [hps]; exact mkps_W64 l1 hb1' ws 0
  have hal := bits_le67 ps h67
  have a1 : ¬ (ws.length : Int) < (ws.length : Int) := by omega
  have e2 : wrap64 (Int.tdiv (wrap64 (((allBits ps).length : Int) + 7)) 8) = ((bytesFor ps : Nat) : Int) := by
    have e3 : wrap64 (((allBits ps).length : Int) + 7) = (((allBits ps).length + 7 : Nat) : Int) := by unfold wrap64; omega
    rw [e3, wrap_tdiv8 _ (by clear e3; omega)]; rfl
  have hs : ∀ k, slipwaytop_TopFields.l0 (k + 1) l1 a2 (nsOf ps) (vsOf ps) (allBits ps) (decide ((l0.length : Int) ≤ 64) && mayB ps) (decide ((l1.length : Int) ≥ (m : Int)) && fitB ps) ws (ws.length : Int) (ws.length : Int) =
      slipwaytop_TopFields.l2 k l1 a2 (nsOf ps) (vsOf ps) (allBits ps) (decide ((l0.length : Int) ≤ 64) && mayB ps) (decide ((l1.length : Int) ≥ (m : Int)) && fitB ps) (List.replicate (bytesFor ps) 0) (allBits ps) ((allBits ps).length : Int) ((0 : Nat) : Int) := fun k => by
    have hb : bytesFor ps ≤ 281474976710656 := by clear e2; unfold bytesFor; omega
    rw [slipwaytop_TopFields.l0.eq_2, if_neg a1, e2, if_pos (Int.natCast_nonneg _), Int.toNat_natCast, if_pos hb]; rfl
  clear e2
  refine Ev.step hs ?_
  refine tf_l2_run l1 a2 _ _ _ _ _ (allBits ps) (by omega) true (allBits ps).length 0 _ (by omega) (by omega) (zeros_B8 _) (by simp; unfold bytesFor; omega) ?_
  rw [List.drop_zero]
  refine tf_tail l1 a2 ps _ ?_ _ ?_ (by omega) h67 hW
  · simp only [decide_eq_decide]; omega
  · simp only [decide_eq_decide]; omega
end Go.Proofs.Ytbaedfpimlfonaa.Pure
