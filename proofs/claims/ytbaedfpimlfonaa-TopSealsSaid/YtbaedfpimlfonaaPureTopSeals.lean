/- For every bytes, mask and other bytes, the pure form of TopSeals answers true; the conditions are the row's own (lengths that memory can hold, numbers that are bytes). -/
import Derived.Test.YtbaedfpimlfonaaQ8
import Derived.Test.YtbaedfpimlfonaaM9
namespace Go.Proofs.Ytbaedfpimlfonaa.Pure
open Go.RowKit Go.Proofs.Ytbaedfpimlfonaa.Q Go.Proofs.YtbaedfpimlfonaaW.PrintWords Go.Proofs.YtbaedfpimlfonaaW.PrintLast Go.Proofs.YtbaedfpimlfonaaW.PrintMore
set_option linter.unusedVariables false

theorem mn_nat2 (a b : Nat) : mn (a : Int) (b : Int) = ((min a b : Nat) : Int) := by unfold mn; split <;> omega
theorem st_nil : stOf [] = 11 := by decide
theorem st_255 : stOf [255] = 10 := by decide
theorem B8_nil : B8 [] := fun x hx => by simp at hx
theorem B8_255 : B8 [255] := fun x hx => by simp at hx; omega
theorem ts_end {r : Bool} (q : Nat → Option Bool) : Ev (fun k => (seal_State.f k ([] : List Int)).bind fun t284 => (if t284 = 11 then ((seal_State.f k ([255] : List Int)).bind fun t288 => (some (t288 == 10))) else (some false))) true := by
  have h1 := State_ev [] B8_nil (by simp)
  have h2 := State_ev [255] B8_255 (by simp)
  rw [st_nil] at h1
  rw [st_255] at h2
  exact Ev.bind h1 (Ev.pos rfl (Ev.bind h2 (Ev.now _)))
theorem ts_exit (b o : List Int) (hb : B8 b) (ho : B8 o) (hbl : b.length ≤ 60) (hol : o.length ≤ 60) (q : Bool) (hq : q = cvB b o) (n : Nat) :
    Ev (fun k => slipwaytop_TopSeals.l0 k b o (sealL b) q (n : Int) (n : Int)) true := by
  have a1 : ¬ (n : Int) < (n : Int) := by omega
  have hs : ∀ k, slipwaytop_TopSeals.l0 (k + 1) b o (sealL b) q (n : Int) (n : Int) = ((seal_Covers.f k b o).bind fun t282 => (if (t282 == q) = true then ((slices_Equal_byte_byte.f k b o).bind fun t283 => (if t283 = true then ((seal_State.f k ([] : List Int)).bind fun t284 => (if t284 = 11 then ((seal_State.f k (([255] : List Int))).bind fun t288 => (some (t288 == 10))) else (some false))) else (if (b.length : Int) = (o.length : Int) then ((slipwaytop_sealed.f k o).bind fun t289 => ((seal_Covers.f k (sealL b) t289).bind fun t292 => (if t292 = true then (some false) else ((seal_State.f k ([] : List Int)).bind fun t293 => (if t293 = 11 then ((seal_State.f k (([255] : List Int))).bind fun t297 => (some (t297 == 10))) else (some false)))))) else ((seal_State.f k ([] : List Int)).bind fun t298 => (if t298 = 11 then ((seal_State.f k (([255] : List Int))).bind fun t302 => (some (t302 == 10))) else (some false)))))) else (some false))) := fun k => by
    rw [slipwaytop_TopSeals.l0.eq_2, if_neg a1]
  refine Ev.step hs (Ev.bind (Covers_ev b o hb ho (by omega)) (Ev.pos (by rw [hq]; simp) (Ev.bind (equal8 b o (by omega)) ?_)))
  by_cases c : b = o
  · exact Ev.pos (by simpa using c) (ts_end (r := true) (fun _ => none))
  · refine Ev.neg (by simpa using c) ?_
    by_cases c2 : b.length = o.length
    · refine Ev.pos (by omega) (Ev.bind (sealed_ev o ho (by omega)) (Ev.bind (Covers_ev (sealL b) (sealL o) (sealL_B8 hb) (sealL_B8 ho) (by rw [sealL_length]; omega)) ?_))
      refine Ev.neg ?_ (ts_end (r := true) (fun _ => none))
      intro h
      exact c (seal_cv b o hb ho c2 (by omega) ((cvB_iff _ _).1 h))
    · exact Ev.neg (by omega) (ts_end (r := true) (fun _ => none))
theorem ts_l0_ne (b o s : List Int) (n : Nat) (hn : n ≤ 100) (r : Bool) : ∀ (d i : Nat), n - i = d → i ≤ n →
    Ev (fun k => slipwaytop_TopSeals.l0 k b o s false (n : Int) (n : Int)) r → Ev (fun k => slipwaytop_TopSeals.l0 k b o s false (n : Int) (i : Int)) r := by
  intro d
  induction d with
  | zero =>
    intro i hd hi h
    have : i = n := by omega
    subst this; exact h
  | succ d ih =>
    intro i hd hi h
    have a1 : (i : Int) < (n : Int) := by omega
    have w1 := wsucc i (by omega)
    have hs : ∀ k, slipwaytop_TopSeals.l0 (k + 1) b o s false (n : Int) (i : Int) = slipwaytop_TopSeals.l0 k b o s false (n : Int) ((i + 1 : Nat) : Int) := fun k => by
      rw [slipwaytop_TopSeals.l0.eq_2, if_pos a1, if_neg (by decide), w1]
    clear w1
    exact Ev.step hs (ih (i + 1) (by omega) (by omega) h)
theorem ts_l0_eq (b o s : List Int) (hb : B8 b) (ho : B8 o) (he : b.length = o.length) (hn : o.length ≤ 100) (r : Bool) : ∀ (d i : Nat) (q : Bool), o.length - i = d → i ≤ o.length →
    Ev (fun k => slipwaytop_TopSeals.l0 k b o s (q && cvB (b.drop i) (o.drop i)) (o.length : Int) (o.length : Int)) r → Ev (fun k => slipwaytop_TopSeals.l0 k b o s q (o.length : Int) (i : Int)) r := by
  intro d
  induction d with
  | zero =>
    intro i q hd hi h
    have e : i = o.length := by omega
    subst e
    rw [List.drop_eq_nil_iff.2 (by omega : b.length ≤ o.length), List.drop_length] at h
    simpa [cvB] using h
  | succ d ih =>
    intro i q hd hi h
    have i1 : i < o.length := by omega
    have i2 : i < b.length := by omega
    obtain ⟨x, hx, hx2, hx3⟩ := hb.natOf i i2
    obtain ⟨y, hy, hy2, hy3⟩ := ho.natOf i i1
    have a1 : (i : Int) < (o.length : Int) := by omega
    have a2 : 0 ≤ (i : Int) := by omega
    have a3 : (i : Int) < (b.length : Int) := by omega
    have w1 := wsucc i (by omega)
    rw [drop1 b i i2, drop1 o i i1, hx3, hy3] at h
    simp only [cvB, Int.toNat_natCast] at h
    have hbit : (Go.bits .andNot .u8 (y : Int) (x : Int) == 0) = decide (x ||| y = x) := by
      by_cases c : x ||| y = x
      · rw [decide_eq_true c, (andNot_nat x y hx2 hy2).2 c]; rfl
      · rw [decide_eq_false c, beq_eq_false_iff_ne]; exact fun h => c ((andNot_nat x y hx2 hy2).1 h)
    have hs : ∀ k, slipwaytop_TopSeals.l0 (k + 1) b o s q (o.length : Int) (i : Int) = slipwaytop_TopSeals.l0 k b o s (q && decide (x ||| y = x)) (o.length : Int) ((i + 1 : Nat) : Int) := fun k => by
      rw [slipwaytop_TopSeals.l0.eq_2, if_pos a1]
      cases q with
      | false => rw [if_neg (by decide), w1]; rfl
      | true => rw [if_pos rfl, if_pos a2, if_pos a1, if_pos a3, hx, hy, hbit, w1]; rfl
    clear w1 hbit
    refine Ev.step hs (ih (i + 1) _ (by omega) (by omega) ?_)
    rw [Bool.and_assoc]; exact h
theorem ts_j1 (b o : List Int) (hb : B8 b) (ho : B8 o) (hbl : b.length ≤ 60) (hol : o.length ≤ 60) : Ev (fun k => slipwaytop_TopSeals.j1 k b o (sealL b) false) true := by
  have e := mn_nat2 b.length o.length
  have hs : ∀ k, slipwaytop_TopSeals.j1 (k + 1) b o (sealL b) false = slipwaytop_TopSeals.l0 k b o (sealL b) ((b.length : Int) == (o.length : Int)) ((min b.length o.length : Nat) : Int) ((0 : Nat) : Int) := fun k => by
    rw [slipwaytop_TopSeals.j1.eq_2, if_neg (by decide), e]; rfl
  refine Ev.step hs ?_
  by_cases c : b.length = o.length
  · have e1 : ((b.length : Int) == (o.length : Int)) = true := by rw [c]; simp
    rw [e1, show min b.length o.length = o.length from by omega]
    refine ts_l0_eq b o (sealL b) hb ho c (by omega) true o.length 0 true (by omega) (by omega) ?_
    exact ts_exit b o hb ho hbl hol _ (by simp) o.length
  · have e1 : ((b.length : Int) == (o.length : Int)) = false := by rw [beq_eq_false_iff_ne]; omega
    rw [e1]
    refine ts_l0_ne b o (sealL b) _ (by omega) true _ 0 rfl (by omega) ?_
    exact ts_exit b o hb ho hbl hol false (cvB_len c).symm _
theorem ts_j0 (b m o : List Int) (hb : B8 b) (hm : B8 m) (ho : B8 o) (hbl : b.length ≤ 60) (hol : o.length ≤ 60) : Ev (fun k => slipwaytop_TopSeals.j0 k b m o (sealL b) false) true := by
  have hsl := sealL_length b
  have hsb := sealL_B8 hb
  obtain ⟨T, hT⟩ : ∃ T, T = mk m (sealL b) 0 := ⟨_, rfl⟩
  have hTl : T.length = b.length + 4 := by rw [hT, mk_length, hsl]
  have hTb : B8 T := by rw [hT]; exact mk_B8 m hm _ _ hsb
  have hTc : Cv T (sealL b) := by rw [hT]; exact mk_Cv m _ _
  have hlaid := laid_ev (sealL b) m hsb hm (by omega)
  have hmask := Mask_ev (sealL b) m hsb hm (by omega)
  rw [← hT] at hlaid hmask
  have hj1 := ts_j1 b o hb ho hbl hol
  have heq := equal8 T T (by omega)
  rw [decide_eq_true rfl] at heq
  have hst := State_ev T hTb (by omega)
  have hsd := stated_ev T hTb (by omega)
  have hcov := Covers_ev T (sealL b) hTb hsb (by omega)
  rw [(cvB_iff _ _).2 hTc] at hcov
  have hop := Open_ev T hTb (by omega)
  have hs : ∀ k, slipwaytop_TopSeals.j0 (k + 1) b m o (sealL b) false = ((slipwaytop_laid.f k (sealL b) m).bind fun t263 => ((seal_Open.f k t263).bind fun bt266 => ((seal_Mask.f k (sealL b) m).bind fun t270 => ((slices_Equal_byte_byte.f k t270 t263).bind fun t273 => (if t273 = true then ((seal_State.f k t263).bind fun t274 => ((slipwaytop_stated.f k t263).bind fun t275 => (if t274 = t275 then ((slipwaytop_stated.f k t263).bind fun t276 => (if bt266.2 = t276 then (if bt266.2 = 0 then ((slices_Equal_byte_byte.f k bt266.1 b).bind fun t277 => (if t277 = true then ((seal_Covers.f k t263 (sealL b)).bind fun t278 => (slipwaytop_TopSeals.j1 k b o (sealL b) (!t278))) else (slipwaytop_TopSeals.j1 k b o (sealL b) true))) else (if (bt266.1.length : Int) > 0 then (slipwaytop_TopSeals.j1 k b o (sealL b) true) else ((seal_Covers.f k t263 (sealL b)).bind fun t279 => (slipwaytop_TopSeals.j1 k b o (sealL b) (!t279))))) else (slipwaytop_TopSeals.j1 k b o (sealL b) true))) else (slipwaytop_TopSeals.j1 k b o (sealL b) true)))) else (slipwaytop_TopSeals.j1 k b o (sealL b) true)))))) := fun k => by
    rw [slipwaytop_TopSeals.j0.eq_2, if_neg (by decide)]
  refine Ev.step hs (Ev.bind hlaid ?_)
  by_cases c : stOf T = 0
  · rw [if_pos c] at hop
    obtain ⟨h4, h5⟩ := stOf_zero c
    have hback : T.take (T.length - 4) = b := by
      rw [h5] at hTc
      exact seal_cv _ b (hTb.take _) hb (by rw [List.length_take]; omega) (by rw [List.length_take]; omega) hTc
    rw [hback] at hop
    have hbb := equal8 b b (by omega)
    rw [decide_eq_true rfl] at hbb
    rw [c] at hst hsd
    exact Ev.bind hop (Ev.bind hmask (Ev.bind heq (Ev.pos rfl (Ev.bind hst (Ev.bind hsd (Ev.pos rfl (Ev.bind hsd (Ev.pos rfl (Ev.pos rfl (Ev.bind hbb (Ev.pos rfl (Ev.bind hcov hj1))))))))))))
  · rw [if_neg c] at hop
    exact Ev.bind hop (Ev.bind hmask (Ev.bind heq (Ev.pos rfl (Ev.bind hst (Ev.bind hsd (Ev.pos rfl (Ev.bind hsd (Ev.pos rfl (Ev.neg c (Ev.neg (by simp) (Ev.bind hcov hj1)))))))))))
theorem wf_u8' {x : Int} (h : (Lit.int .u8 x).wf = true) : 0 ≤ x ∧ x < 256 := by
  simp [Lit.wf, IntKind.min, IntKind.max, IntKind.bits, IntKind.signed] at h; omega
theorem TopSeals : slipwaytop_TopSeals.Pure := by
  intro l0 l1 l2 _ _ h0 _ _ h1 _ _ h2
  apply Ev.rounds
  have hb0 : B8 l0 := fun x hx => wf_u8' (h0 x hx)
  have hb1 : B8 l1 := fun x hx => wf_u8' (h1 x hx)
  have hb2 : B8 l2 := fun x hx => wf_u8' (h2 x hx)
  unfold slipwaytop_TopSeals.f
  have e0 : mn (l0.length : Int) 60 = ((min l0.length 60 : Nat) : Int) := mn_nat2 l0.length 60
  have e1 : mn (l1.length : Int) 64 = ((min l1.length 64 : Nat) : Int) := mn_nat2 l1.length 64
  have e2 : mn (l2.length : Int) 60 = ((min l2.length 60 : Nat) : Int) := mn_nat2 l2.length 60
  rw [e0, e1, e2]
  simp only [Int.toNat_natCast]
  obtain ⟨b, hb⟩ : ∃ b, b = l0.take (min l0.length 60) := ⟨_, rfl⟩
  obtain ⟨m, hm⟩ : ∃ m, m = l1.take (min l1.length 64) := ⟨_, rfl⟩
  obtain ⟨o, ho⟩ : ∃ o, o = l2.take (min l2.length 60) := ⟨_, rfl⟩
  rw [← hb, ← hm, ← ho]
  have hbl : b.length ≤ 60 := by rw [hb, List.length_take]; omega
  have hol : o.length ≤ 60 := by rw [ho, List.length_take]; omega
  have hbb : B8 b := by rw [hb]; exact hb0.take _
  have hmb : B8 m := by rw [hm]; exact hb1.take _
  have hob : B8 o := by rw [ho]; exact hb2.take _
  refine Ev.pos (by omega) (Ev.pos (by omega) (Ev.pos (by omega) (Ev.pos (by omega) (Ev.pos (by omega) (Ev.pos (by omega) ?_)))))
  clear hb hm ho e0 e1 e2
  have hsl := sealL_length b
  have hsb := sealL_B8 hbb
  have hz := zeros_ev b hbb (by omega)
  have hn := noughts_ev b hbb (by omega)
  have heq := equal8 (sealL b) (sealL b) (by omega)
  rw [decide_eq_true rfl] at heq
  have hs1 := State_ev (sealL b) hsb (by omega)
  have hs2 := stated_ev (sealL b) hsb (by omega)
  have hs3 := State_ev b hbb (by omega)
  have hs4 := stated_ev b hbb (by omega)
  have hop := Open_ev (sealL b) hsb (by omega)
  have hj0 := ts_j0 b m o hbb hmb hob hbl hol
  refine Ev.bind (sealed_ev b hbb (by omega)) (Ev.bind (Seal_ev b hbb (by omega)) ?_)
  by_cases c : stOf (sealL b) = 0
  · rw [if_pos c] at hop
    have hback : (sealL b).take ((sealL b).length - 4) = b := by
      rw [hsl]; unfold sealL; rw [show b.length + 4 - 4 = b.length from by omega, List.take_left']; rfl
    rw [hback] at hop
    rw [c] at hs1 hs2
    have hbb2 := equal8 b b (by omega)
    rw [decide_eq_true rfl] at hbb2
    exact Ev.bind hop (Ev.bind hz (Ev.bind hn (Ev.pos rfl (Ev.pos rfl (Ev.bind heq (Ev.pos rfl (Ev.bind hs1 (Ev.bind hs2 (Ev.pos rfl (Ev.bind hs3 (Ev.bind hs4 (Ev.pos rfl (Ev.bind hs2 (Ev.pos rfl (Ev.pos rfl (Ev.bind hbb2 hj0))))))))))))))))
  · rw [if_neg c] at hop
    exact Ev.bind hop (Ev.bind hz (Ev.bind hn (Ev.pos rfl (Ev.pos rfl (Ev.bind heq (Ev.pos rfl (Ev.bind hs1 (Ev.bind hs2 (Ev.pos rfl (Ev.bind hs3 (Ev.bind hs4 (Ev.pos rfl (Ev.bind hs2 (Ev.pos rfl (Ev.neg c hj0)))))))))))))))
end Go.Proofs.Ytbaedfpimlfonaa.Pure
