/- slices.Concat at bytes, in the printed words' form: what it returns for every list of slices whose bytes memory can hold; no condition beyond the statement's. -/
import Derived.Test.YtbaedfpimlfonaaF
namespace Go.Proofs.Ytbaedfpimlfonaa.Q
open Go.RowKit Go.Proofs.YtbaedfpimlfonaaW.PrintWords Go.Proofs.YtbaedfpimlfonaaW.PrintLast Go.Proofs.YtbaedfpimlfonaaW.PrintMore
set_option linter.unusedVariables false
set_option linter.unusedSimpArgs false

theorem own_none {w : World} {base : Nat} {A : Option Addr} {n c : Nat} {ok : Nat → Prop} {xs : List Int} (h : Kd.R (Kd.int .u8) 5 w base ok (.slice A n c) xs) : Kd.R (Kd.int .u8) 5 w base ok (.slice A 0 c) [] := by
  obtain ⟨h0, inner, ⟨hl, h1⟩, hr⟩ := h
  refine ⟨by cases A <;> exact h0, [], ⟨rfl, ?_⟩, Reps.none _ _⟩
  rcases h1 with ⟨h1, h2⟩ | ⟨g, cap, cur, h1, h2, h3, h4, h5, h6, h7⟩
  · left
    simp only [Value.slice.injEq] at h1
    obtain ⟨rfl, rfl, rfl⟩ := h1
    exact ⟨rfl, rfl⟩
  · right
    simp only [Value.slice.injEq] at h1
    obtain ⟨rfl, rfl, rfl⟩ := h1
    exact ⟨g, c, cur, rfl, h2, h3, Nat.zero_le _, h5, h6, by simp⟩

set_option maxHeartbeats 8000000 in
set_option maxRecDepth 100000 in
theorem grow_nil (n : Int) (w : World) (h0 : 0 ≤ n) (h1 : n ≤ 140737488355328) :
    Calls Try.prog 49 #[.slice none 0 0, .int .i64 n] w fun e w' => ∃ v : Value, e = .returned v ∧ Kd.R (Kd.int .u8) 5 w' w.heap.size (fun _ => True) v [] ∧ Below w.heap.size w w' := by
  by_cases hn : 0 < n
  · obtain ⟨i0, hi, _, hsz, _⟩ := info_parts finfo5
    have hcut := fun (W : World) => cut_to (P := Try.prog) 22 5 .i64 Try.underlying22 hi none 0 0 0 (by omega) (by omega) (by omega)
    go_enter Try.func49, Try.ntmps49
    go_wp2_with (at_builtin; refine Kd.R_append_zeros (Kd.int .u8) (w0 := w) w.heap.size rfl (.tmp 20) (.tmp 21) 22 3 5 (.int .u8 0) 1 rfl Try.underlying22 Try.underlying3 finfo5 rfl (by decide) (by omega) (.slice none 0 0) [] 0 n (fun _ => True) rfl rfl ?hz (fun _ _ => trivial) (Kd.R_nil _ _ _ _ _) h0 (Below.refl _ _) (Nat.le_refl _) ?hl ?_; (case hz => exact rfl); (case hl => simp; omega); intro v1 w1 ho hb hg hat; clear hg hat; obtain ⟨A, c, rfl⟩ := Kd.R_slice ho; have HO := Aside0.mk (own_none ho); have HB := Aside0.mk hb; have hcut2 := cut_to (P := Try.prog) 22 5 .i64 Try.underlying22 hi A (([] : List Int) ++ List.replicate n.toNat 0).length c 0 (by omega) (by omega) (Kd.R_reads' ho).2.1; clear ho hb)
    go_ret
    exact ⟨_, rfl, HO.out, HB.out⟩
  · obtain rfl : n = 0 := by omega
    go_enter Try.func49, Try.ntmps49
    go_wp2
    go_ret
    exact ⟨_, rfl, Kd.R_nil _ _ _ _ _, Below.refl _ _⟩

/-- A row of rows that is read: element j. -/
theorem at_row {w : World} {A : Option Addr} {n : Nat} {xs : List (List Int)} (h : Kd.C (Kd.slice 5 (Kd.int .u8)) w A n xs) (j : Int) (h0 : 0 ≤ j) (h1 : j < n) :
    ∃ ad B c, A = some ad ∧ w.cell? (ad.add j.toNat) = some (.slice B (xs.getD j.toNat []).length c) ∧ (xs.getD j.toNat []).length ≤ c ∧ Kd.C (Kd.int .u8) w B (xs.getD j.toNat []).length (xs.getD j.toNat []) := by
  obtain ⟨ad, cs, e, _, ⟨B, c, e2, hl, hC⟩, hc⟩ := Kd.C_get h [] j h0 h1
  refine ⟨ad, B, c, e, ?_, hl, hC⟩
  have := hc 0 (.slice B (xs.getD j.toNat []).length c) (by rw [e2]; rfl)
  have e3 : j.toNat * (Kd.slice 5 (Kd.int .u8)).sz + 0 = j.toNat := by show j.toNat * 1 + 0 = _; omega
  rw [e3] at this; exact this
def slices_Concat_byte_byte.f (l0 : List (List Int)) : Option (List Int) := if l0.flatten.length ≤ 140737488355328 then some l0.flatten else none
theorem pre_succ (l : List (List Int)) (j : Int) (h0 : 0 ≤ j) (h1 : j < l.length) : (l.take (j + 1).toNat).flatten = (l.take j.toNat).flatten ++ l.getD j.toNat [] := by
  have hi : j.toNat < l.length := by omega
  have e : (j + 1).toNat = j.toNat + 1 := by omega
  rw [e, List.take_succ_eq_append_getElem hi, List.flatten_append]; simp [List.getD_eq_getElem?_getD, hi]
theorem pre_le (l : List (List Int)) (j : Nat) : (l.take j).flatten.length ≤ l.flatten.length := by
  have := List.take_append_drop j l
  have h2 : l.flatten = (l.take j).flatten ++ (l.drop j).flatten := by rw [← List.flatten_append, this]
  rw [h2, List.length_append]; omega
def preLen (l : List (List Int)) (j : Int) : Int := ((l.take j.toNat).flatten.length : Int)
theorem preLen_succ (l : List (List Int)) (j : Int) (h0 : 0 ≤ j) (h1 : j < l.length) : preLen l (j + 1) = preLen l j + ((l.getD j.toNat []).length : Int) := by
  unfold preLen; rw [pre_succ l j h0 h1, List.length_append]; omega
theorem preLen_le (l : List (List Int)) (j : Int) : 0 ≤ preLen l j ∧ preLen l j ≤ (l.flatten.length : Int) := by
  have := pre_le l j.toNat; unfold preLen; omega
theorem preLen_all (l : List (List Int)) (j : Int) (h : l.length ≤ j) : preLen l j = (l.flatten.length : Int) := by
  unfold preLen; rw [List.take_of_length_le (by omega)]
set_option maxHeartbeats 8000000 in
set_option maxRecDepth 100000 in
theorem slices_Concat_byte_byte.calls (A0 : Option Addr) (c0 : Nat) (l0 : List (List Int)) (r : List Int) (w : World) (hr0 : Kd.C (Kd.slice 5 (Kd.int .u8)) w A0 l0.length l0) (hc0 : l0.length ≤ c0) (h : slices_Concat_byte_byte.f l0 = some r) :
    Calls Try.prog 37 #[.slice A0 l0.length c0] w fun e w' => ∃ v0_ : Value, e = .returned (v0_) ∧ Kd.R (Kd.int .u8) 5 w' w.heap.size (fun _ => True) v0_ r ∧ Below w.heap.size w w' := by
  unfold slices_Concat_byte_byte.f at h
  split at h
  case isFalse => exact absurd h (by simp)
  case isTrue hbound =>
  obtain rfl := Option.some.inj h
  clear h
  have HR0 := Aside0.mk hr0
  have HB := Aside0.mk (Below.refl w.heap.size w)
  have hlen : (l0.length : Int) ≤ 9223372036854775807 := by have := hr0.2.1; omega
  clear hr0
  go_enter Try.func37, Try.ntmps37
  go_wp2
  go_loop [3, 11] (fun v3 v11 => ∃ j : Int, v11 = .int .i64 j ∧ v3 = .int .i64 (preLen l0 j) ∧ 0 ≤ j ∧ j ≤ (l0.length : Int)) (fun _ v11 => ((l0.length : Int) - intOf v11).toNat)
  case atStart => exact ⟨0, rfl, rfl, by omega, by omega⟩
  case round =>
    obtain ⟨j, rfl, rfl, hj0, hj1⟩ := hrel
    by_cases hj2 : j < (l0.length : Int)
    · obtain ⟨ad, B, c, e, hx, hxl, hxC⟩ := at_row HR0.out j hj0 hj2
      subst e
      have HP := Aside0.mk (preLen_succ l0 j hj0 hj2)
      have hle := preLen_le l0 (j + 1)
      have hge := preLen_le l0 j
      rw [HP.out] at hle
      obtain ⟨row, hrow⟩ : ∃ row, row = l0.getD j.toNat [] := ⟨_, rfl⟩
      rw [← hrow] at HP hle hx hxl
      clear hrow hxC
      obtain ⟨hge0, hge1⟩ := hge
      obtain ⟨hle0, hle1⟩ := hle
      have hle2 : preLen l0 j + (row.length : Int) ≤ 140737488355328 := by omega
      clear hle1 hge1
      go_wp2
      go_round
      case rel => exact ⟨j + 1, by go_num, by rw [HP.out], by omega, by omega⟩
      case measure => simp [intOf]; omega
    · have HE := Aside0.mk (preLen_all l0 j (by omega))
      rw [HE.out]
      clear HE
      obtain ⟨L, hL⟩ : ∃ L : Int, L = (l0.flatten.length : Int) := ⟨_, rfl⟩
      rw [← hL]
      have hL1 : 0 ≤ L := by omega
      have hL2 : L ≤ 140737488355328 := by omega
      have HL := Aside0.mk hL
      clear hL hbound
      go_wp2_with (go_at_call 49; refine (grow_nil L _ hL1 hL2).mono ?_; rintro e w1 ⟨v, rfl, ho, hb⟩; have HO := Aside0.mk ho; clear HB; have HB := Aside0.mk hb; clear ho hb)
      go_loopw [6, 27] (fun v6 v27 W' => ∃ j : Int, v27 = .int .i64 j ∧ 0 ≤ j ∧ j ≤ (l0.length : Int) ∧ Aside0 (Kd.R (Kd.int .u8) 5 W' w.heap.size (fun _ => True) v6 (l0.take j.toNat).flatten) ∧ Aside0 (Below w.heap.size w W')) (fun _ v27 _ => ((l0.length : Int) - intOf v27).toNat)
      case atStart => exact ⟨0, rfl, by omega, by omega, HO, HB⟩
      case round =>
        clear HO HB
        obtain ⟨j, rfl, hj0, hj1, HO, HB⟩ := hrel
        by_cases hj2 : j < (l0.length : Int)
        · obtain ⟨ad, B, c, e, hx, hxl, hxC⟩ := at_row HR0.out j hj0 hj2
          subst e
          have hx1 := (HB.out.cell (World.block_lt_of_cell? w _ hx)).trans hx
          clear hx
          have HXC := Aside0.mk (Kd.C_below hxC HB.out)
          clear hxC
          have HP := Aside0.mk (pre_succ l0 j hj0 hj2)
          have hle := pre_le l0 (j + 1).toNat
          rw [HP.out, List.length_append] at hle
          have hle3 := HL.out
          obtain ⟨acc, hacc⟩ : ∃ acc, acc = (l0.take j.toNat).flatten := ⟨_, rfl⟩
          obtain ⟨row, hrow⟩ : ∃ row, row = l0.getD j.toNat [] := ⟨_, rfl⟩
          rw [← hacc, ← hrow] at HP hle
          rw [← hacc] at HO
          rw [← hrow] at hx1 hxl HXC
          have hle2 : acc.length + row.length ≤ 140737488355328 := by omega
          clear hacc hrow hle hle3
          go_wp2_with (at_builtin; refine Kd.R_append_rows (Kd.int .u8) (w0 := w) w.heap.size rfl (.tmp 31) (.tmp 32) 22 5 (.int .u8 0) 1 rfl Try.underlying22 finfo5 rfl (by decide) (by omega) u6 acc row _ _ _ (fun _ => True) (fun _ => False) rfl rfl ?aO ?aR (fun _ _ h => h) (fun _ h => h.elim) ?aF ?aB ?aS ?aL ?_; (case aR => exact HXC.out); (case aB => exact HB.out); (case aF => exact (fun _ _ => trivial)); (case aO => exact HO.out); (case aS => exact HB.out.size); (case aL => omega); intro v1 w2 ho hb hg hat; have HO1 := Aside0.mk ho; have HB1 := Aside0.mk hb; clear ho hb hg hat)
          go_roundw
          case rel => exact ⟨j + 1, by go_num, by omega, by omega, ⟨by rw [HP.out]; exact HO1.out⟩, HB1⟩
          case measure => simp [intOf]; omega
        · have hje : j.toNat = l0.length := by omega
          have HE := Aside0.mk (show l0.take j.toNat = l0 by rw [hje, List.take_length])
          clear hje
          rw [HE.out] at HO
          clear HE
          go_wp2
          go_ret
          exact ⟨_, rfl, HO.out, HB.out⟩
end Go.Proofs.Ytbaedfpimlfonaa.Q
