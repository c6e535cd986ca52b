/- seal.Unpack, whose bits are read by a closure: what it returns, for every list of widths and every bytes; no condition beyond the statement's. -/
import Derived.Test.YtbaedfpimlfonaaQ1
import Derived.OneCell
namespace Go.Proofs.Ytbaedfpimlfonaa.Q
open Go.RowKit Go.Proofs.YtbaedfpimlfonaaW.PrintWords Go.Proofs.YtbaedfpimlfonaaW.PrintLast Go.Proofs.YtbaedfpimlfonaaW.PrintMore
set_option linter.unusedVariables false
set_option linter.unusedSimpArgs false
def ubit (b : List Int) (i : Int) : Int := IntKind.u64.wrap (bits .and .u8 (rd b (i / 8) / 2 ^ (7 - i % 8).toNat) 1)
def utail (b : List Int) : Nat → Int → Bool
  | 0, _ => true
  | n + 1, i => if ubit b i = 0 then utail b n (i + 1) else false
def uval (b : List Int) : Nat → Int → Int → Int
  | 0, _, v => v
  | n + 1, i, v => uval b n (i + 1) (bits .or .u64 (IntKind.u64.wrap (v * 2)) (ubit b i))
def uvals (b : List Int) : List Int → Int → List Int → List Int
  | [], _, acc => acc
  | x :: xs, i, acc => uvals b xs (i + x) (acc ++ [uval b x.toNat i 0])
def seal_Unpack.f (k : Nat) (l0 : List Int) (l1 : List Int) : Option (List Int × Int) :=
  (seal_total.f k l0).bind fun t => if t.2 ≠ 0 then some ([], t.2) else
    if (l1.length : Int) ≠ (t.1 + 7) / 8 then some ([], 3) else
    if utail l1 (8 * (l1.length : Int) - t.1).toNat t.1 = false then some ([], 1) else some (uvals l1 l0 0 [], 0)
theorem seal_Unpack.mono : ∀ a0 a1 k, LeO (seal_Unpack.f k a0 a1) (seal_Unpack.f (k + 1) a0 a1) := by
  intro a0 a1 k
  unfold seal_Unpack.f
  exact LeO.bind (seal_total.mono _ _) (fun _ => LeO.refl _)


theorem total_l0 : ∀ (k : Nat) (x4 : Int) (l : List Int) (i n e : Int), 0 ≤ i → i ≤ l.length → l.length ≤ 64 → 0 ≤ x4 → x4 ≤ 64 * i →
    seal_total.l0 k x4 l (l.length : Int) i = some (n, e) →
    (e = 0 ∧ n = x4 + (l.drop i.toNat).sum ∧ (∀ x ∈ l.drop i.toNat, 1 ≤ x ∧ x ≤ 64)) ∨ (e = 1 ∧ n = 0) := by
  intro k
  induction k with
  | zero => intro x4 l i n e _ _ _ _ _ h; simp [seal_total.l0] at h
  | succ k ih =>
    intro x4 l i n e h0 h1 h2 h3 h4 h
    simp only [seal_total.l0] at h
    by_cases c : i < (l.length : Int)
    · rw [if_pos c, if_pos h0, if_pos c] at h
      have hi : i.toNat < l.length := by omega
      have hd : l.drop i.toNat = rd l i :: l.drop (i.toNat + 1) := by
        rw [List.drop_eq_getElem_cons hi]; simp [rd, List.getD_eq_getElem?_getD, hi]
      by_cases c1 : rd l i < 1
      · rw [if_pos c1] at h; simp only [Option.some.injEq, Prod.mk.injEq] at h; right; omega
      · rw [if_neg c1] at h
        by_cases c2 : rd l i > 64
        · rw [if_pos c2] at h; simp only [Option.some.injEq, Prod.mk.injEq] at h; right; omega
        · rw [if_neg c2] at h
          have e1 : wrap64 (x4 + rd l i) = x4 + rd l i := by unfold wrap64; omega
          have e2 : wrap64 (i + 1) = i + 1 := by unfold wrap64; omega
          rw [e1, e2] at h
          rcases ih _ _ _ _ _ (by omega) (by omega) h2 (by omega) (by omega) h with ⟨a, b, c⟩ | h
          · left
            have e3 : (i + 1).toNat = i.toNat + 1 := by omega
            rw [e3] at b c
            refine ⟨a, ?_, ?_⟩
            · rw [hd, List.sum_cons]; omega
            · rw [hd]; intro x hx
              rcases List.mem_cons.1 hx with rfl | hx
              · omega
              · exact c x hx
          · exact .inr h
    · rw [if_neg c] at h
      simp only [Option.some.injEq, Prod.mk.injEq] at h
      left
      have : l.drop i.toNat = [] := List.drop_eq_nil_iff.2 (by omega)
      rw [this]
      refine ⟨by omega, by simp; omega, by simp⟩

theorem sum_le : ∀ (l : List Int), (∀ x ∈ l, 1 ≤ x ∧ x ≤ 64) → 0 ≤ l.sum ∧ l.sum ≤ 64 * l.length
  | [], _ => by simp
  | x :: l, h => by
    have := sum_le l (fun y hy => h y (List.mem_cons_of_mem _ hy))
    have := h x (List.mem_cons_self ..)
    simp only [List.sum_cons, List.length_cons]; omega

theorem total_f (k : Nat) (l : List Int) (n e : Int) (h : seal_total.f k l = some (n, e)) :
    (e = 0 ∧ n = l.sum ∧ l.length ≤ 64 ∧ (∀ x ∈ l, 1 ≤ x ∧ x ≤ 64)) ∨ (e = 1 ∧ n = 0) := by
  unfold seal_total.f at h
  by_cases c : (l.length : Int) > 64
  · rw [if_pos c] at h; simp only [Option.some.injEq, Prod.mk.injEq] at h; right; omega
  · rw [if_neg c] at h
    rcases total_l0 k 0 l 0 n e (by omega) (by omega) (by omega) (by omega) (by omega) h with ⟨a, b, c⟩ | h
    · left; simp at b c; exact ⟨a, b, by omega, c⟩
    · exact .inr h

theorem bit_calls (at_ : Int) (B : Nat) (A : Option Addr) (c : Nat) (l1 : List Int) (w : World) (hbox : w.cell? ⟨B, 0, none⟩ = some (.slice A l1.length c))
    (hr : Kd.C (Kd.int .u8) w A l1.length l1) (h0 : 0 ≤ at_) (h1 : at_ < 8 * l1.length) (h2 : at_ < 1000000) :
    Calls Try.prog 36 #[.int .i64 at_, .pointer (some ⟨B, 0, none⟩)] w fun e w' => e = .returned (.int .u64 (ubit l1 at_)) ∧ w = w' := by
  have p1 : 0 ≤ at_ / 8 := by omega
  have q1 : at_ / 8 < (l1.length : Int) := by omega
  obtain ⟨ad, e, hx⟩ := Kd.at_int hr (at_ / 8) p1 q1
  subst e
  clear hr
  go_enter Try.func36, Try.ntmps36
  go_wp2
  go_ret
  exact ⟨rfl, rfl⟩

set_option maxHeartbeats 8000000 in
set_option maxRecDepth 100000 in
theorem unpack_bad (k : Nat) (A0 : Option Addr) (c0 : Nat) (l0 : List Int) (A1 : Option Addr) (c1 : Nat) (l1 : List Int) (n e : Int) (w : World) (hr0 : Kd.C (Kd.int .i64) w A0 l0.length l0) (hc0 : l0.length ≤ c0) (ht : seal_total.f k l0 = some (n, e)) (he : e ≠ 0) :
    Calls Try.prog 8 #[.slice A0 l0.length c0, .slice A1 l1.length c1] w fun e' w' => e' = .returned (.tuple #[.slice none 0 0, .int .i64 e]) ∧ Below w.heap.size w w' := by
  have HR0 := Aside0.mk hr0
  have HC0 := Aside0.mk hc0
  have HT := Aside0.mk ht
  have hb0 : (e != 0) = true := bne_iff_ne.2 he
  clear hr0 hc0 ht he
  go_enter Try.func8, Try.ntmps8
  go_wp2_with (go_at_call 34; refine (seal_total.calls k _ _ l0 n e _ ?s1 ?s2 HT.out).mono ?_; (case s1 => exact Kd.C_alloc HR0.out _); (case s2 => exact HC0.out); rintro e w' ⟨rfl, ⟨nd, rfl⟩⟩)
  go_ret2
  exact ⟨rfl, pw_below_drewN (below_alloc (Below.refl _ _) _) _⟩

set_option maxHeartbeats 8000000 in
set_option maxRecDepth 100000 in
theorem unpack_long (k : Nat) (A0 : Option Addr) (c0 : Nat) (l0 : List Int) (A1 : Option Addr) (c1 : Nat) (l1 : List Int) (n : Int) (w : World) (hr0 : Kd.C (Kd.int .i64) w A0 l0.length l0) (hc0 : l0.length ≤ c0) (ht : seal_total.f k l0 = some (n, 0)) (hn : 0 ≤ n ∧ n ≤ 4096) (he : (l1.length : Int) ≠ (n + 7) / 8) :
    Calls Try.prog 8 #[.slice A0 l0.length c0, .slice A1 l1.length c1] w fun e' w' => e' = .returned (.tuple #[.slice none 0 0, .int .i64 3]) ∧ Below w.heap.size w w' := by
  have HR0 := Aside0.mk hr0
  have HC0 := Aside0.mk hc0
  have HT := Aside0.mk ht
  obtain ⟨hn0, hn1⟩ := hn
  have hb0 : ((l1.length : Int) != (n + 7) / 8) = true := bne_iff_ne.2 he
  clear hr0 hc0 ht he
  go_enter Try.func8, Try.ntmps8
  go_wp2_with (go_at_call 34; refine (seal_total.calls k _ _ l0 n 0 _ ?s1 ?s2 HT.out).mono ?_; (case s1 => exact Kd.C_alloc HR0.out _); (case s2 => exact HC0.out); rintro e w' ⟨rfl, ⟨nd, rfl⟩⟩)
  go_ret2
  exact ⟨rfl, pw_below_drewN (below_alloc (Below.refl _ _) _) _⟩


theorem box_new {w W : World} {v : Value} {t : TypeId} (hv : v.cells = #[v]) (h : Drawn0 (w.alloc (.cells #[v] t)) W) : W.heap[w.heap.size]? = some (.cells #[v] t (0, 0)) := by
  rw [h.below.block _ (by simp)]
  show (w.heap.push _)[w.heap.size]? = _
  simp
theorem utail_zero (b : List Int) (i : Int) (h : (utail b (8 * (b.length : Int) - i).toNat i) = false) (hi : i ≤ 8 * b.length) : i < 8 * b.length := by
  by_cases c : i < 8 * b.length
  · exact c
  · have : (8 * (b.length : Int) - i).toNat = 0 := by omega
    rw [this] at h; simp [utail] at h
theorem utail_succ (b : List Int) (i : Int) (hi : i < 8 * b.length) : utail b (8 * (b.length : Int) - i).toNat i = if ubit b i = 0 then utail b (8 * (b.length : Int) - (i + 1)).toNat (i + 1) else false := by
  have : (8 * (b.length : Int) - i).toNat = (8 * (b.length : Int) - (i + 1)).toNat + 1 := by omega
  rw [this]; rfl

set_option maxHeartbeats 8000000 in
set_option maxRecDepth 100000 in
theorem unpack_tail (k : Nat) (A0 : Option Addr) (c0 : Nat) (l0 : List Int) (A1 : Option Addr) (c1 : Nat) (l1 : List Int) (n : Int) (w : World) (hr0 : Kd.C (Kd.int .i64) w A0 l0.length l0) (hc0 : l0.length ≤ c0) (hr1 : Kd.C (Kd.int .u8) w A1 l1.length l1) (ht : seal_total.f k l0 = some (n, 0)) (hn : 0 ≤ n ∧ n ≤ 4096) (he : (l1.length : Int) = (n + 7) / 8)
    (hu : utail l1 (8 * (l1.length : Int) - n).toNat n = false) :
    Calls Try.prog 8 #[.slice A0 l0.length c0, .slice A1 l1.length c1] w fun e' w' => e' = .returned (.tuple #[.slice none 0 0, .int .i64 1]) ∧ Below w.heap.size w w' := by
  have HR0 := Aside0.mk hr0
  have HR1 := Aside0.mk hr1
  have HC0 := Aside0.mk hc0
  have HT := Aside0.mk ht
  have HU := Aside0.mk hu
  obtain ⟨hn0, hn1⟩ := hn
  have hb0 : ((l1.length : Int) != (n + 7) / 8) = false := bne_eq_false_iff_eq.2 he
  have hl1 : (l1.length : Int) ≤ 512 := by omega
  have hl2 : n ≤ 8 * (l1.length : Int) := by omega
  clear hr0 hc0 ht he hr1 hu
  have hmf : ∀ (fn : Fn) (first cap : Array Value) (w : World), (Instr.makeFunc fn first cap).run Try.prog w = .ok (.func fn first cap) w := fun _ _ _ _ => rfl
  go_enter Try.func8, Try.ntmps8
  go_wp2_with (go_at_call 34; refine (seal_total.calls k _ _ l0 n 0 _ ?s1 ?s2 HT.out).mono ?_; (case s1 => exact Kd.C_alloc HR0.out _); (case s2 => exact HC0.out); rintro e W ⟨rfl, hd⟩; have HB := Aside0.mk ((below_alloc (Below.refl w.heap.size w) _).trans (hd.below.mono (by simp))); have HX := Aside0.mk (box_new rfl hd); have hbox : W.cell? ⟨w.heap.size, 0, none⟩ = some (.slice A1 l1.length c1) := cell_of_one HX.out; have HC1 := Aside0.mk (Kd.C_below HR1.out HB.out); clear hd)
  go_loop [9] (fun v9 => ∃ i : Int, v9 = .int .i64 i ∧ n ≤ i ∧ i ≤ 8 * (l1.length : Int) ∧ Aside0 (utail l1 (8 * (l1.length : Int) - i).toNat i = false)) (fun v9 => (8 * (l1.length : Int) - intOf v9).toNat)
  case atStart => exact ⟨n, rfl, Int.le_refl _, hl2, HU⟩
  case round =>
    obtain ⟨i, rfl, hi0, hi1, HUi⟩ := hrel
    have hi2 := utail_zero l1 i HUi.out hi1
    have HV := Aside0.mk (utail_succ l1 i hi2)
    by_cases hb : ubit l1 i = 0
    · have hb1 : (ubit l1 i != 0) = false := bne_eq_false_iff_eq.2 hb
      have HB2 := Aside0.mk hb
      clear hb
      go_wp2_with (go_at_call 36; refine (bit_calls i w.heap.size A1 c1 l1 _ hbox HC1.out (by omega) hi2 (by omega)).mono ?_; rintro e w' ⟨rfl, rfl⟩)
      go_round
      case rel => exact ⟨i + 1, rfl, by omega, by omega, ⟨by have := HV.out; rw [if_pos HB2.out] at this; rw [← this]; exact HUi.out⟩⟩
      case measure => simp [intOf]; omega
    · have hb1 : (ubit l1 i != 0) = true := bne_iff_ne.2 hb
      clear hb
      go_wp2_with (go_at_call 36; refine (bit_calls i w.heap.size A1 c1 l1 _ hbox HC1.out (by omega) hi2 (by omega)).mono ?_; rintro e w' ⟨rfl, rfl⟩)
      go_ret2
      exact ⟨rfl, HB.out⟩

theorem finfo26 : (Try.prog.info? 26).map (fun i => (i.zero, i.size, i.bytes)) = some (some (.int .u64 0), 1, 8) := by kernel_rfl
theorem uval_succ (b : List Int) (x j at_ v : Int) (h0 : 0 ≤ j) (h : j < x) : uval b (x - j).toNat (at_ + j) v = uval b (x - (j + 1)).toNat (at_ + (j + 1)) (bits .or .u64 (IntKind.u64.wrap (v * 2)) (ubit b (at_ + j))) := by
  have : (x - j).toNat = (x - (j + 1)).toNat + 1 := by omega
  rw [this]
  show uval b _ (at_ + j + 1) _ = _
  rw [Int.add_assoc]
theorem uval_done (b : List Int) (x j at_ v : Int) (h : ¬ j < x) (h1 : j ≤ x) : uval b (x - j).toNat (at_ + j) v = v := by
  have : (x - j).toNat = 0 := by omega
  rw [this]; rfl
theorem drop_rd (l : List Int) (i : Int) (h0 : 0 ≤ i) (h : i < l.length) : l.drop i.toNat = rd l i :: l.drop (i + 1).toNat := by
  have hi : i.toNat < l.length := by omega
  have e : (i + 1).toNat = i.toNat + 1 := by omega
  rw [List.drop_eq_getElem_cons hi, e]; simp [rd, List.getD_eq_getElem?_getD, hi]
theorem rd_mem (l : List Int) (i : Int) (h0 : 0 ≤ i) (h : i < l.length) : rd l i ∈ l := by
  have hi : i.toNat < l.length := by omega
  simp [rd, List.getD_eq_getElem?_getD, hi]

set_option maxHeartbeats 8000000 in
set_option maxRecDepth 100000 in
theorem unpack_ok (k : Nat) (A0 : Option Addr) (c0 : Nat) (l0 : List Int) (A1 : Option Addr) (c1 : Nat) (l1 : List Int) (n : Int) (w : World) (hr0 : Kd.C (Kd.int .i64) w A0 l0.length l0) (hc0 : l0.length ≤ c0) (hr1 : Kd.C (Kd.int .u8) w A1 l1.length l1) (ht : seal_total.f k l0 = some (n, 0)) (hn : 0 ≤ n ∧ n ≤ 4096) (he : (l1.length : Int) = (n + 7) / 8)
    (hs : n = l0.sum) (hlen : l0.length ≤ 64) (hw : ∀ x ∈ l0, 1 ≤ x ∧ x ≤ 64)
    (hu : utail l1 (8 * (l1.length : Int) - n).toNat n = true) :
    Calls Try.prog 8 #[.slice A0 l0.length c0, .slice A1 l1.length c1] w fun e' w' => ∃ v0_ : Value, e' = .returned (.tuple #[v0_, .int .i64 0]) ∧ Kd.R (Kd.int .u64) 26 w' w.heap.size (fun _ => True) v0_ (uvals l1 l0 0 []) ∧ Below w.heap.size w w' := by
  have HR0 := Aside0.mk hr0
  have HR1 := Aside0.mk hr1
  have HC0 := Aside0.mk hc0
  have HT := Aside0.mk ht
  have HU := Aside0.mk hu
  have HW := Aside0.mk hw
  have HS := Aside0.mk hs
  obtain ⟨hn0, hn1⟩ := hn
  have hb0 : ((l1.length : Int) != (n + 7) / 8) = false := bne_eq_false_iff_eq.2 he
  have hl1 : (l1.length : Int) ≤ 512 := by omega
  have hl2 : n ≤ 8 * (l1.length : Int) := by omega
  clear hr0 hc0 ht he hr1 hu hw hs
  have hmf : ∀ (fn : Fn) (first cap : Array Value) (w : World), (Instr.makeFunc fn first cap).run Try.prog w = .ok (.func fn first cap) w := fun _ _ _ _ => rfl
  go_enter Try.func8, Try.ntmps8
  go_wp2_with (go_at_call 34; refine (seal_total.calls k _ _ l0 n 0 _ ?s1 ?s2 HT.out).mono ?_; (case s1 => exact Kd.C_alloc HR0.out _); (case s2 => exact HC0.out); rintro e W ⟨rfl, hd⟩; have HB := Aside0.mk ((below_alloc (Below.refl w.heap.size w) _).trans (hd.below.mono (by simp))); have HX := Aside0.mk (box_new rfl hd); have hbox : W.cell? ⟨w.heap.size, 0, none⟩ = some (.slice A1 l1.length c1) := cell_of_one HX.out; have HC1 := Aside0.mk (Kd.C_below HR1.out HB.out); clear hd)
  go_loop [9] (fun v9 => ∃ i : Int, v9 = .int .i64 i ∧ n ≤ i ∧ i ≤ 8 * (l1.length : Int) ∧ Aside0 (utail l1 (8 * (l1.length : Int) - i).toNat i = true)) (fun v9 => (8 * (l1.length : Int) - intOf v9).toNat)
  case atStart => exact ⟨n, rfl, Int.le_refl _, hl2, HU⟩
  case round =>
    obtain ⟨i, rfl, hi0, hi1, HUi⟩ := hrel
    by_cases hi2 : i < 8 * (l1.length : Int)
    · have HV := Aside0.mk (utail_succ l1 i hi2)
      have hb : ubit l1 i = 0 := by
        have h1 := HV.out; rw [HUi.out] at h1
        by_cases c : ubit l1 i = 0
        · exact c
        · rw [if_neg c] at h1; exact absurd h1 (by simp)
      have hb1 : (ubit l1 i != 0) = false := bne_eq_false_iff_eq.2 hb
      have HB2 := Aside0.mk hb
      clear hb
      go_wp2_with (go_at_call 36; refine (bit_calls i w.heap.size A1 c1 l1 _ hbox HC1.out (by omega) hi2 (by omega)).mono ?_; rintro e w' ⟨rfl, rfl⟩)
      go_round
      case rel => exact ⟨i + 1, rfl, by omega, by omega, ⟨by have := HV.out; rw [if_pos HB2.out] at this; rw [← this]; exact HUi.out⟩⟩
      case measure => simp [intOf]; omega
    · clear HUi HU
      go_wp2
      clear hbox HC1
      go_loopw [10, 11, 44] (fun v10 v11 v44 W' => ∃ (acc : List Int) (at_ i : Int), v11 = .int .i64 at_ ∧ v44 = .int .i64 i ∧ 0 ≤ i ∧ i ≤ (l0.length : Int) ∧ 0 ≤ at_ ∧ Aside0 (at_ + (l0.drop i.toNat).sum = n) ∧ Aside0 ((acc.length : Int) = i) ∧ Aside0 (uvals l1 (l0.drop i.toNat) at_ acc = uvals l1 l0 0 []) ∧ Aside0 (Kd.R (Kd.int .u64) 26 W' w.heap.size (fun _ => True) v10 acc) ∧ Aside0 (Below w.heap.size w W') ∧ Aside0 (W'.heap[w.heap.size]? = some (.cells #[.slice A1 l1.length c1] 22 (0, 0)))) (fun _ _ v44 _ => ((l0.length : Int) - intOf v44).toNat)
      case atStart => exact ⟨[], 0, 0, rfl, rfl, by omega, by omega, by omega, ⟨by simp [HS.out]⟩, ⟨rfl⟩, ⟨rfl⟩, ⟨Kd.R_nil _ _ _ _ _⟩, HB, HX⟩
      case round =>
        clear HB HX
        obtain ⟨acc, at_, j, rfl, rfl, hj0, hj1, hat0, HSj, HLj, HUj, HO, HB, HX⟩ := hrel
        have HC1 := Aside0.mk (Kd.C_below HR1.out HB.out)
        have hbox : wr.cell? ⟨w.heap.size, 0, none⟩ = some (.slice A1 l1.length c1) := cell_of_one HX.out
        by_cases hj2 : j < (l0.length : Int)
        · obtain ⟨ad, e, hx⟩ := Kd.at_int HR0.out j hj0 hj2
          cases e
          have hx1 := (HB.out.cell (World.block_lt_of_cell? w _ hx)).trans hx
          clear hx
          obtain ⟨X, hX⟩ : ∃ X : Int, X = rd l0 j := ⟨_, rfl⟩
          rw [← hX] at hx1
          have hXb := HW.out _ (rd_mem l0 j hj0 hj2)
          have HD := Aside0.mk (drop_rd l0 j hj0 hj2)
          rw [← hX] at hXb HD
          have HXX := Aside0.mk hX
          clear hX
          obtain ⟨hX0, hX1⟩ := hXb
          have hsum : at_ + X ≤ n := by
            have h1 := HSj.out
            rw [HD.out, List.sum_cons] at h1
            have h2 := sum_le (l0.drop (j + 1).toNat) (fun y hy => HW.out y (List.mem_of_mem_drop hy))
            omega
          go_wp2
          go_loop [11, 14, 49] (fun v11 v14 v49 => ∃ (v m : Int), v11 = .int .i64 (at_ + m) ∧ v14 = .int .u64 v ∧ v49 = .int .i64 m ∧ 0 ≤ m ∧ m ≤ X ∧ Aside0 (uval l1 (X - m).toNat (at_ + m) v = uval l1 X.toNat at_ 0)) (fun _ _ v49 => (X - intOf v49).toNat)
          case atStart => exact ⟨0, 0, by go_num, rfl, rfl, by omega, by omega, ⟨by simp⟩⟩
          case round =>
            obtain ⟨v, m, rfl, rfl, rfl, hm0, hm1, HUm⟩ := hrel
            by_cases hm2 : m < X
            · go_wp2_with (go_at_call 36; refine (bit_calls (at_ + m) w.heap.size A1 c1 l1 _ hbox HC1.out (by omega) (by omega) (by omega)).mono ?_; rintro e w' ⟨rfl, rfl⟩)
              go_round
              case rel => exact ⟨_, m + 1, by go_num, rfl, by go_num, by omega, by omega, ⟨by rw [← uval_succ l1 X m at_ v hm0 hm2]; exact HUm.out⟩⟩
              case measure => simp [intOf]; omega
            · have HV := Aside0.mk (uval_done l1 X m at_ v hm2 hm1)
              have hmX : m = X := by omega
              subst hmX
              go_wp2_with (at_builtin; refine Kd.R_append (Kd.int .u64) (w0 := w) w.heap.size rfl (.tmp 60) (.tmp 62) 23 26 (.int .u64 0) 8 rfl Try.underlying23 finfo26 rfl (by decide) (by omega) u10 acc v [.int .u64 v] (fun _ => True) (fun _ => False) rfl rfl ?aP (fun _ hk => hk.elim) ?aF ?aO ?aB ?aS ?aL ?_; (case aP => exact rfl); (case aB => exact HB.out); (case aF => exact (fun _ _ => trivial)); (case aO => exact HO.out); (case aS => exact HB.out.size); (case aL => have := HLj.out; omega); intro v1 w1 ho hb hg hat; have HO1 := Aside0.mk ho; have HB1 := Aside0.mk hb; have HX1 := Aside0.mk ((hg.block _ (Array.getElem?_eq_some_iff.1 HX.out).1 (fun e => (Kd.R_ne HO.out HX.out (by decide)) e)).trans HX.out); clear ho hb hg hat)
              go_roundw
              case rel => exact ⟨acc ++ [v], at_ + m, j + 1, rfl, rfl, by omega, by omega, by omega, ⟨by have h1 := HSj.out; rw [HD.out, List.sum_cons] at h1; omega⟩, ⟨by have := HLj.out; simp; omega⟩, ⟨by rw [← HUj.out, HD.out]; show _ = uvals l1 _ _ (acc ++ [uval l1 m.toNat at_ 0]); rw [← HUm.out, HV.out]⟩, HO1, HB1, HX1⟩
              case measure => simp [intOf]; omega
        · go_wp2
          go_ret2
          exact ⟨_, rfl, by have h1 := HUj.out; have h2 : l0.drop j.toNat = [] := List.drop_eq_nil_iff.2 (by omega); rw [h2] at h1; rw [← h1]; exact HO.out, HB.out⟩

theorem seal_Unpack.calls (k : Nat) (A0 : Option Addr) (c0 : Nat) (l0 : List Int) (A1 : Option Addr) (c1 : Nat) (l1 : List Int) (r1 : List Int) (r2 : Int) (w : World) (hr0 : Kd.C (Kd.int .i64) w A0 l0.length l0) (hc0 : l0.length ≤ c0) (hr1 : Kd.C (Kd.int .u8) w A1 l1.length l1) (hc1 : l1.length ≤ c1) (h : seal_Unpack.f k l0 l1 = some (r1, r2)) :
    Calls Try.prog 8 #[.slice A0 l0.length c0, .slice A1 l1.length c1] w fun e w' => ∃ v0_ : Value, e = .returned (.tuple #[v0_, .int .i64 r2]) ∧ Kd.R (Kd.int .u64) 26 w' w.heap.size (fun _ => True) v0_ r1 ∧ Below w.heap.size w w' := by
  unfold seal_Unpack.f at h
  obtain ⟨⟨n, e⟩, ht, h⟩ := Option.bind_eq_some_iff.mp h
  dsimp only at h
  by_cases he : e = 0
  · subst he
    rw [if_neg (by simp)] at h
    rcases total_f k l0 n 0 ht with ⟨_, hs, hlen, hw⟩ | ⟨hz, _⟩
    · have hsum := sum_le l0 hw
      have hn : 0 ≤ n ∧ n ≤ 4096 := by omega
      by_cases hl : (l1.length : Int) = (n + 7) / 8
      · rw [if_neg (by simpa using hl)] at h
        by_cases hu : utail l1 (8 * (l1.length : Int) - n).toNat n = false
        · rw [if_pos hu] at h
          simp only [Option.some.injEq, Prod.mk.injEq] at h
          obtain ⟨rfl, rfl⟩ := h
          refine (unpack_tail k A0 c0 l0 A1 c1 l1 n w hr0 hc0 hr1 ht hn hl hu).mono ?_
          rintro e w' ⟨rfl, hb⟩
          exact ⟨_, rfl, Kd.R_nil _ _ _ _ _, hb⟩
        · rw [if_neg hu] at h
          simp only [Option.some.injEq, Prod.mk.injEq] at h
          obtain ⟨rfl, rfl⟩ := h
          exact unpack_ok k A0 c0 l0 A1 c1 l1 n w hr0 hc0 hr1 ht hn hl hs hlen hw (by simpa using hu)
      · rw [if_pos hl] at h
        simp only [Option.some.injEq, Prod.mk.injEq] at h
        obtain ⟨rfl, rfl⟩ := h
        refine (unpack_long k A0 c0 l0 A1 c1 l1 n w hr0 hc0 ht hn hl).mono ?_
        rintro e w' ⟨rfl, hb⟩
        exact ⟨_, rfl, Kd.R_nil _ _ _ _ _, hb⟩
    · exact absurd hz (by omega)
  · rw [if_pos he] at h
    simp only [Option.some.injEq, Prod.mk.injEq] at h
    obtain ⟨rfl, rfl⟩ := h
    refine (unpack_bad k A0 c0 l0 A1 c1 l1 n e w hr0 hc0 ht he).mono ?_
    rintro e w' ⟨rfl, hb⟩
    exact ⟨_, rfl, Kd.R_nil _ _ _ _ _, hb⟩
end Go.Proofs.Ytbaedfpimlfonaa.Q
