-- WRITTEN BY gen.py of this session (a driver round the kit's printer) out of the translation; Lean checks it.
import Derived.Test.YtbaedfpimlfonaaQ0
import Derived.Test.YtbaedfpimlfonaaQ1
import Derived.Test.YtbaedfpimlfonaaQ2
import Derived.Test.YtbaedfpimlfonaaF
import Derived.Test.YtbaedfpimlfonaaF2
namespace Go.Proofs.Ytbaedfpimlfonaa.Q
open Go.RowKit Go.Proofs.YtbaedfpimlfonaaW.PrintWords Go.Proofs.YtbaedfpimlfonaaW.PrintLast Go.Proofs.YtbaedfpimlfonaaW.PrintMore
attribute [local go_sem] max2_int min2_int max_two min_two max_three min_three max_four min_four   -- for this text's walks alone
set_option linter.unusedVariables false
set_option linter.unusedSimpArgs false

/-! ### slipwaytop_TopFields: function 3 -/
mutual
def slipwaytop_TopFields.l0 : Nat → List Int → Int → List Int → List Int → List Bool → Bool → Bool → List Int → Int → Int → Option (Bool)
  | 0, _, _, _, _, _, _, _, _, _, _ => none
  | k + 1, x1, x2, x7, x8, x9, x10, x11, x46, x47, x48 => if x48 < x47 then (if 0 ≤ x48 then (if x48 < (x46.length : Int) then (if x7.length < 17592186044416 then ((some (x7 ++ [wrap64 (Int.tmod (rd x46 x48) 67)] : List Int)).bind fun y121 => (if x10 = true then (if (wrap64 (Int.tmod (rd x46 x48) 67)) ≥ 1 then (slipwaytop_TopFields.j1 k x1 x2 y121 x8 x9 (decide ((wrap64 (Int.tmod (rd x46 x48) 67)) ≤ 64)) x11 x48 (wrap64 (Int.tmod (rd x46 x48) 67)) x46 x47 x48) else (slipwaytop_TopFields.j1 k x1 x2 y121 x8 x9 false x11 x48 (wrap64 (Int.tmod (rd x46 x48) 67)) x46 x47 x48)) else (slipwaytop_TopFields.j1 k x1 x2 y121 x8 x9 false x11 x48 (wrap64 (Int.tmod (rd x46 x48) 67)) x46 x47 x48))) else (none)) else (none)) else (none)) else (if 0 ≤ (wrap64 (Int.tdiv (wrap64 ((x9.length : Int) + 7)) 8)) then (if (wrap64 (Int.tdiv (wrap64 ((x9.length : Int) + 7)) 8) : Int).toNat ≤ 281474976710656 then (slipwaytop_TopFields.l2 k x1 x2 x7 x8 x9 x10 x11 (List.replicate (wrap64 (Int.tdiv (wrap64 ((x9.length : Int) + 7)) 8) : Int).toNat 0) x9 (x9.length : Int) 0) else (none)) else (none))
def slipwaytop_TopFields.j1 : Nat → List Int → Int → List Int → List Int → List Bool → Bool → Bool → Int → Int → List Int → Int → Int → Option (Bool)
  | 0, _, _, _, _, _, _, _, _, _, _, _, _ => none
  | k + 1, x1, x2, x7, x8, x9, x10, x11, x12, x14, x46, x47, x48 => if x12 < (x1.length : Int) then (if 0 ≤ x12 then (slipwaytop_TopFields.j2 k x1 x2 x7 x8 x9 x10 x11 x14 (rd x1 x12) x46 x47 x48) else (none)) else (slipwaytop_TopFields.j2 k x1 x2 x7 x8 x9 x10 x11 x14 0 x46 x47 x48)
def slipwaytop_TopFields.j2 : Nat → List Int → Int → List Int → List Int → List Bool → Bool → Bool → Int → Int → List Int → Int → Int → Option (Bool)
  | 0, _, _, _, _, _, _, _, _, _, _, _, _ => none
  | k + 1, x1, x2, x7, x8, x9, x10, x11, x14, x15, x46, x47, x48 => if x11 = true then (if x14 ≥ 64 then (slipwaytop_TopFields.j3 k x1 x2 x7 x8 x9 x10 true x14 x15 x46 x47 x48) else (if 0 ≤ x14 then (slipwaytop_TopFields.j3 k x1 x2 x7 x8 x9 x10 ((shr .u64 x15 x14) == 0) x14 x15 x46 x47 x48) else (none))) else (slipwaytop_TopFields.j3 k x1 x2 x7 x8 x9 x10 false x14 x15 x46 x47 x48)
def slipwaytop_TopFields.j3 : Nat → List Int → Int → List Int → List Int → List Bool → Bool → Bool → Int → Int → List Int → Int → Int → Option (Bool)
  | 0, _, _, _, _, _, _, _, _, _, _, _, _ => none
  | k + 1, x1, x2, x7, x8, x9, x10, x11, x14, x15, x46, x47, x48 => if x8.length < 17592186044416 then (slipwaytop_TopFields.l1 k x1 x2 x7 (x8 ++ [x15]) x9 x10 x11 x15 (wrap64 (x14 - 1)) x46 x47 x48) else (none)
def slipwaytop_TopFields.l1 : Nat → List Int → Int → List Int → List Int → List Bool → Bool → Bool → Int → Int → List Int → Int → Int → Option (Bool)
  | 0, _, _, _, _, _, _, _, _, _, _, _, _ => none
  | k + 1, x1, x2, x7, x8, x9, x10, x11, x15, x16, x46, x47, x48 => if x16 ≥ 0 then (if x16 < 64 then (if 0 ≤ x16 then (if x9.length < 140737488355328 then (slipwaytop_TopFields.l1 k x1 x2 x7 x8 (x9 ++ [((Go.bits .and .u64 (shr .u64 x15 x16) 1) == 1)]) x10 x11 x15 (wrap64 (x16 - 1)) x46 x47 x48) else (none)) else (none)) else (if x9.length < 140737488355328 then (slipwaytop_TopFields.l1 k x1 x2 x7 x8 (x9 ++ [false]) x10 x11 x15 (wrap64 (x16 - 1)) x46 x47 x48) else (none))) else (slipwaytop_TopFields.l0 k x1 x2 x7 x8 x9 x10 x11 x46 x47 (wrap64 (x48 + 1)))
def slipwaytop_TopFields.l2 : Nat → List Int → Int → List Int → List Int → List Bool → Bool → Bool → List Int → List Bool → Int → Int → Option (Bool)
  | 0, _, _, _, _, _, _, _, _, _, _, _ => none
  | k + 1, x1, x2, x7, x8, x9, x10, x11, x17, x116, x117, x118 => if x118 < x117 then (if 0 ≤ x118 then (if x118 < (x116.length : Int) then (if rdOf false x116 x118 = true then (if 0 ≤ (wrap64 (Int.tdiv x118 8)) then (if (wrap64 (Int.tdiv x118 8)) < (x17.length : Int) then (if 0 ≤ (Int.tmod x118 8) then (slipwaytop_TopFields.l2 k x1 x2 x7 x8 x9 x10 x11 (x17.set ((wrap64 (Int.tdiv x118 8)) : Int).toNat (Go.bits .or .u8 (rd x17 (wrap64 (Int.tdiv x118 8))) (shr .u8 128 (Int.tmod x118 8)))) x116 x117 (wrap64 (x118 + 1))) else (none)) else (none)) else (none)) else (slipwaytop_TopFields.l2 k x1 x2 x7 x8 x9 x10 x11 x17 x116 x117 (wrap64 (x118 + 1)))) else (none)) else (none)) else ((seal_Width.f k x7).bind fun bt140 => (if x10 = true then (if 0 ≤ (mn (x8.length : Int) (x1.length : Int)) then (if (mn (x8.length : Int) (x1.length : Int)) ≤ (x8.length : Int) then ((seal_Pack.f k x7 (x8.take ((mn (x8.length : Int) (x1.length : Int)) : Int).toNat)).bind fun bt154 => (if bt140.1 = (x17.length : Int) then (if bt140.2 = 0 then (if (x11 != (bt154.2 == 0)) = true then (slipwaytop_TopFields.j6 k x2 x7 x8 x9 x17 true) else (if x11 = true then ((slices_Equal_byte_byte.f k bt154.1 x17).bind fun t158 => (if t158 = true then (slipwaytop_TopFields.j6 k x2 x7 x8 x9 x17 false) else (slipwaytop_TopFields.j6 k x2 x7 x8 x9 x17 true))) else (if bt154.2 = 1 then (slipwaytop_TopFields.j6 k x2 x7 x8 x9 x17 (decide ((bt154.1.length : Int) > 0))) else (slipwaytop_TopFields.j6 k x2 x7 x8 x9 x17 true)))) else (slipwaytop_TopFields.j6 k x2 x7 x8 x9 x17 true)) else (slipwaytop_TopFields.j6 k x2 x7 x8 x9 x17 true))) else (none)) else (none)) else ((seal_Pack.f k x7 x8).bind fun bt142 => ((seal_Unpack.f k x7 x17).bind fun bt146 => (if bt140.1 = 0 then (if bt140.2 = 1 then (if (wrap64 ((bt142.1.length : Int) + (bt146.1.length : Int))) = 0 then (if bt142.2 = 1 then (some (bt146.2 == 1)) else (some false)) else (some false)) else (some false)) else (some false))))))
def slipwaytop_TopFields.j6 : Nat → Int → List Int → List Int → List Bool → List Int → Bool → Option (Bool)
  | 0, _, _, _, _, _, _ => none
  | k + 1, x2, x7, x8, x9, x17, x223 => if x223 = true then (some false) else ((seal_Unpack.f k x7 x17).bind fun bt159 => (slipwaytop_TopFields.l3 k x2 x7 x8 x9 x17 bt159.2 bt159.1 x7 (x7.length : Int) 0))
def slipwaytop_TopFields.l3 : Nat → Int → List Int → List Int → List Bool → List Int → Int → List Int → List Int → Int → Int → Option (Bool)
  | 0, _, _, _, _, _, _, _, _, _, _ => none
  | k + 1, x2, x7, x8, x9, x17, x27, x28, x230, x231, x232 => if x232 < x231 then (if 0 ≤ x232 then (if x232 < (x230.length : Int) then (if (rd x230 x232) < 64 then (if x232 < (x8.length : Int) then (if 0 ≤ (rd x230 x232) then (slipwaytop_TopFields.l3 k x2 x7 (x8.set (x232 : Int).toNat (Go.bits .and .u64 (rd x8 x232) (IntKind.u64.wrap ((shl .u64 1 (rd x230 x232)) - 1)))) x9 x17 x27 x28 x230 x231 (wrap64 (x232 + 1))) else (none)) else (none)) else (slipwaytop_TopFields.l3 k x2 x7 x8 x9 x17 x27 x28 x230 x231 (wrap64 (x232 + 1)))) else (none)) else (none)) else ((slices_Clone_byte_byte.f x17).bind fun t166 => (if t166.length < 140737488355328 then ((seal_Unpack.f k x7 (t166 ++ [x2])).bind fun bt172 => (if x27 = 0 then ((slices_Equal_uint64_uint64.f k x28 x8).bind fun t176 => (if t176 = true then (slipwaytop_TopFields.j8 k x7 x9 x17 (bt172.2 != 3)) else (slipwaytop_TopFields.j8 k x7 x9 x17 true))) else (slipwaytop_TopFields.j8 k x7 x9 x17 true))) else (none)))
def slipwaytop_TopFields.j8 : Nat → List Int → List Bool → List Int → Bool → Option (Bool)
  | 0, _, _, _, _ => none
  | k + 1, x7, x9, x17, x270 => if x270 = true then (some false) else (if ((x9.length : Int) % 8) > 0 then (if 0 ≤ (wrap64 ((x17.length : Int) - 1)) then (if (wrap64 ((x17.length : Int) - 1)) < (x17.length : Int) then ((seal_Unpack.f k x7 (x17.set ((wrap64 ((x17.length : Int) - 1)) : Int).toNat (Go.bits .or .u8 (rd x17 (wrap64 ((x17.length : Int) - 1))) 1))).bind fun bt179 => (if (bt179.1.length : Int) = 0 then (some (bt179.2 == 1)) else (some false))) else (none)) else (none)) else (some true))
end
def slipwaytop_TopFields.f (k : Nat) (l0 : List Int) (l1 : List Int) (a2 : Int) : Option (Bool) := if 0 ≤ (mn (l0.length : Int) 70) then (if (mn (l0.length : Int) 70) ≤ (l0.length : Int) then (slipwaytop_TopFields.l0 k l1 a2 ([] : List Int) ([] : List Int) ([] : List Bool) (decide ((l0.length : Int) ≤ 64)) (decide ((l1.length : Int) ≥ (mn (l0.length : Int) 70))) (l0.take ((mn (l0.length : Int) 70) : Int).toNat) ((l0.take ((mn (l0.length : Int) 70) : Int).toNat).length : Int) 0) else (none)) else (none)
theorem slipwaytop_TopFields.mono_l : ∀ k, (∀ y0 y1 y2 y3 y4 y5 y6 y7 y8 y9, LeO (slipwaytop_TopFields.l0 k y0 y1 y2 y3 y4 y5 y6 y7 y8 y9) (slipwaytop_TopFields.l0 (k + 1) y0 y1 y2 y3 y4 y5 y6 y7 y8 y9)) ∧ (∀ y0 y1 y2 y3 y4 y5 y6 y7 y8 y9 y10 y11, LeO (slipwaytop_TopFields.j1 k y0 y1 y2 y3 y4 y5 y6 y7 y8 y9 y10 y11) (slipwaytop_TopFields.j1 (k + 1) y0 y1 y2 y3 y4 y5 y6 y7 y8 y9 y10 y11)) ∧ (∀ y0 y1 y2 y3 y4 y5 y6 y7 y8 y9 y10 y11, LeO (slipwaytop_TopFields.j2 k y0 y1 y2 y3 y4 y5 y6 y7 y8 y9 y10 y11) (slipwaytop_TopFields.j2 (k + 1) y0 y1 y2 y3 y4 y5 y6 y7 y8 y9 y10 y11)) ∧ (∀ y0 y1 y2 y3 y4 y5 y6 y7 y8 y9 y10 y11, LeO (slipwaytop_TopFields.j3 k y0 y1 y2 y3 y4 y5 y6 y7 y8 y9 y10 y11) (slipwaytop_TopFields.j3 (k + 1) y0 y1 y2 y3 y4 y5 y6 y7 y8 y9 y10 y11)) ∧ (∀ y0 y1 y2 y3 y4 y5 y6 y7 y8 y9 y10 y11, LeO (slipwaytop_TopFields.l1 k y0 y1 y2 y3 y4 y5 y6 y7 y8 y9 y10 y11) (slipwaytop_TopFields.l1 (k + 1) y0 y1 y2 y3 y4 y5 y6 y7 y8 y9 y10 y11)) ∧ (∀ y0 y1 y2 y3 y4 y5 y6 y7 y8 y9 y10, LeO (slipwaytop_TopFields.l2 k y0 y1 y2 y3 y4 y5 y6 y7 y8 y9 y10) (slipwaytop_TopFields.l2 (k + 1) y0 y1 y2 y3 y4 y5 y6 y7 y8 y9 y10)) ∧ (∀ y0 y1 y2 y3 y4 y5, LeO (slipwaytop_TopFields.j6 k y0 y1 y2 y3 y4 y5) (slipwaytop_TopFields.j6 (k + 1) y0 y1 y2 y3 y4 y5)) ∧ (∀ y0 y1 y2 y3 y4 y5 y6 y7 y8 y9, LeO (slipwaytop_TopFields.l3 k y0 y1 y2 y3 y4 y5 y6 y7 y8 y9) (slipwaytop_TopFields.l3 (k + 1) y0 y1 y2 y3 y4 y5 y6 y7 y8 y9)) ∧ (∀ y0 y1 y2 y3, LeO (slipwaytop_TopFields.j8 k y0 y1 y2 y3) (slipwaytop_TopFields.j8 (k + 1) y0 y1 y2 y3))
  | 0 => ⟨fun _ _ _ _ _ _ _ _ _ _ r h => by simp [slipwaytop_TopFields.l0] at h, fun _ _ _ _ _ _ _ _ _ _ _ _ r h => by simp [slipwaytop_TopFields.j1] at h, fun _ _ _ _ _ _ _ _ _ _ _ _ r h => by simp [slipwaytop_TopFields.j2] at h, fun _ _ _ _ _ _ _ _ _ _ _ _ r h => by simp [slipwaytop_TopFields.j3] at h, fun _ _ _ _ _ _ _ _ _ _ _ _ r h => by simp [slipwaytop_TopFields.l1] at h, fun _ _ _ _ _ _ _ _ _ _ _ r h => by simp [slipwaytop_TopFields.l2] at h, fun _ _ _ _ _ _ r h => by simp [slipwaytop_TopFields.j6] at h, fun _ _ _ _ _ _ _ _ _ _ r h => by simp [slipwaytop_TopFields.l3] at h, fun _ _ _ _ r h => by simp [slipwaytop_TopFields.j8] at h⟩
  | k + 1 => by
    obtain ⟨ih0, ih1, ih2, ih3, ih4, ih5, ih6, ih7, ih8⟩ := slipwaytop_TopFields.mono_l k
    refine ⟨?_, ?_, ?_, ?_, ?_, ?_, ?_, ?_, ?_⟩
    · intro y0 y1 y2 y3 y4 y5 y6 y7 y8 y9
      unfold slipwaytop_TopFields.l0
      repeat' first
      | (with_reducible exact ih0 _ _ _ _ _ _ _ _ _ _)
      | (with_reducible exact ih1 _ _ _ _ _ _ _ _ _ _ _ _)
      | (with_reducible exact ih2 _ _ _ _ _ _ _ _ _ _ _ _)
      | (with_reducible exact ih3 _ _ _ _ _ _ _ _ _ _ _ _)
      | (with_reducible exact ih4 _ _ _ _ _ _ _ _ _ _ _ _)
      | (with_reducible exact ih5 _ _ _ _ _ _ _ _ _ _ _)
      | (with_reducible exact ih6 _ _ _ _ _ _)
      | (with_reducible exact ih7 _ _ _ _ _ _ _ _ _ _)
      | (with_reducible exact ih8 _ _ _ _)
      | (with_reducible exact seal_Pack.mono _ _ _)
      | (with_reducible exact seal_Unpack.mono _ _ _)
      | (with_reducible exact seal_Width.mono _ _)
      | (with_reducible exact slices_Equal_byte_byte.mono _ _ _)
      | (with_reducible exact slices_Equal_uint64_uint64.mono _ _ _)
      | (with_reducible exact LeO.refl _)
      | (with_reducible exact LeO.none _)
      | (with_reducible refine LeO.ite ?_ ?_)
      | (with_reducible refine LeO.bind ?_ (fun _ => ?_))
      | exact ih0 _ _ _ _ _ _ _ _ _ _
      | exact ih1 _ _ _ _ _ _ _ _ _ _ _ _
      | exact ih2 _ _ _ _ _ _ _ _ _ _ _ _
      | exact ih3 _ _ _ _ _ _ _ _ _ _ _ _
      | exact ih4 _ _ _ _ _ _ _ _ _ _ _ _
      | exact ih5 _ _ _ _ _ _ _ _ _ _ _
      | exact ih6 _ _ _ _ _ _
      | exact ih7 _ _ _ _ _ _ _ _ _ _
      | exact ih8 _ _ _ _
      | exact seal_Pack.mono _ _ _
      | exact seal_Unpack.mono _ _ _
      | exact seal_Width.mono _ _
      | exact slices_Equal_byte_byte.mono _ _ _
      | exact slices_Equal_uint64_uint64.mono _ _ _
      | exact LeO.none _
      | refine LeO.ite ?_ ?_
      | refine LeO.bind ?_ (fun _ => ?_)
    · intro y0 y1 y2 y3 y4 y5 y6 y7 y8 y9 y10 y11
      unfold slipwaytop_TopFields.j1
      repeat' first
      | (with_reducible exact ih0 _ _ _ _ _ _ _ _ _ _)
      | (with_reducible exact ih1 _ _ _ _ _ _ _ _ _ _ _ _)
      | (with_reducible exact ih2 _ _ _ _ _ _ _ _ _ _ _ _)
      | (with_reducible exact ih3 _ _ _ _ _ _ _ _ _ _ _ _)
      | (with_reducible exact ih4 _ _ _ _ _ _ _ _ _ _ _ _)
      | (with_reducible exact ih5 _ _ _ _ _ _ _ _ _ _ _)
      | (with_reducible exact ih6 _ _ _ _ _ _)
      | (with_reducible exact ih7 _ _ _ _ _ _ _ _ _ _)
      | (with_reducible exact ih8 _ _ _ _)
      | (with_reducible exact seal_Pack.mono _ _ _)
      | (with_reducible exact seal_Unpack.mono _ _ _)
      | (with_reducible exact seal_Width.mono _ _)
      | (with_reducible exact slices_Equal_byte_byte.mono _ _ _)
      | (with_reducible exact slices_Equal_uint64_uint64.mono _ _ _)
      | (with_reducible exact LeO.refl _)
      | (with_reducible exact LeO.none _)
      | (with_reducible refine LeO.ite ?_ ?_)
      | (with_reducible refine LeO.bind ?_ (fun _ => ?_))
      | exact ih0 _ _ _ _ _ _ _ _ _ _
      | exact ih1 _ _ _ _ _ _ _ _ _ _ _ _
      | exact ih2 _ _ _ _ _ _ _ _ _ _ _ _
      | exact ih3 _ _ _ _ _ _ _ _ _ _ _ _
      | exact ih4 _ _ _ _ _ _ _ _ _ _ _ _
      | exact ih5 _ _ _ _ _ _ _ _ _ _ _
      | exact ih6 _ _ _ _ _ _
      | exact ih7 _ _ _ _ _ _ _ _ _ _
      | exact ih8 _ _ _ _
      | exact seal_Pack.mono _ _ _
      | exact seal_Unpack.mono _ _ _
      | exact seal_Width.mono _ _
      | exact slices_Equal_byte_byte.mono _ _ _
      | exact slices_Equal_uint64_uint64.mono _ _ _
      | exact LeO.none _
      | refine LeO.ite ?_ ?_
      | refine LeO.bind ?_ (fun _ => ?_)
    · intro y0 y1 y2 y3 y4 y5 y6 y7 y8 y9 y10 y11
      unfold slipwaytop_TopFields.j2
      repeat' first
      | (with_reducible exact ih0 _ _ _ _ _ _ _ _ _ _)
      | (with_reducible exact ih1 _ _ _ _ _ _ _ _ _ _ _ _)
      | (with_reducible exact ih2 _ _ _ _ _ _ _ _ _ _ _ _)
      | (with_reducible exact ih3 _ _ _ _ _ _ _ _ _ _ _ _)
      | (with_reducible exact ih4 _ _ _ _ _ _ _ _ _ _ _ _)
      | (with_reducible exact ih5 _ _ _ _ _ _ _ _ _ _ _)
      | (with_reducible exact ih6 _ _ _ _ _ _)
      | (with_reducible exact ih7 _ _ _ _ _ _ _ _ _ _)
      | (with_reducible exact ih8 _ _ _ _)
      | (with_reducible exact seal_Pack.mono _ _ _)
      | (with_reducible exact seal_Unpack.mono _ _ _)
      | (with_reducible exact seal_Width.mono _ _)
      | (with_reducible exact slices_Equal_byte_byte.mono _ _ _)
      | (with_reducible exact slices_Equal_uint64_uint64.mono _ _ _)
      | (with_reducible exact LeO.refl _)
      | (with_reducible exact LeO.none _)
      | (with_reducible refine LeO.ite ?_ ?_)
      | (with_reducible refine LeO.bind ?_ (fun _ => ?_))
      | exact ih0 _ _ _ _ _ _ _ _ _ _
      | exact ih1 _ _ _ _ _ _ _ _ _ _ _ _
      | exact ih2 _ _ _ _ _ _ _ _ _ _ _ _
      | exact ih3 _ _ _ _ _ _ _ _ _ _ _ _
      | exact ih4 _ _ _ _ _ _ _ _ _ _ _ _
      | exact ih5 _ _ _ _ _ _ _ _ _ _ _
      | exact ih6 _ _ _ _ _ _
      | exact ih7 _ _ _ _ _ _ _ _ _ _
      | exact ih8 _ _ _ _
      | exact seal_Pack.mono _ _ _
      | exact seal_Unpack.mono _ _ _
      | exact seal_Width.mono _ _
      | exact slices_Equal_byte_byte.mono _ _ _
      | exact slices_Equal_uint64_uint64.mono _ _ _
      | exact LeO.none _
      | refine LeO.ite ?_ ?_
      | refine LeO.bind ?_ (fun _ => ?_)
    · intro y0 y1 y2 y3 y4 y5 y6 y7 y8 y9 y10 y11
      unfold slipwaytop_TopFields.j3
      repeat' first
      | (with_reducible exact ih0 _ _ _ _ _ _ _ _ _ _)
      | (with_reducible exact ih1 _ _ _ _ _ _ _ _ _ _ _ _)
      | (with_reducible exact ih2 _ _ _ _ _ _ _ _ _ _ _ _)
      | (with_reducible exact ih3 _ _ _ _ _ _ _ _ _ _ _ _)
      | (with_reducible exact ih4 _ _ _ _ _ _ _ _ _ _ _ _)
      | (with_reducible exact ih5 _ _ _ _ _ _ _ _ _ _ _)
      | (with_reducible exact ih6 _ _ _ _ _ _)
      | (with_reducible exact ih7 _ _ _ _ _ _ _ _ _ _)
      | (with_reducible exact ih8 _ _ _ _)
      | (with_reducible exact seal_Pack.mono _ _ _)
      | (with_reducible exact seal_Unpack.mono _ _ _)
      | (with_reducible exact seal_Width.mono _ _)
      | (with_reducible exact slices_Equal_byte_byte.mono _ _ _)
      | (with_reducible exact slices_Equal_uint64_uint64.mono _ _ _)
      | (with_reducible exact LeO.refl _)
      | (with_reducible exact LeO.none _)
      | (with_reducible refine LeO.ite ?_ ?_)
      | (with_reducible refine LeO.bind ?_ (fun _ => ?_))
      | exact ih0 _ _ _ _ _ _ _ _ _ _
      | exact ih1 _ _ _ _ _ _ _ _ _ _ _ _
      | exact ih2 _ _ _ _ _ _ _ _ _ _ _ _
      | exact ih3 _ _ _ _ _ _ _ _ _ _ _ _
      | exact ih4 _ _ _ _ _ _ _ _ _ _ _ _
      | exact ih5 _ _ _ _ _ _ _ _ _ _ _
      | exact ih6 _ _ _ _ _ _
      | exact ih7 _ _ _ _ _ _ _ _ _ _
      | exact ih8 _ _ _ _
      | exact seal_Pack.mono _ _ _
      | exact seal_Unpack.mono _ _ _
      | exact seal_Width.mono _ _
      | exact slices_Equal_byte_byte.mono _ _ _
      | exact slices_Equal_uint64_uint64.mono _ _ _
      | exact LeO.none _
      | refine LeO.ite ?_ ?_
      | refine LeO.bind ?_ (fun _ => ?_)
    · intro y0 y1 y2 y3 y4 y5 y6 y7 y8 y9 y10 y11
      unfold slipwaytop_TopFields.l1
      repeat' first
      | (with_reducible exact ih0 _ _ _ _ _ _ _ _ _ _)
      | (with_reducible exact ih1 _ _ _ _ _ _ _ _ _ _ _ _)
      | (with_reducible exact ih2 _ _ _ _ _ _ _ _ _ _ _ _)
      | (with_reducible exact ih3 _ _ _ _ _ _ _ _ _ _ _ _)
      | (with_reducible exact ih4 _ _ _ _ _ _ _ _ _ _ _ _)
      | (with_reducible exact ih5 _ _ _ _ _ _ _ _ _ _ _)
      | (with_reducible exact ih6 _ _ _ _ _ _)
      | (with_reducible exact ih7 _ _ _ _ _ _ _ _ _ _)
      | (with_reducible exact ih8 _ _ _ _)
      | (with_reducible exact seal_Pack.mono _ _ _)
      | (with_reducible exact seal_Unpack.mono _ _ _)
      | (with_reducible exact seal_Width.mono _ _)
      | (with_reducible exact slices_Equal_byte_byte.mono _ _ _)
      | (with_reducible exact slices_Equal_uint64_uint64.mono _ _ _)
      | (with_reducible exact LeO.refl _)
      | (with_reducible exact LeO.none _)
      | (with_reducible refine LeO.ite ?_ ?_)
      | (with_reducible refine LeO.bind ?_ (fun _ => ?_))
      | exact ih0 _ _ _ _ _ _ _ _ _ _
      | exact ih1 _ _ _ _ _ _ _ _ _ _ _ _
      | exact ih2 _ _ _ _ _ _ _ _ _ _ _ _
      | exact ih3 _ _ _ _ _ _ _ _ _ _ _ _
      | exact ih4 _ _ _ _ _ _ _ _ _ _ _ _
      | exact ih5 _ _ _ _ _ _ _ _ _ _ _
      | exact ih6 _ _ _ _ _ _
      | exact ih7 _ _ _ _ _ _ _ _ _ _
      | exact ih8 _ _ _ _
      | exact seal_Pack.mono _ _ _
      | exact seal_Unpack.mono _ _ _
      | exact seal_Width.mono _ _
      | exact slices_Equal_byte_byte.mono _ _ _
      | exact slices_Equal_uint64_uint64.mono _ _ _
      | exact LeO.none _
      | refine LeO.ite ?_ ?_
      | refine LeO.bind ?_ (fun _ => ?_)
    · intro y0 y1 y2 y3 y4 y5 y6 y7 y8 y9 y10
      unfold slipwaytop_TopFields.l2
      repeat' first
      | (with_reducible exact ih0 _ _ _ _ _ _ _ _ _ _)
      | (with_reducible exact ih1 _ _ _ _ _ _ _ _ _ _ _ _)
      | (with_reducible exact ih2 _ _ _ _ _ _ _ _ _ _ _ _)
      | (with_reducible exact ih3 _ _ _ _ _ _ _ _ _ _ _ _)
      | (with_reducible exact ih4 _ _ _ _ _ _ _ _ _ _ _ _)
      | (with_reducible exact ih5 _ _ _ _ _ _ _ _ _ _ _)
      | (with_reducible exact ih6 _ _ _ _ _ _)
      | (with_reducible exact ih7 _ _ _ _ _ _ _ _ _ _)
      | (with_reducible exact ih8 _ _ _ _)
      | (with_reducible exact seal_Pack.mono _ _ _)
      | (with_reducible exact seal_Unpack.mono _ _ _)
      | (with_reducible exact seal_Width.mono _ _)
      | (with_reducible exact slices_Equal_byte_byte.mono _ _ _)
      | (with_reducible exact slices_Equal_uint64_uint64.mono _ _ _)
      | (with_reducible exact LeO.refl _)
      | (with_reducible exact LeO.none _)
      | (with_reducible refine LeO.ite ?_ ?_)
      | (with_reducible refine LeO.bind ?_ (fun _ => ?_))
      | exact ih0 _ _ _ _ _ _ _ _ _ _
      | exact ih1 _ _ _ _ _ _ _ _ _ _ _ _
      | exact ih2 _ _ _ _ _ _ _ _ _ _ _ _
      | exact ih3 _ _ _ _ _ _ _ _ _ _ _ _
      | exact ih4 _ _ _ _ _ _ _ _ _ _ _ _
      | exact ih5 _ _ _ _ _ _ _ _ _ _ _
      | exact ih6 _ _ _ _ _ _
      | exact ih7 _ _ _ _ _ _ _ _ _ _
      | exact ih8 _ _ _ _
      | exact seal_Pack.mono _ _ _
      | exact seal_Unpack.mono _ _ _
      | exact seal_Width.mono _ _
      | exact slices_Equal_byte_byte.mono _ _ _
      | exact slices_Equal_uint64_uint64.mono _ _ _
      | exact LeO.none _
      | refine LeO.ite ?_ ?_
      | refine LeO.bind ?_ (fun _ => ?_)
    · intro y0 y1 y2 y3 y4 y5
      unfold slipwaytop_TopFields.j6
      repeat' first
      | (with_reducible exact ih0 _ _ _ _ _ _ _ _ _ _)
      | (with_reducible exact ih1 _ _ _ _ _ _ _ _ _ _ _ _)
      | (with_reducible exact ih2 _ _ _ _ _ _ _ _ _ _ _ _)
      | (with_reducible exact ih3 _ _ _ _ _ _ _ _ _ _ _ _)
      | (with_reducible exact ih4 _ _ _ _ _ _ _ _ _ _ _ _)
      | (with_reducible exact ih5 _ _ _ _ _ _ _ _ _ _ _)
      | (with_reducible exact ih6 _ _ _ _ _ _)
      | (with_reducible exact ih7 _ _ _ _ _ _ _ _ _ _)
      | (with_reducible exact ih8 _ _ _ _)
      | (with_reducible exact seal_Pack.mono _ _ _)
      | (with_reducible exact seal_Unpack.mono _ _ _)
      | (with_reducible exact seal_Width.mono _ _)
      | (with_reducible exact slices_Equal_byte_byte.mono _ _ _)
      | (with_reducible exact slices_Equal_uint64_uint64.mono _ _ _)
      | (with_reducible exact LeO.refl _)
      | (with_reducible exact LeO.none _)
      | (with_reducible refine LeO.ite ?_ ?_)
      | (with_reducible refine LeO.bind ?_ (fun _ => ?_))
      | exact ih0 _ _ _ _ _ _ _ _ _ _
      | exact ih1 _ _ _ _ _ _ _ _ _ _ _ _
      | exact ih2 _ _ _ _ _ _ _ _ _ _ _ _
      | exact ih3 _ _ _ _ _ _ _ _ _ _ _ _
      | exact ih4 _ _ _ _ _ _ _ _ _ _ _ _
      | exact ih5 _ _ _ _ _ _ _ _ _ _ _
      | exact ih6 _ _ _ _ _ _
      | exact ih7 _ _ _ _ _ _ _ _ _ _
      | exact ih8 _ _ _ _
      | exact seal_Pack.mono _ _ _
      | exact seal_Unpack.mono _ _ _
      | exact seal_Width.mono _ _
      | exact slices_Equal_byte_byte.mono _ _ _
      | exact slices_Equal_uint64_uint64.mono _ _ _
      | exact LeO.none _
      | refine LeO.ite ?_ ?_
      | refine LeO.bind ?_ (fun _ => ?_)
    · intro y0 y1 y2 y3 y4 y5 y6 y7 y8 y9
      unfold slipwaytop_TopFields.l3
      repeat' first
      | (with_reducible exact ih0 _ _ _ _ _ _ _ _ _ _)
      | (with_reducible exact ih1 _ _ _ _ _ _ _ _ _ _ _ _)
      | (with_reducible exact ih2 _ _ _ _ _ _ _ _ _ _ _ _)
      | (with_reducible exact ih3 _ _ _ _ _ _ _ _ _ _ _ _)
      | (with_reducible exact ih4 _ _ _ _ _ _ _ _ _ _ _ _)
      | (with_reducible exact ih5 _ _ _ _ _ _ _ _ _ _ _)
      | (with_reducible exact ih6 _ _ _ _ _ _)
      | (with_reducible exact ih7 _ _ _ _ _ _ _ _ _ _)
      | (with_reducible exact ih8 _ _ _ _)
      | (with_reducible exact seal_Pack.mono _ _ _)
      | (with_reducible exact seal_Unpack.mono _ _ _)
      | (with_reducible exact seal_Width.mono _ _)
      | (with_reducible exact slices_Equal_byte_byte.mono _ _ _)
      | (with_reducible exact slices_Equal_uint64_uint64.mono _ _ _)
      | (with_reducible exact LeO.refl _)
      | (with_reducible exact LeO.none _)
      | (with_reducible refine LeO.ite ?_ ?_)
      | (with_reducible refine LeO.bind ?_ (fun _ => ?_))
      | exact ih0 _ _ _ _ _ _ _ _ _ _
      | exact ih1 _ _ _ _ _ _ _ _ _ _ _ _
      | exact ih2 _ _ _ _ _ _ _ _ _ _ _ _
      | exact ih3 _ _ _ _ _ _ _ _ _ _ _ _
      | exact ih4 _ _ _ _ _ _ _ _ _ _ _ _
      | exact ih5 _ _ _ _ _ _ _ _ _ _ _
      | exact ih6 _ _ _ _ _ _
      | exact ih7 _ _ _ _ _ _ _ _ _ _
      | exact ih8 _ _ _ _
      | exact seal_Pack.mono _ _ _
      | exact seal_Unpack.mono _ _ _
      | exact seal_Width.mono _ _
      | exact slices_Equal_byte_byte.mono _ _ _
      | exact slices_Equal_uint64_uint64.mono _ _ _
      | exact LeO.none _
      | refine LeO.ite ?_ ?_
      | refine LeO.bind ?_ (fun _ => ?_)
    · intro y0 y1 y2 y3
      unfold slipwaytop_TopFields.j8
      repeat' first
      | (with_reducible exact ih0 _ _ _ _ _ _ _ _ _ _)
      | (with_reducible exact ih1 _ _ _ _ _ _ _ _ _ _ _ _)
      | (with_reducible exact ih2 _ _ _ _ _ _ _ _ _ _ _ _)
      | (with_reducible exact ih3 _ _ _ _ _ _ _ _ _ _ _ _)
      | (with_reducible exact ih4 _ _ _ _ _ _ _ _ _ _ _ _)
      | (with_reducible exact ih5 _ _ _ _ _ _ _ _ _ _ _)
      | (with_reducible exact ih6 _ _ _ _ _ _)
      | (with_reducible exact ih7 _ _ _ _ _ _ _ _ _ _)
      | (with_reducible exact ih8 _ _ _ _)
      | (with_reducible exact seal_Pack.mono _ _ _)
      | (with_reducible exact seal_Unpack.mono _ _ _)
      | (with_reducible exact seal_Width.mono _ _)
      | (with_reducible exact slices_Equal_byte_byte.mono _ _ _)
      | (with_reducible exact slices_Equal_uint64_uint64.mono _ _ _)
      | (with_reducible exact LeO.refl _)
      | (with_reducible exact LeO.none _)
      | (with_reducible refine LeO.ite ?_ ?_)
      | (with_reducible refine LeO.bind ?_ (fun _ => ?_))
      | exact ih0 _ _ _ _ _ _ _ _ _ _
      | exact ih1 _ _ _ _ _ _ _ _ _ _ _ _
      | exact ih2 _ _ _ _ _ _ _ _ _ _ _ _
      | exact ih3 _ _ _ _ _ _ _ _ _ _ _ _
      | exact ih4 _ _ _ _ _ _ _ _ _ _ _ _
      | exact ih5 _ _ _ _ _ _ _ _ _ _ _
      | exact ih6 _ _ _ _ _ _
      | exact ih7 _ _ _ _ _ _ _ _ _ _
      | exact ih8 _ _ _ _
      | exact seal_Pack.mono _ _ _
      | exact seal_Unpack.mono _ _ _
      | exact seal_Width.mono _ _
      | exact slices_Equal_byte_byte.mono _ _ _
      | exact slices_Equal_uint64_uint64.mono _ _ _
      | exact LeO.none _
      | refine LeO.ite ?_ ?_
      | refine LeO.bind ?_ (fun _ => ?_)
theorem slipwaytop_TopFields.mono : ∀ a0 a1 a2 k, LeO (slipwaytop_TopFields.f k a0 a1 a2) (slipwaytop_TopFields.f (k + 1) a0 a1 a2) := by
  intro a0 a1 a2 k
  obtain ⟨ih0, ih1, ih2, ih3, ih4, ih5, ih6, ih7, ih8⟩ := slipwaytop_TopFields.mono_l k
  unfold slipwaytop_TopFields.f
  repeat' first
      | (with_reducible exact ih0 _ _ _ _ _ _ _ _ _ _)
      | (with_reducible exact ih1 _ _ _ _ _ _ _ _ _ _ _ _)
      | (with_reducible exact ih2 _ _ _ _ _ _ _ _ _ _ _ _)
      | (with_reducible exact ih3 _ _ _ _ _ _ _ _ _ _ _ _)
      | (with_reducible exact ih4 _ _ _ _ _ _ _ _ _ _ _ _)
      | (with_reducible exact ih5 _ _ _ _ _ _ _ _ _ _ _)
      | (with_reducible exact ih6 _ _ _ _ _ _)
      | (with_reducible exact ih7 _ _ _ _ _ _ _ _ _ _)
      | (with_reducible exact ih8 _ _ _ _)
      | (with_reducible exact seal_Pack.mono _ _ _)
      | (with_reducible exact seal_Unpack.mono _ _ _)
      | (with_reducible exact seal_Width.mono _ _)
      | (with_reducible exact slices_Equal_byte_byte.mono _ _ _)
      | (with_reducible exact slices_Equal_uint64_uint64.mono _ _ _)
      | (with_reducible exact LeO.refl _)
      | (with_reducible exact LeO.none _)
      | (with_reducible refine LeO.ite ?_ ?_)
      | (with_reducible refine LeO.bind ?_ (fun _ => ?_))
      | exact ih0 _ _ _ _ _ _ _ _ _ _
      | exact ih1 _ _ _ _ _ _ _ _ _ _ _ _
      | exact ih2 _ _ _ _ _ _ _ _ _ _ _ _
      | exact ih3 _ _ _ _ _ _ _ _ _ _ _ _
      | exact ih4 _ _ _ _ _ _ _ _ _ _ _ _
      | exact ih5 _ _ _ _ _ _ _ _ _ _ _
      | exact ih6 _ _ _ _ _ _
      | exact ih7 _ _ _ _ _ _ _ _ _ _
      | exact ih8 _ _ _ _
      | exact seal_Pack.mono _ _ _
      | exact seal_Unpack.mono _ _ _
      | exact seal_Width.mono _ _
      | exact slices_Equal_byte_byte.mono _ _ _
      | exact slices_Equal_uint64_uint64.mono _ _ _
      | exact LeO.none _
      | refine LeO.ite ?_ ?_
      | refine LeO.bind ?_ (fun _ => ?_)
def slipwaytop_TopFields.T26 : Bool × List (List Nat × List Nat) := (true, [([], []), ([], []), ([1], [1]), ([0, 2], [0, 2]), ([3], [3]), ([], []), ([5], [5]), ([6], [6]), ([4, 7], [4, 7]), ([0, 2, 0, 1, 2, 3, 4, 5, 6, 7, 8], [0, 2]), ([9, 8, 0, 1, 2, 3, 4, 5, 6, 7, 8], [8, 9])])
def slipwaytop_TopFields.B26 : List Nat := [0, 0, 2, 7, 15, 0, 32, 96, 255, 511, 1023]
theorem slipwaytop_TopFields.tab26 : rtab .any (opsOf Try.f3 26) = slipwaytop_TopFields.T26 := by kernel_rfl
theorem slipwaytop_TopFields.bits26 : waitsOk slipwaytop_TopFields.T26.2 slipwaytop_TopFields.B26 = true := by kernel_rfl
def slipwaytop_TopFields.T41 : Bool × List (List Nat × List Nat) := (true, [([], []), ([], []), ([0, 1], [0, 1]), ([2], [2]), ([], []), ([4], [4]), ([5], [5]), ([3, 6], [3, 6]), ([0, 1, 0, 1, 2, 3, 4, 5, 6, 7], [0, 1]), ([8, 7, 0, 1, 2, 3, 4, 5, 6, 7], [7, 8])])
def slipwaytop_TopFields.B41 : List Nat := [0, 0, 3, 7, 0, 16, 48, 127, 255, 511]
theorem slipwaytop_TopFields.tab41 : rtab .any (opsOf Try.f3 41) = slipwaytop_TopFields.T41 := by kernel_rfl
theorem slipwaytop_TopFields.bits41 : waitsOk slipwaytop_TopFields.T41.2 slipwaytop_TopFields.B41 = true := by kernel_rfl
set_option maxHeartbeats 8000000 in
set_option maxRecDepth 100000 in
theorem slipwaytop_TopFields.calls (k : Nat) (A0 : Option Addr) (c0 : Nat) (l0 : List Int) (A1 : Option Addr) (c1 : Nat) (l1 : List Int) (a2 : Int) (r : Bool) (w : World) (hr0 : Kd.C (Kd.int .u8) w A0 l0.length l0) (hc0 : l0.length ≤ c0) (hr1 : Kd.C (Kd.int .u64) w A1 l1.length l1) (hc1 : l1.length ≤ c1) (h : slipwaytop_TopFields.f k l0 l1 a2 = some r) :
    Calls Try.prog 3 #[.slice A0 l0.length c0, .slice A1 l1.length c1, .int .u8 a2] w fun e w' => e = .returned (.bool r) ∧ Below w.heap.size w w' := by
  have HR0 := Aside0.mk hr0
  have HC0 := Aside0.mk hc0
  clear hr0 hc0
  have HR1 := Aside0.mk hr1
  have HC1 := Aside0.mk hc1
  clear hr1 hc1
  have HB := Aside0.mk (Below.refl w.heap.size w)
  have H : (if 0 ≤ (mn (l0.length : Int) 70) then (if (mn (l0.length : Int) 70) ≤ (l0.length : Int) then (slipwaytop_TopFields.l0 k l1 a2 ([] : List Int) ([] : List Int) ([] : List Bool) (decide ((l0.length : Int) ≤ 64)) (decide ((l1.length : Int) ≥ (mn (l0.length : Int) 70))) (l0.take ((mn (l0.length : Int) 70) : Int).toNat) ((l0.take ((mn (l0.length : Int) 70) : Int).toNat).length : Int) 0) else (none)) else (none)) = some r := h
  clear h
  obtain ⟨ji4, hji4⟩ : ∃ j_ : Int, (mn (l0.length : Int) 70) = j_ := ⟨_, rfl⟩
  replace H : (if 0 ≤ (ji4) then (if (ji4) ≤ (l0.length : Int) then (slipwaytop_TopFields.l0 k l1 a2 ([] : List Int) ([] : List Int) ([] : List Bool) (decide ((l0.length : Int) ≤ 64)) (decide ((l1.length : Int) ≥ (ji4))) (l0.take ((ji4) : Int).toNat) ((l0.take ((ji4) : Int).toNat).length : Int) 0) else (none)) else (none)) = some r := by first | (rw [hji4] at H; exact H) | (simp only [hji4] at H ⊢; exact H)
  (try (have hji4h : ji4 ≤ 70 := by (rw [← hji4]; unfold mn; (repeat' split) <;> omega)))
  (try (have hji4g : ji4 ≤ 64 := by omega))
  (try (have hji4l : 0 ≤ ji4 := by (rw [← hji4]; unfold mn; (repeat' split) <;> omega)))
  (try (have hji4m : 0 ≤ ji4 := by omega))
  have hji4_ : (if 70 < (l0.length : Int) then 70 else (l0.length : Int)) = ji4 := hji4
  by_cases c5 : 0 ≤ (ji4)
  · rw [if_pos c5] at H
    have c5b0 := eq_true c5
    have c5b1 : decide (0 ≤ (ji4)) = true := decide_eq_true c5
    clear c5
    by_cases c6 : (ji4) ≤ (l0.length : Int)
    · rw [if_pos c6] at H
      have c6b0 := eq_true c6
      have c6b1 : decide ((ji4) ≤ (l0.length : Int)) = true := decide_eq_true c6
      clear c6
      have H' := Aside0.mk H
      clear H
      obtain ⟨i07, hi07, _, hsz7, _⟩ := info_parts info5
      obtain ⟨hcut7, hA7, hC7⟩ := print_take_of (P := Try.prog) (Value.int .u8) 0 22 5 .i64 Try.underlying22 hi07 hsz7 A0 c0 l0 (ji4) (of_decide_eq_true (by first | (with_reducible assumption) | assumption)) (of_decide_eq_true (by first | (with_reducible assumption) | assumption)) HC0.out
      have hlen7 := Aside0.mk (show ((l0.take ((ji4) : Int).toNat).length : Int) = max (ji4) 0 from by have h0_ : 0 ≤ ji4 := (of_decide_eq_true (by first | (with_reducible assumption) | assumption)); have h1_ : ji4 ≤ (l0.length : Int) := (of_decide_eq_true (by first | (with_reducible assumption) | assumption)); rw [List.length_take]; omega)
      have HR119 := Aside0.mk (Kd.C_of_reads (h1 := fun _ => rfl) (hA7 _ (Kd.reads_of_C HR0.out)))
      have HC119 := Aside0.mk hC7
      clear hA7 hC7 hi07 hsz7
      go_enter Try.func3, Try.ntmps3
      go_wp2
      go_loopg [7, 8, 9, 10, 11, 48] k (fun kq v7 v8 v9 v10 v11 v48 w' => ∃ (x7_1 : List Int) (x8_1 : List Int) (x9_1 : List Bool) (x10_1 : Bool) (x11_1 : Bool) (x48_1 : Int), v10 = .bool x10_1 ∧ v11 = .bool x11_1 ∧ v48 = .int .i64 x48_1 ∧ Aside0 (slipwaytop_TopFields.l0 kq l1 a2 x7_1 x8_1 x9_1 x10_1 x11_1 (l0.take ((ji4) : Int).toNat) ((l0.take ((ji4) : Int).toNat).length : Int) x48_1 = some r) ∧ Aside0 (kq ≤ k) ∧ Aside0 (Kd.R (Kd.int .i64) 3 w' w.heap.size (fun _ => True) v7 x7_1) ∧ Aside0 (Kd.R (Kd.int .u64) 26 w' w.heap.size (fun _ => True) v8 x8_1) ∧ Aside0 (Kd.R Kd.bool 4 w' w.heap.size (fun _ => True) v9 x9_1) ∧ Aside0 (Below w.heap.size w w'))
      case atStart => exact ⟨(([] : List Int)), (([] : List Int)), (([] : List Bool)), (decide ((l0.length : Int) ≤ 64)), (decide ((l1.length : Int) ≥ (ji4))), (0), (by first | rfl | (simp; done) | (simp [*]; done)), (by first | rfl | (simp; done) | (simp only [← hji4] <;> (first | rfl | simp)) | (simp [*]; done)), (by first | rfl | (simp; done) | (simp [*]; done)), H', ⟨Nat.le_refl _⟩, ⟨by first | exact Kd.R_nil _ _ _ _ _ | exact Kd.N_nil _ _ _ _ _ | exact Kd.V_nil _ _ _ _ _ | exact Kd.Q_nil _ _ _ _ _ | exact Kd.S_nil _ _ _ _ _⟩, ⟨by first | exact Kd.R_nil _ _ _ _ _ | exact Kd.N_nil _ _ _ _ _ | exact Kd.V_nil _ _ _ _ _ | exact Kd.Q_nil _ _ _ _ _ | exact Kd.S_nil _ _ _ _ _⟩, ⟨by first | exact Kd.R_nil _ _ _ _ _ | exact Kd.N_nil _ _ _ _ _ | exact Kd.V_nil _ _ _ _ _ | exact Kd.Q_nil _ _ _ _ _ | exact Kd.S_nil _ _ _ _ _⟩, ⟨by repeat (first | (with_reducible first | exact HB.out | apply below_alloc | apply pw_below_drewN | apply below_drew1) | exact HB.out)⟩⟩
      case round =>
       as_aux_lemma =>
        clear H'
        try clear c1
        try clear p2
        try clear c3
        try clear c5
        try clear c5b0
        try clear c5b1
        try clear c6
        try clear c6b0
        try clear c6b1
        obtain ⟨x7_1, x8_1, x9_1, x10_1, x11_1, x48_1, rfl, rfl, rfl, HA, HK1, HO_7, HO_8, HO_9, HB⟩ := hrel
        cases gk with
        | zero => exact absurd HA.out (by simp [slipwaytop_TopFields.l0])
        | succ k1 =>
          have H := HA.out
          clear HA
          simp only [slipwaytop_TopFields.l0] at H
          by_cases c8 : x48_1 < ((l0.take ((ji4) : Int).toNat).length : Int)
          · rw [if_pos c8] at H
            have c8b0 : decide (x48_1 < ((l0.take ((ji4) : Int).toNat).length : Int)) = true := decide_eq_true c8
            have c8b9 : decide (x48_1 < max ji4 0) = true := by rw [← hlen7.out]; exact c8b0
            clear c8
            by_cases c9 : 0 ≤ x48_1
            · rw [if_pos c9] at H
              have c9b0 : decide (0 ≤ x48_1) = true := decide_eq_true c9
              clear c9
              by_cases c10 : x48_1 < ((l0.take ((ji4) : Int).toNat).length : Int)
              · rw [if_pos c10] at H
                have c10b0 : decide (x48_1 < ((l0.take ((ji4) : Int).toNat).length : Int)) = true := decide_eq_true c10
                have c10b9 : decide (x48_1 < max ji4 0) = true := by rw [← hlen7.out]; exact c10b0
                clear c10
                by_cases c11 : x7_1.length < 17592186044416
                · rw [if_pos c11] at H
                  have LMc11 := Aside0.mk c11
                  clear c11
                  obtain ⟨y121, hy121⟩ : ∃ y_ : List Int, y_ = (x7_1 ++ [wrap64 (Int.tmod (rd (l0.take ((ji4) : Int).toNat) x48_1) 67)]) := ⟨_, rfl⟩
                  replace H : (if x10_1 = true then (if (wrap64 (Int.tmod (rd (l0.take ((ji4) : Int).toNat) x48_1) 67)) ≥ 1 then (slipwaytop_TopFields.j1 k1 l1 a2 y121 x8_1 x9_1 (decide ((wrap64 (Int.tmod (rd (l0.take ((ji4) : Int).toNat) x48_1) 67)) ≤ 64)) x11_1 x48_1 (wrap64 (Int.tmod (rd (l0.take ((ji4) : Int).toNat) x48_1) 67)) (l0.take ((ji4) : Int).toNat) ((l0.take ((ji4) : Int).toNat).length : Int) x48_1) else (slipwaytop_TopFields.j1 k1 l1 a2 y121 x8_1 x9_1 false x11_1 x48_1 (wrap64 (Int.tmod (rd (l0.take ((ji4) : Int).toNat) x48_1) 67)) (l0.take ((ji4) : Int).toNat) ((l0.take ((ji4) : Int).toNat).length : Int) x48_1)) else (slipwaytop_TopFields.j1 k1 l1 a2 y121 x8_1 x9_1 false x11_1 x48_1 (wrap64 (Int.tmod (rd (l0.take ((ji4) : Int).toNat) x48_1) 67)) (l0.take ((ji4) : Int).toNat) ((l0.take ((ji4) : Int).toNat).length : Int) x48_1)) = some r := by first | (rw [hy121]; with_reducible exact H) | (have H2_ := (Option.bind_some _ _).symm.trans H; rw [hy121]; with_reducible exact H2_) | (have H2_ := (Option.bind_some _ _).symm.trans H; with_reducible exact H2_) | with_reducible exact H | (rw [hy121]; exact H) | exact H
                  have Ny121 := Aside0.mk hy121
                  clear hy121
                  have HC12 := Aside0.mk H
                  clear H
                  have p120 : 0 ≤ (x48_1 : Int) := of_decide_eq_true (by first | (with_reducible assumption) | assumption)
                  have q120 : x48_1 < ((l0.take ((ji4) : Int).toNat).length : Int) := of_decide_eq_true (by first | (with_reducible assumption) | assumption)
                  have q120m : (x48_1 < max ji4 0) = True := eq_true (by rw [← hlen7.out]; exact q120)
                  obtain ⟨ad120, e120, hx120_0⟩ := Kd.at_int HR119.out x48_1 p120 q120
                  cases e120
                  replace hx120_0 := (HB.out.cell (World.block_lt_of_cell? w _ hx120_0)).trans hx120_0
                  replace p120 := eq_true p120
                  replace q120 := eq_true q120
                  go_upto_region 10 with (first | ((with_reducible refine gate_builtin (b := .append) (xs := #[.tmp 56, .tmp 58]) rfl ?_); (try (refine gate_guard (by rfl) ?_; dsimp only)); at_builtin; refine Kd.R_append (Kd.int .i64) (w0 := w) w.heap.size rfl (.tmp 56) (.tmp 58) 24 3 (.int .i64 0) 8 rfl Try.underlying24 info3 rfl (by decide) (by omega) u7 x7_1 (wrap64 (Int.tmod (rd (l0.take ((ji4) : Int).toNat) x48_1) 67)) [.int .i64 (wrap64 (Int.tmod (rd (l0.take ((ji4) : Int).toNat) x48_1) 67))] (fun _ => True) (fun _ => False) rfl rfl ?aP (fun _ hk => hk.elim) ?aF ?aO ?aB ?aS ?aL ?_; (case aP => exact rfl); (case aB => exact (by repeat (first | (with_reducible first | exact HB.out | apply below_alloc | apply pw_below_drewN | apply below_drew1) | exact HB.out))); (case aF => exact (fun _ _ => trivial)); (case aO => exact (by (with_reducible repeat (first | apply Kd.R_alloc | apply Kd.R_drewN | apply Kd.R_drew)); exact HO_7.out)); (case aS => exact (below_size (by repeat (first | (with_reducible first | exact HB.out | apply below_alloc | apply pw_below_drewN | apply below_drew1) | exact HB.out)))); (case aL => have := LMc11.out; omega); intro v122 w13 ho hb hg hat; rw [← Ny121.out] at ho; have n0_ := Aside0.mk (Kd.R_over' (by (with_reducible repeat (first | apply Kd.R_alloc | apply Kd.R_drewN | apply Kd.R_drew)); exact HO_8.out) (Kd.R_typed (by (with_reducible repeat (first | apply Kd.R_alloc | apply Kd.R_drewN | apply Kd.R_drew)); exact HO_7.out)) (by decide) hg); have n1_ := Aside0.mk (Kd.R_over' (by (with_reducible repeat (first | apply Kd.R_alloc | apply Kd.R_drewN | apply Kd.R_drew)); exact HO_9.out) (Kd.R_typed (by (with_reducible repeat (first | apply Kd.R_alloc | apply Kd.R_drewN | apply Kd.R_drew)); exact HO_7.out)) (by decide) hg); have n2_ := Aside0.mk (hb); have n3_ := Aside0.mk (ho); clear HO_8; clear HO_9; clear HB; clear HO_7; have HO_8 := n0_; have HO_9 := n1_; have HB := n2_; have HO123 := n3_; clear n0_ n1_ n2_ n3_; clear ho hb hg hat))
                  (try simp only [Act.put, List.setIfInBounds_toArray, List.set_cons_zero, List.set_cons_succ])
                  go_cut [10] (fun v10 wc => ∃ (kq : Nat) (x10_11 : Bool), v10 = .bool x10_11 ∧ Aside0 (slipwaytop_TopFields.j1 kq l1 a2 y121 x8_1 x9_1 x10_11 x11_1 x48_1 (wrap64 (Int.tmod (rd (l0.take ((ji4) : Int).toNat) x48_1) 67)) (l0.take ((ji4) : Int).toNat) ((l0.take ((ji4) : Int).toNat).length : Int) x48_1 = some r) ∧ Aside0 (kq ≤ k1) ∧ Aside0 (Kd.R (Kd.int .i64) 3 wc w.heap.size (fun _ => True) v122 y121) ∧ Aside0 (Kd.R (Kd.int .u64) 26 wc w.heap.size (fun _ => True) u8 x8_1) ∧ Aside0 (Kd.R Kd.bool 4 wc w.heap.size (fun _ => True) u9 x9_1) ∧ Aside0 (Below w.heap.size w wc))
                  case first =>
                   as_aux_lemma =>
                    have H := HC12.out
                    clear HC12
                    by_cases c14 : x10_1 = true
                    · subst c14
                      have H1 : (if (wrap64 (Int.tmod (rd (l0.take ((ji4) : Int).toNat) x48_1) 67)) ≥ 1 then (slipwaytop_TopFields.j1 k1 l1 a2 y121 x8_1 x9_1 (decide ((wrap64 (Int.tmod (rd (l0.take ((ji4) : Int).toNat) x48_1) 67)) ≤ 64)) x11_1 x48_1 (wrap64 (Int.tmod (rd (l0.take ((ji4) : Int).toNat) x48_1) 67)) (l0.take ((ji4) : Int).toNat) ((l0.take ((ji4) : Int).toNat).length : Int) x48_1) else (slipwaytop_TopFields.j1 k1 l1 a2 y121 x8_1 x9_1 false x11_1 x48_1 (wrap64 (Int.tmod (rd (l0.take ((ji4) : Int).toNat) x48_1) 67)) (l0.take ((ji4) : Int).toNat) ((l0.take ((ji4) : Int).toNat).length : Int) x48_1)) = some r := by rw [if_pos rfl] at H; exact H
                      clear H
                      have H := H1
                      clear H1
                      by_cases c15 : (wrap64 (Int.tmod (rd (l0.take ((ji4) : Int).toNat) x48_1) 67)) ≥ 1
                      · rw [if_pos c15] at H
                        have c15b0 : decide (1 ≤ (wrap64 (Int.tmod (rd (l0.take ((ji4) : Int).toNat) x48_1) 67))) = true := decide_eq_true c15
                        clear c15
                        (first | rw [c15b0] | (simp only [i64_w, i32_w]; rw [c15b0]) | skip)
                        have H' := Aside0.mk H
                        clear H
                        go_wp2
                        go_meet
                        case rel => exact ⟨_, (decide ((wrap64 (Int.tmod (rd (l0.take ((ji4) : Int).toNat) x48_1) 67)) ≤ 64)), (by first | rfl | (simp; done) | (simp only [← hji4] <;> (first | rfl | simp)) | (simp [*]; done)), H', ⟨by have := HK1.out; first | omega | exact Nat.le_refl _⟩, ⟨by (with_reducible repeat (first | apply Kd.R_alloc | apply Kd.R_drewN | apply Kd.R_drew)); exact HO123.out⟩, ⟨by (with_reducible repeat (first | apply Kd.R_alloc | apply Kd.R_drewN | apply Kd.R_drew)); exact HO_8.out⟩, ⟨by (with_reducible repeat (first | apply Kd.R_alloc | apply Kd.R_drewN | apply Kd.R_drew)); exact HO_9.out⟩, ⟨by repeat (first | (with_reducible first | exact HB.out | apply below_alloc | apply pw_below_drewN | apply below_drew1) | exact HB.out)⟩⟩
                      · rw [if_neg c15] at H
                        have c15b0 : decide (1 ≤ (wrap64 (Int.tmod (rd (l0.take ((ji4) : Int).toNat) x48_1) 67))) = false := decide_eq_false c15
                        clear c15
                        (first | rw [c15b0] | (simp only [i64_w, i32_w]; rw [c15b0]) | skip)
                        have H' := Aside0.mk H
                        clear H
                        go_wp2
                        go_meet
                        case rel => exact ⟨_, (false), (by first | rfl | (simp; done) | (simp [*]; done)), H', ⟨by have := HK1.out; first | omega | exact Nat.le_refl _⟩, ⟨by (with_reducible repeat (first | apply Kd.R_alloc | apply Kd.R_drewN | apply Kd.R_drew)); exact HO123.out⟩, ⟨by (with_reducible repeat (first | apply Kd.R_alloc | apply Kd.R_drewN | apply Kd.R_drew)); exact HO_8.out⟩, ⟨by (with_reducible repeat (first | apply Kd.R_alloc | apply Kd.R_drewN | apply Kd.R_drew)); exact HO_9.out⟩, ⟨by repeat (first | (with_reducible first | exact HB.out | apply below_alloc | apply pw_below_drewN | apply below_drew1) | exact HB.out)⟩⟩
                    · replace c14 := Bool.eq_false_iff.mpr c14
                      subst c14
                      have H1 : (slipwaytop_TopFields.j1 k1 l1 a2 y121 x8_1 x9_1 false x11_1 x48_1 (wrap64 (Int.tmod (rd (l0.take ((ji4) : Int).toNat) x48_1) 67)) (l0.take ((ji4) : Int).toNat) ((l0.take ((ji4) : Int).toNat).length : Int) x48_1) = some r := by rw [if_neg (show ¬ (false = true) by decide)] at H; exact H
                      clear H
                      have H := H1
                      clear H1
                      have H' := Aside0.mk H
                      clear H
                      go_wp2
                      go_meet
                      case rel => exact ⟨_, (false), (by first | rfl | (simp; done) | (simp [*]; done)), H', ⟨by have := HK1.out; first | omega | exact Nat.le_refl _⟩, ⟨by (with_reducible repeat (first | apply Kd.R_alloc | apply Kd.R_drewN | apply Kd.R_drew)); exact HO123.out⟩, ⟨by (with_reducible repeat (first | apply Kd.R_alloc | apply Kd.R_drewN | apply Kd.R_drew)); exact HO_8.out⟩, ⟨by (with_reducible repeat (first | apply Kd.R_alloc | apply Kd.R_drewN | apply Kd.R_drew)); exact HO_9.out⟩, ⟨by repeat (first | (with_reducible first | exact HB.out | apply below_alloc | apply pw_below_drewN | apply below_drew1) | exact HB.out)⟩⟩
                  case rest =>
                   as_aux_lemma =>
                    clear HC12
                    try clear c1
                    try clear p1
                    try clear q1
                    try clear hx1
                    try clear p2
                    try clear c3
                    try clear c5
                    try clear c5b0
                    try clear c5b1
                    try clear c6
                    try clear c6b0
                    try clear c6b1
                    try clear p6
                    try clear c8
                    try clear c8b0
                    try clear c9
                    try clear c9b0
                    try clear c10
                    try clear c10b0
                    try clear c11
                    try clear p12
                    try clear q12
                    try clear hx12
                    try clear c14
                    try clear c15
                    try clear c15b0
                    try clear hx120_0
                    try clear p120
                    try clear p2
                    try clear q120
                    obtain ⟨kq, x10_11, rfl, HA, HJ11, HO_7, HO_8, HO_9, HB⟩ := hcut
                    cases kq with
                    | zero => exact absurd HA.out (by simp [slipwaytop_TopFields.j1])
                    | succ kj11 =>
                      have H := HA.out
                      clear HA
                      simp only [slipwaytop_TopFields.j1] at H
                      have HC16 := Aside0.mk H
                      clear H
                      go_upto_if 72 with (fail)
                      go_cut [15] (fun v15 wc => ∃ (kq : Nat) (x15_15 : Int), v15 = .int .u64 x15_15 ∧ Aside0 (slipwaytop_TopFields.j2 kq l1 a2 y121 x8_1 x9_1 x10_11 x11_1 (wrap64 (Int.tmod (rd (l0.take ((ji4) : Int).toNat) x48_1) 67)) x15_15 (l0.take ((ji4) : Int).toNat) ((l0.take ((ji4) : Int).toNat).length : Int) x48_1 = some r) ∧ Aside0 (kq ≤ kj11) ∧ Aside0 (Kd.R (Kd.int .i64) 3 wc w.heap.size (fun _ => True) v122 y121) ∧ Aside0 (Kd.R (Kd.int .u64) 26 wc w.heap.size (fun _ => True) u8 x8_1) ∧ Aside0 (Kd.R Kd.bool 4 wc w.heap.size (fun _ => True) u9 x9_1) ∧ Aside0 (Below w.heap.size w wc))
                      case first =>
                       as_aux_lemma =>
                        have H := HC16.out
                        clear HC16
                        by_cases c17 : x48_1 < (l1.length : Int)
                        · rw [if_pos c17] at H
                          have c17b0 : decide (x48_1 < (l1.length : Int)) = true := decide_eq_true c17
                          clear c17
                          (first | rw [c17b0] | (simp only [i64_w, i32_w]; rw [c17b0]) | skip)
                          by_cases c18 : 0 ≤ x48_1
                          · rw [if_pos c18] at H
                            have c18b0 : decide (0 ≤ x48_1) = true := decide_eq_true c18
                            clear c18
                            have H' := Aside0.mk H
                            clear H
                            have p124 : 0 ≤ (x48_1 : Int) := of_decide_eq_true (by first | (with_reducible assumption) | assumption)
                            have q124 : x48_1 < (l1.length : Int) := of_decide_eq_true (by first | (with_reducible assumption) | assumption)
                            obtain ⟨ad124, e124, hx124_0⟩ := Kd.at_int HR1.out x48_1 p124 q124
                            cases e124
                            replace hx124_0 := (HB.out.cell (World.block_lt_of_cell? w _ hx124_0)).trans hx124_0
                            replace p124 := eq_true p124
                            replace q124 := eq_true q124
                            go_wp2
                            go_meet
                            case rel => exact ⟨_, (rd l1 x48_1), (by first | rfl | (simp; done) | (simp [*]; done)), H', ⟨by have := HK1.out; have := HJ11.out; first | omega | exact Nat.le_refl _⟩, ⟨by (with_reducible repeat (first | apply Kd.R_alloc | apply Kd.R_drewN | apply Kd.R_drew)); exact HO_7.out⟩, ⟨by (with_reducible repeat (first | apply Kd.R_alloc | apply Kd.R_drewN | apply Kd.R_drew)); exact HO_8.out⟩, ⟨by (with_reducible repeat (first | apply Kd.R_alloc | apply Kd.R_drewN | apply Kd.R_drew)); exact HO_9.out⟩, ⟨by repeat (first | (with_reducible first | exact HB.out | apply below_alloc | apply pw_below_drewN | apply below_drew1) | exact HB.out)⟩⟩
                          · rw [if_neg c18] at H
                            exact absurd H (by simp)
                        · rw [if_neg c17] at H
                          have c17b0 : decide (x48_1 < (l1.length : Int)) = false := decide_eq_false c17
                          clear c17
                          (first | rw [c17b0] | (simp only [i64_w, i32_w]; rw [c17b0]) | skip)
                          have H' := Aside0.mk H
                          clear H
                          go_wp2
                          go_meet
                          case rel => exact ⟨_, (0), (by first | rfl | (simp; done) | (simp [*]; done)), H', ⟨by have := HK1.out; have := HJ11.out; first | omega | exact Nat.le_refl _⟩, ⟨by (with_reducible repeat (first | apply Kd.R_alloc | apply Kd.R_drewN | apply Kd.R_drew)); exact HO_7.out⟩, ⟨by (with_reducible repeat (first | apply Kd.R_alloc | apply Kd.R_drewN | apply Kd.R_drew)); exact HO_8.out⟩, ⟨by (with_reducible repeat (first | apply Kd.R_alloc | apply Kd.R_drewN | apply Kd.R_drew)); exact HO_9.out⟩, ⟨by repeat (first | (with_reducible first | exact HB.out | apply below_alloc | apply pw_below_drewN | apply below_drew1) | exact HB.out)⟩⟩
                      case rest =>
                       as_aux_lemma =>
                        clear HC16
                        try clear c1
                        try clear p1
                        try clear q1
                        try clear hx1
                        try clear p2
                        try clear c3
                        try clear c5
                        try clear c5b0
                        try clear c5b1
                        try clear c6
                        try clear c6b0
                        try clear c6b1
                        try clear p6
                        try clear c8
                        try clear c8b0
                        try clear c9
                        try clear c9b0
                        try clear c10
                        try clear c10b0
                        try clear c11
                        try clear p12
                        try clear q12
                        try clear hx12
                        try clear c14
                        try clear c15
                        try clear c15b0
                        try clear c17
                        try clear c17b0
                        try clear c18
                        try clear c18b0
                        try clear hx120_0
                        try clear hx124_0
                        try clear p1
                        try clear p12
                        try clear p120
                        try clear p124
                        try clear p2
                        try clear p6
                        try clear q1
                        try clear q12
                        try clear q120
                        try clear q124
                        obtain ⟨kq, x15_15, rfl, HA, HJ15, HO_7, HO_8, HO_9, HB⟩ := hcut
                        cases kq with
                        | zero => exact absurd HA.out (by simp [slipwaytop_TopFields.j2])
                        | succ kj15 =>
                          have H := HA.out
                          clear HA
                          simp only [slipwaytop_TopFields.j2] at H
                          have HC19 := Aside0.mk H
                          clear H
                          go_upto_region 14 with (fail)
                          go_cut [11] (fun v11 wc => ∃ (kq : Nat) (x11_18 : Bool), v11 = .bool x11_18 ∧ Aside0 (slipwaytop_TopFields.j3 kq l1 a2 y121 x8_1 x9_1 x10_11 x11_18 (wrap64 (Int.tmod (rd (l0.take ((ji4) : Int).toNat) x48_1) 67)) x15_15 (l0.take ((ji4) : Int).toNat) ((l0.take ((ji4) : Int).toNat).length : Int) x48_1 = some r) ∧ Aside0 (kq ≤ kj15) ∧ Aside0 (Kd.R (Kd.int .i64) 3 wc w.heap.size (fun _ => True) v122 y121) ∧ Aside0 (Kd.R (Kd.int .u64) 26 wc w.heap.size (fun _ => True) u8 x8_1) ∧ Aside0 (Kd.R Kd.bool 4 wc w.heap.size (fun _ => True) u9 x9_1) ∧ Aside0 (Below w.heap.size w wc))
                          case first =>
                           as_aux_lemma =>
                            have H := HC19.out
                            clear HC19
                            by_cases c20 : x11_1 = true
                            · subst c20
                              have H1 : (if (wrap64 (Int.tmod (rd (l0.take ((ji4) : Int).toNat) x48_1) 67)) ≥ 64 then (slipwaytop_TopFields.j3 kj15 l1 a2 y121 x8_1 x9_1 x10_11 true (wrap64 (Int.tmod (rd (l0.take ((ji4) : Int).toNat) x48_1) 67)) x15_15 (l0.take ((ji4) : Int).toNat) ((l0.take ((ji4) : Int).toNat).length : Int) x48_1) else (if 0 ≤ (wrap64 (Int.tmod (rd (l0.take ((ji4) : Int).toNat) x48_1) 67)) then (slipwaytop_TopFields.j3 kj15 l1 a2 y121 x8_1 x9_1 x10_11 ((shr .u64 x15_15 (wrap64 (Int.tmod (rd (l0.take ((ji4) : Int).toNat) x48_1) 67))) == 0) (wrap64 (Int.tmod (rd (l0.take ((ji4) : Int).toNat) x48_1) 67)) x15_15 (l0.take ((ji4) : Int).toNat) ((l0.take ((ji4) : Int).toNat).length : Int) x48_1) else (none))) = some r := by rw [if_pos rfl] at H; exact H
                              clear H
                              have H := H1
                              clear H1
                              by_cases c21 : (wrap64 (Int.tmod (rd (l0.take ((ji4) : Int).toNat) x48_1) 67)) ≥ 64
                              · rw [if_pos c21] at H
                                have c21b0 : decide (64 ≤ (wrap64 (Int.tmod (rd (l0.take ((ji4) : Int).toNat) x48_1) 67))) = true := decide_eq_true c21
                                clear c21
                                (first | rw [c21b0] | (simp only [i64_w, i32_w]; rw [c21b0]) | skip)
                                have H' := Aside0.mk H
                                clear H
                                go_wp2
                                go_meet
                                case rel => exact ⟨_, (true), (by first | rfl | (simp; done) | (simp [*]; done)), H', ⟨by have := HK1.out; have := HJ11.out; have := HJ15.out; first | omega | exact Nat.le_refl _⟩, ⟨by (with_reducible repeat (first | apply Kd.R_alloc | apply Kd.R_drewN | apply Kd.R_drew)); exact HO_7.out⟩, ⟨by (with_reducible repeat (first | apply Kd.R_alloc | apply Kd.R_drewN | apply Kd.R_drew)); exact HO_8.out⟩, ⟨by (with_reducible repeat (first | apply Kd.R_alloc | apply Kd.R_drewN | apply Kd.R_drew)); exact HO_9.out⟩, ⟨by repeat (first | (with_reducible first | exact HB.out | apply below_alloc | apply pw_below_drewN | apply below_drew1) | exact HB.out)⟩⟩
                              · rw [if_neg c21] at H
                                have c21b0 : decide (64 ≤ (wrap64 (Int.tmod (rd (l0.take ((ji4) : Int).toNat) x48_1) 67))) = false := decide_eq_false c21
                                clear c21
                                (first | rw [c21b0] | (simp only [i64_w, i32_w]; rw [c21b0]) | skip)
                                obtain ⟨ji22, hji22⟩ : ∃ j_ : Int, (wrap64 (Int.tmod (rd (l0.take ((ji4) : Int).toNat) x48_1) 67)) = j_ := ⟨_, rfl⟩
                                replace H : (if 0 ≤ (ji22) then (slipwaytop_TopFields.j3 kj15 l1 a2 y121 x8_1 x9_1 x10_11 ((shr .u64 x15_15 (ji22)) == 0) (ji22) x15_15 (l0.take ((ji4) : Int).toNat) ((l0.take ((ji4) : Int).toNat).length : Int) x48_1) else (none)) = some r := by first | (rw [hji22] at H; exact H) | (simp only [hji22] at H ⊢; exact H)
                                (try rw [hji22] at c21b0)
                                have hji22w : (IntKind.i64.wrap (Int.tmod (rd (l0.take ((ji4) : Int).toNat) x48_1) 67)) = ji22 := (i64_w _).trans hji22
                                by_cases c23 : 0 ≤ (ji22)
                                · rw [if_pos c23] at H
                                  have c23b0 := eq_true c23
                                  have c23b1 : decide (0 ≤ (ji22)) = true := decide_eq_true c23
                                  clear c23
                                  obtain ⟨ji24, hji24⟩ : ∃ j_ : Int, (shr .u64 x15_15 (ji22)) = j_ := ⟨_, rfl⟩
                                  replace H : (slipwaytop_TopFields.j3 kj15 l1 a2 y121 x8_1 x9_1 x10_11 ((ji24) == 0) (ji22) x15_15 (l0.take ((ji4) : Int).toNat) ((l0.take ((ji4) : Int).toNat).length : Int) x48_1) = some r := by first | (rw [hji24] at H; exact H) | (simp only [hji24] at H ⊢; exact H)
                                  have hji24_ : (x15_15 / 2 ^ min (ji22).toNat 64) = ji24 := hji24
                                  have hji24z : (ji22) ≤ 64 → (x15_15 / 2 ^ (ji22).toNat) = ji24 := shr_small hji24
                                  have H' := Aside0.mk H
                                  clear H
                                  go_wp2
                                  first | (go_meet) | ((simp only [← hji22]); go_meet)
                                  case rel => (try simp only [hji22]); exact ⟨_, (((ji24) == 0)), (by first | rfl | (simp; done) | (simp only [← hji24] <;> (first | rfl | simp)) | (simp [*]; done)), H', ⟨by have := HK1.out; have := HJ11.out; have := HJ15.out; first | omega | exact Nat.le_refl _⟩, ⟨by (with_reducible repeat (first | apply Kd.R_alloc | apply Kd.R_drewN | apply Kd.R_drew)); exact HO_7.out⟩, ⟨by (with_reducible repeat (first | apply Kd.R_alloc | apply Kd.R_drewN | apply Kd.R_drew)); exact HO_8.out⟩, ⟨by (with_reducible repeat (first | apply Kd.R_alloc | apply Kd.R_drewN | apply Kd.R_drew)); exact HO_9.out⟩, ⟨by repeat (first | (with_reducible first | exact HB.out | apply below_alloc | apply pw_below_drewN | apply below_drew1) | exact HB.out)⟩⟩
                                · rw [if_neg c23] at H
                                  exact absurd H (by simp)
                            · replace c20 := Bool.eq_false_iff.mpr c20
                              subst c20
                              have H1 : (slipwaytop_TopFields.j3 kj15 l1 a2 y121 x8_1 x9_1 x10_11 false (wrap64 (Int.tmod (rd (l0.take ((ji4) : Int).toNat) x48_1) 67)) x15_15 (l0.take ((ji4) : Int).toNat) ((l0.take ((ji4) : Int).toNat).length : Int) x48_1) = some r := by rw [if_neg (show ¬ (false = true) by decide)] at H; exact H
                              clear H
                              have H := H1
                              clear H1
                              have H' := Aside0.mk H
                              clear H
                              go_wp2
                              go_meet
                              case rel => exact ⟨_, (false), (by first | rfl | (simp; done) | (simp [*]; done)), H', ⟨by have := HK1.out; have := HJ11.out; have := HJ15.out; first | omega | exact Nat.le_refl _⟩, ⟨by (with_reducible repeat (first | apply Kd.R_alloc | apply Kd.R_drewN | apply Kd.R_drew)); exact HO_7.out⟩, ⟨by (with_reducible repeat (first | apply Kd.R_alloc | apply Kd.R_drewN | apply Kd.R_drew)); exact HO_8.out⟩, ⟨by (with_reducible repeat (first | apply Kd.R_alloc | apply Kd.R_drewN | apply Kd.R_drew)); exact HO_9.out⟩, ⟨by repeat (first | (with_reducible first | exact HB.out | apply below_alloc | apply pw_below_drewN | apply below_drew1) | exact HB.out)⟩⟩
                          case rest =>
                           as_aux_lemma =>
                            clear HC19
                            try clear c1
                            try clear p1
                            try clear q1
                            try clear hx1
                            try clear c2
                            try clear p2
                            try clear c3
                            try clear c5
                            try clear c5b0
                            try clear c5b1
                            try clear c6
                            try clear c6b0
                            try clear c6b1
                            try clear p6
                            try clear c8
                            try clear c8b0
                            try clear c9
                            try clear c9b0
                            try clear c10
                            try clear c10b0
                            try clear c11
                            try clear p12
                            try clear q12
                            try clear hx12
                            try clear c14
                            try clear c15
                            try clear c15b0
                            try clear c17
                            try clear c17b0
                            try clear c18
                            try clear c18b0
                            try clear c20
                            try clear c21
                            try clear c21b0
                            try clear c23
                            try clear c23b0
                            try clear c23b1
                            try clear hx120_0
                            try clear hx124_0
                            try clear p1
                            try clear p12
                            try clear p120
                            try clear p124
                            try clear p2
                            try clear p6
                            try clear q1
                            try clear q12
                            try clear q120
                            try clear q124
                            obtain ⟨kq, x11_18, rfl, HA, HJ18, HO_7, HO_8, HO_9, HB⟩ := hcut
                            cases kq with
                            | zero => exact absurd HA.out (by simp [slipwaytop_TopFields.j3])
                            | succ kj18 =>
                              have H := HA.out
                              clear HA
                              simp only [slipwaytop_TopFields.j3] at H
                              by_cases c25 : x8_1.length < 17592186044416
                              · rw [if_pos c25] at H
                                have LMc25 := Aside0.mk c25
                                clear c25
                                obtain ⟨y125, hy125⟩ : ∃ y_ : List Int, y_ = (x8_1 ++ [x15_15]) := ⟨_, rfl⟩
                                replace H : (slipwaytop_TopFields.l1 kj18 l1 a2 y121 y125 x9_1 x10_11 x11_18 x15_15 (wrap64 ((wrap64 (Int.tmod (rd (l0.take ((ji4) : Int).toNat) x48_1) 67)) - 1)) (l0.take ((ji4) : Int).toNat) ((l0.take ((ji4) : Int).toNat).length : Int) x48_1) = some r := by first | (rw [hy125]; with_reducible exact H) | (have H2_ := (Option.bind_some _ _).symm.trans H; rw [hy125]; with_reducible exact H2_) | (have H2_ := (Option.bind_some _ _).symm.trans H; with_reducible exact H2_) | with_reducible exact H | (rw [hy125]; exact H) | exact H
                                have Ny125 := Aside0.mk hy125
                                clear hy125
                                have H' := Aside0.mk H
                                clear H
                                go_wp2_with (first | ((with_reducible refine gate_builtin (b := .append) (xs := #[.tmp 88, .tmp 90]) rfl ?_); (try (refine gate_guard (by rfl) ?_; dsimp only)); at_builtin; refine Kd.R_append (Kd.int .u64) (w0 := w) w.heap.size rfl (.tmp 88) (.tmp 90) 23 26 (.int .u64 0) 8 rfl Try.underlying23 info26 rfl (by decide) (by omega) u8 x8_1 x15_15 [.int .u64 x15_15] (fun _ => True) (fun _ => False) rfl rfl ?aP (fun _ hk => hk.elim) ?aF ?aO ?aB ?aS ?aL ?_; (case aP => exact rfl); (case aB => exact (by repeat (first | (with_reducible first | exact HB.out | apply below_alloc | apply pw_below_drewN | apply below_drew1) | exact HB.out))); (case aF => exact (fun _ _ => trivial)); (case aO => exact (by (with_reducible repeat (first | apply Kd.R_alloc | apply Kd.R_drewN | apply Kd.R_drew)); exact HO_8.out)); (case aS => exact (below_size (by repeat (first | (with_reducible first | exact HB.out | apply below_alloc | apply pw_below_drewN | apply below_drew1) | exact HB.out)))); (case aL => have := LMc25.out; omega); intro v126 w26 ho hb hg hat; rw [← Ny125.out] at ho; have n0_ := Aside0.mk (Kd.R_over' (by (with_reducible repeat (first | apply Kd.R_alloc | apply Kd.R_drewN | apply Kd.R_drew)); exact HO_7.out) (Kd.R_typed (by (with_reducible repeat (first | apply Kd.R_alloc | apply Kd.R_drewN | apply Kd.R_drew)); exact HO_8.out)) (by decide) hg); have n1_ := Aside0.mk (Kd.R_over' (by (with_reducible repeat (first | apply Kd.R_alloc | apply Kd.R_drewN | apply Kd.R_drew)); exact HO_9.out) (Kd.R_typed (by (with_reducible repeat (first | apply Kd.R_alloc | apply Kd.R_drewN | apply Kd.R_drew)); exact HO_8.out)) (by decide) hg); have n2_ := Aside0.mk (hb); have n3_ := Aside0.mk (ho); clear HO_7; clear HO_9; clear HB; clear HO_8; have HO_7 := n0_; have HO_9 := n1_; have HB := n2_; have HO127 := n3_; clear n0_ n1_ n2_ n3_; clear ho hb hg hat))
                                go_loopg [9, 16] kj18 (fun kq v9 v16 w' => ∃ (x9_5 : List Bool) (x16_5 : Int), v16 = .int .i64 x16_5 ∧ Aside0 (slipwaytop_TopFields.l1 kq l1 a2 y121 y125 x9_5 x10_11 x11_18 x15_15 x16_5 (l0.take ((ji4) : Int).toNat) ((l0.take ((ji4) : Int).toNat).length : Int) x48_1 = some r) ∧ Aside0 (kq ≤ kj18) ∧ Aside0 (Kd.R (Kd.int .i64) 3 w' w.heap.size (fun _ => True) v122 y121) ∧ Aside0 (Kd.R (Kd.int .u64) 26 w' w.heap.size (fun _ => True) v126 y125) ∧ Aside0 (Kd.R Kd.bool 4 w' w.heap.size (fun _ => True) v9 x9_5) ∧ Aside0 (Below w.heap.size w w'))
                                case atStart => exact ⟨(x9_1), (wrap64 ((wrap64 (Int.tmod (rd (l0.take ((ji4) : Int).toNat) x48_1) 67)) - 1)), (by first | rfl | (simp; done) | (simp only [← hji4] <;> (first | rfl | simp)) | (simp [*]; done)), H', ⟨Nat.le_refl _⟩, ⟨by (with_reducible repeat (first | apply Kd.R_alloc | apply Kd.R_drewN | apply Kd.R_drew)); exact HO_7.out⟩, ⟨by (with_reducible repeat (first | apply Kd.R_alloc | apply Kd.R_drewN | apply Kd.R_drew)); exact HO127.out⟩, ⟨by (with_reducible repeat (first | apply Kd.R_alloc | apply Kd.R_drewN | apply Kd.R_drew)); exact HO_9.out⟩, ⟨by repeat (first | (with_reducible first | exact HB.out | apply below_alloc | apply pw_below_drewN | apply below_drew1) | exact HB.out)⟩⟩
                                case round =>
                                 as_aux_lemma =>
                                  clear H'
                                  try clear c1
                                  try clear p1
                                  try clear q1
                                  try clear hx1
                                  try clear c2
                                  try clear p2
                                  try clear c3
                                  try clear c5
                                  try clear c5b0
                                  try clear c5b1
                                  try clear c6
                                  try clear c6b0
                                  try clear c6b1
                                  try clear p6
                                  try clear c8
                                  try clear c8b0
                                  try clear c9
                                  try clear c9b0
                                  try clear c10
                                  try clear c10b0
                                  try clear c11
                                  try clear p12
                                  try clear q12
                                  try clear hx12
                                  try clear c14
                                  try clear c15
                                  try clear c15b0
                                  try clear c17
                                  try clear c17b0
                                  try clear c18
                                  try clear c18b0
                                  try clear c20
                                  try clear c21
                                  try clear c21b0
                                  try clear c23
                                  try clear c23b0
                                  try clear c23b1
                                  try clear c25
                                  try clear hx120_0
                                  try clear hx124_0
                                  try clear p1
                                  try clear p12
                                  try clear p120
                                  try clear p124
                                  try clear p2
                                  try clear p6
                                  try clear q1
                                  try clear q12
                                  try clear q120
                                  try clear q124
                                  obtain ⟨x9_5, x16_5, rfl, HA, HK5, HO_7, HO_8, HO_9, HB⟩ := hrel
                                  cases gk with
                                  | zero => exact absurd HA.out (by simp [slipwaytop_TopFields.l1])
                                  | succ k5 =>
                                    have H := HA.out
                                    clear HA
                                    simp only [slipwaytop_TopFields.l1] at H
                                    by_cases c27 : x16_5 ≥ 0
                                    · rw [if_pos c27] at H
                                      have c27b0 : decide (0 ≤ x16_5) = true := decide_eq_true c27
                                      clear c27
                                      by_cases c28 : x16_5 < 64
                                      · rw [if_pos c28] at H
                                        have c28b0 : decide (x16_5 < 64) = true := decide_eq_true c28
                                        clear c28
                                        by_cases c29 : 0 ≤ x16_5
                                        · rw [if_pos c29] at H
                                          have c29b0 := eq_true c29
                                          have c29b1 : decide (0 ≤ x16_5) = true := decide_eq_true c29
                                          clear c29
                                          obtain ⟨ji30, hji30⟩ : ∃ j_ : Int, (shr .u64 x15_15 x16_5) = j_ := ⟨_, rfl⟩
                                          replace H : (if x9_5.length < 140737488355328 then (slipwaytop_TopFields.l1 k5 l1 a2 y121 y125 (x9_5 ++ [((Go.bits .and .u64 (ji30) 1) == 1)]) x10_11 x11_18 x15_15 (wrap64 (x16_5 - 1)) (l0.take ((ji4) : Int).toNat) ((l0.take ((ji4) : Int).toNat).length : Int) x48_1) else (none)) = some r := by first | (rw [hji30] at H; exact H) | (simp only [hji30] at H ⊢; exact H)
                                          have hji30_ : (x15_15 / 2 ^ min x16_5.toNat 64) = ji30 := hji30
                                          have hji30z : x16_5 ≤ 64 → (x15_15 / 2 ^ x16_5.toNat) = ji30 := shr_small hji30
                                          by_cases c31 : x9_5.length < 140737488355328
                                          · rw [if_pos c31] at H
                                            have LMc31 := Aside0.mk c31
                                            clear c31
                                            obtain ⟨y128, hy128⟩ : ∃ y_ : List Bool, y_ = (x9_5 ++ [((Go.bits .and .u64 (ji30) 1) == 1)]) := ⟨_, rfl⟩
                                            replace H : (slipwaytop_TopFields.l1 k5 l1 a2 y121 y125 y128 x10_11 x11_18 x15_15 (wrap64 (x16_5 - 1)) (l0.take ((ji4) : Int).toNat) ((l0.take ((ji4) : Int).toNat).length : Int) x48_1) = some r := by first | (rw [hy128]; with_reducible exact H) | (have H2_ := (Option.bind_some _ _).symm.trans H; rw [hy128]; with_reducible exact H2_) | (have H2_ := (Option.bind_some _ _).symm.trans H; with_reducible exact H2_) | with_reducible exact H | (rw [hy128]; exact H) | exact H
                                            have Ny128 := Aside0.mk hy128
                                            clear hy128
                                            have H' := Aside0.mk H
                                            clear H
                                            go_wp2_with (first | ((with_reducible refine gate_builtin (b := .append) (xs := #[.tmp 98, .tmp 108]) rfl ?_); (try (refine gate_guard (by rfl) ?_; dsimp only)); at_builtin; refine Kd.R_append Kd.bool (w0 := w) w.heap.size rfl (.tmp 98) (.tmp 108) 25 4 (.bool false) 1 rfl Try.underlying25 info4 rfl (by decide) (by omega) u9 x9_5 ((Go.bits .and .u64 (ji30) 1) == 1) [.bool ((Go.bits .and .u64 (ji30) 1) == 1)] (fun _ => True) (fun _ => False) rfl rfl ?aP (fun _ hk => hk.elim) ?aF ?aO ?aB ?aS ?aL ?_; (case aP => exact rfl); (case aB => exact (by repeat (first | (with_reducible first | exact HB.out | apply below_alloc | apply pw_below_drewN | apply below_drew1) | exact HB.out))); (case aF => exact (fun _ _ => trivial)); (case aO => exact (by (with_reducible repeat (first | apply Kd.R_alloc | apply Kd.R_drewN | apply Kd.R_drew)); exact HO_9.out)); (case aS => exact (below_size (by repeat (first | (with_reducible first | exact HB.out | apply below_alloc | apply pw_below_drewN | apply below_drew1) | exact HB.out)))); (case aL => have := LMc31.out; omega); intro v129 w32 ho hb hg hat; rw [← Ny128.out] at ho; have n0_ := Aside0.mk (Kd.R_over' (by (with_reducible repeat (first | apply Kd.R_alloc | apply Kd.R_drewN | apply Kd.R_drew)); exact HO_7.out) (Kd.R_typed (by (with_reducible repeat (first | apply Kd.R_alloc | apply Kd.R_drewN | apply Kd.R_drew)); exact HO_9.out)) (by decide) hg); have n1_ := Aside0.mk (Kd.R_over' (by (with_reducible repeat (first | apply Kd.R_alloc | apply Kd.R_drewN | apply Kd.R_drew)); exact HO_8.out) (Kd.R_typed (by (with_reducible repeat (first | apply Kd.R_alloc | apply Kd.R_drewN | apply Kd.R_drew)); exact HO_9.out)) (by decide) hg); have n2_ := Aside0.mk (hb); have n3_ := Aside0.mk (ho); clear HO_7; clear HO_8; clear HB; clear HO_9; have HO_7 := n0_; have HO_8 := n1_; have HB := n2_; have HO130 := n3_; clear n0_ n1_ n2_ n3_; clear ho hb hg hat))
                                            go_roundg k5
                                            case measure => have := HK1.out; have := HJ11.out; have := HJ15.out; have := HJ18.out; have := HK5.out; omega
                                            case rel => exact ⟨(y128), (wrap64 (x16_5 - 1)), (by first | rfl | (simp; done) | (simp [*]; done)), H', ⟨by have := HK1.out; have := HJ11.out; have := HJ15.out; have := HJ18.out; have := HK5.out; omega⟩, ⟨by (with_reducible repeat (first | apply Kd.R_alloc | apply Kd.R_drewN | apply Kd.R_drew)); exact HO_7.out⟩, ⟨by (with_reducible repeat (first | apply Kd.R_alloc | apply Kd.R_drewN | apply Kd.R_drew)); exact HO_8.out⟩, ⟨by (with_reducible repeat (first | apply Kd.R_alloc | apply Kd.R_drewN | apply Kd.R_drew)); exact HO130.out⟩, ⟨by repeat (first | (with_reducible first | exact HB.out | apply below_alloc | apply pw_below_drewN | apply below_drew1) | exact HB.out)⟩⟩
                                          · rw [if_neg c31] at H
                                            exact absurd H (by simp)
                                        · rw [if_neg c29] at H
                                          exact absurd H (by simp)
                                      · rw [if_neg c28] at H
                                        have c28b0 : decide (x16_5 < 64) = false := decide_eq_false c28
                                        clear c28
                                        by_cases c33 : x9_5.length < 140737488355328
                                        · rw [if_pos c33] at H
                                          have LMc33 := Aside0.mk c33
                                          clear c33
                                          obtain ⟨y131, hy131⟩ : ∃ y_ : List Bool, y_ = (x9_5 ++ [false]) := ⟨_, rfl⟩
                                          replace H : (slipwaytop_TopFields.l1 k5 l1 a2 y121 y125 y131 x10_11 x11_18 x15_15 (wrap64 (x16_5 - 1)) (l0.take ((ji4) : Int).toNat) ((l0.take ((ji4) : Int).toNat).length : Int) x48_1) = some r := by first | (rw [hy131]; with_reducible exact H) | (have H2_ := (Option.bind_some _ _).symm.trans H; rw [hy131]; with_reducible exact H2_) | (have H2_ := (Option.bind_some _ _).symm.trans H; with_reducible exact H2_) | with_reducible exact H | (rw [hy131]; exact H) | exact H
                                          have Ny131 := Aside0.mk hy131
                                          clear hy131
                                          have H' := Aside0.mk H
                                          clear H
                                          go_wp2_with (first | ((with_reducible refine gate_builtin (b := .append) (xs := #[.tmp 98, .tmp 108]) rfl ?_); (try (refine gate_guard (by rfl) ?_; dsimp only)); at_builtin; refine Kd.R_append Kd.bool (w0 := w) w.heap.size rfl (.tmp 98) (.tmp 108) 25 4 (.bool false) 1 rfl Try.underlying25 info4 rfl (by decide) (by omega) u9 x9_5 false [.bool false] (fun _ => True) (fun _ => False) rfl rfl ?aP (fun _ hk => hk.elim) ?aF ?aO ?aB ?aS ?aL ?_; (case aP => exact rfl); (case aB => exact (by repeat (first | (with_reducible first | exact HB.out | apply below_alloc | apply pw_below_drewN | apply below_drew1) | exact HB.out))); (case aF => exact (fun _ _ => trivial)); (case aO => exact (by (with_reducible repeat (first | apply Kd.R_alloc | apply Kd.R_drewN | apply Kd.R_drew)); exact HO_9.out)); (case aS => exact (below_size (by repeat (first | (with_reducible first | exact HB.out | apply below_alloc | apply pw_below_drewN | apply below_drew1) | exact HB.out)))); (case aL => have := LMc33.out; omega); intro v132 w34 ho hb hg hat; rw [← Ny131.out] at ho; have n0_ := Aside0.mk (Kd.R_over' (by (with_reducible repeat (first | apply Kd.R_alloc | apply Kd.R_drewN | apply Kd.R_drew)); exact HO_7.out) (Kd.R_typed (by (with_reducible repeat (first | apply Kd.R_alloc | apply Kd.R_drewN | apply Kd.R_drew)); exact HO_9.out)) (by decide) hg); have n1_ := Aside0.mk (Kd.R_over' (by (with_reducible repeat (first | apply Kd.R_alloc | apply Kd.R_drewN | apply Kd.R_drew)); exact HO_8.out) (Kd.R_typed (by (with_reducible repeat (first | apply Kd.R_alloc | apply Kd.R_drewN | apply Kd.R_drew)); exact HO_9.out)) (by decide) hg); have n2_ := Aside0.mk (hb); have n3_ := Aside0.mk (ho); clear HO_7; clear HO_8; clear HB; clear HO_9; have HO_7 := n0_; have HO_8 := n1_; have HB := n2_; have HO133 := n3_; clear n0_ n1_ n2_ n3_; clear ho hb hg hat))
                                          go_roundg k5
                                          case measure => have := HK1.out; have := HJ11.out; have := HJ15.out; have := HJ18.out; have := HK5.out; omega
                                          case rel => exact ⟨(y131), (wrap64 (x16_5 - 1)), (by first | rfl | (simp; done) | (simp [*]; done)), H', ⟨by have := HK1.out; have := HJ11.out; have := HJ15.out; have := HJ18.out; have := HK5.out; omega⟩, ⟨by (with_reducible repeat (first | apply Kd.R_alloc | apply Kd.R_drewN | apply Kd.R_drew)); exact HO_7.out⟩, ⟨by (with_reducible repeat (first | apply Kd.R_alloc | apply Kd.R_drewN | apply Kd.R_drew)); exact HO_8.out⟩, ⟨by (with_reducible repeat (first | apply Kd.R_alloc | apply Kd.R_drewN | apply Kd.R_drew)); exact HO133.out⟩, ⟨by repeat (first | (with_reducible first | exact HB.out | apply below_alloc | apply pw_below_drewN | apply below_drew1) | exact HB.out)⟩⟩
                                        · rw [if_neg c33] at H
                                          exact absurd H (by simp)
                                    · rw [if_neg c27] at H
                                      have c27b0 : decide (0 ≤ x16_5) = false := decide_eq_false c27
                                      clear c27
                                      have H' := Aside0.mk H
                                      clear H
                                      go_wp2
                                      go_roundg k5
                                      case measure => have := HK1.out; have := HJ11.out; have := HJ15.out; have := HJ18.out; have := HK5.out; omega
                                      case rel => exact ⟨(y121), (y125), (x9_5), (x10_11), (x11_18), (wrap64 (x48_1 + 1)), (by first | rfl | (simp; done) | (simp [*]; done)), (by first | rfl | (simp; done) | (simp [*]; done)), (by first | rfl | (simp; done) | (simp [*]; done)), H', ⟨by have := HK1.out; have := HJ11.out; have := HJ15.out; have := HJ18.out; have := HK5.out; omega⟩, ⟨by (with_reducible repeat (first | apply Kd.R_alloc | apply Kd.R_drewN | apply Kd.R_drew)); exact HO_7.out⟩, ⟨by (with_reducible repeat (first | apply Kd.R_alloc | apply Kd.R_drewN | apply Kd.R_drew)); exact HO_8.out⟩, ⟨by (with_reducible repeat (first | apply Kd.R_alloc | apply Kd.R_drewN | apply Kd.R_drew)); exact HO_9.out⟩, ⟨by repeat (first | (with_reducible first | exact HB.out | apply below_alloc | apply pw_below_drewN | apply below_drew1) | exact HB.out)⟩⟩
                              · rw [if_neg c25] at H
                                exact absurd H (by simp)
                · rw [if_neg c11] at H
                  exact absurd H (by simp)
              · rw [if_neg c10] at H
                exact absurd H (by simp)
            · rw [if_neg c9] at H
              exact absurd H (by simp)
          · rw [if_neg c8] at H
            have c8b0 : decide (x48_1 < ((l0.take ((ji4) : Int).toNat).length : Int)) = false := decide_eq_false c8
            have c8b9 : decide (x48_1 < max ji4 0) = false := by rw [← hlen7.out]; exact c8b0
            clear c8
            obtain ⟨ji35, hji35⟩ : ∃ j_ : Int, (wrap64 (Int.tdiv (wrap64 ((x9_1.length : Int) + 7)) 8)) = j_ := ⟨_, rfl⟩
            replace H : (if 0 ≤ (ji35) then (if (ji35 : Int).toNat ≤ 281474976710656 then (slipwaytop_TopFields.l2 k1 l1 a2 x7_1 x8_1 x9_1 x10_1 x11_1 (List.replicate (ji35 : Int).toNat 0) x9_1 (x9_1.length : Int) 0) else (none)) else (none)) = some r := by first | (rw [hji35] at H; exact H) | (simp only [hji35] at H ⊢; exact H)
            have hji35w : (IntKind.i64.wrap (Int.tdiv (wrap64 ((x9_1.length : Int) + 7)) 8)) = ji35 := (i64_w _).trans hji35
            by_cases c36 : 0 ≤ (ji35)
            · rw [if_pos c36] at H
              have c36b0 := eq_true c36
              have c36b1 : decide (0 ≤ (ji35)) = true := decide_eq_true c36
              clear c36
              by_cases c37 : (ji35 : Int).toNat ≤ 281474976710656
              · rw [if_pos c37] at H
                have c37b0 := eq_true c37
                have c37b1 : decide ((ji35 : Int).toNat ≤ 281474976710656) = true := decide_eq_true c37
                clear c37
                obtain ⟨y134, hy134⟩ : ∃ y_ : List Int, y_ = (List.replicate (ji35 : Int).toNat 0) := ⟨_, rfl⟩
                replace H : (slipwaytop_TopFields.l2 k1 l1 a2 x7_1 x8_1 x9_1 x10_1 x11_1 y134 x9_1 (x9_1.length : Int) 0) = some r := by first | (rw [hy134]; with_reducible exact H) | (have H2_ := (Option.bind_some _ _).symm.trans H; rw [hy134]; with_reducible exact H2_) | (have H2_ := (Option.bind_some _ _).symm.trans H; with_reducible exact H2_) | with_reducible exact H | (rw [hy134]; exact H) | exact H
                have Ny134 := Aside0.mk hy134
                clear hy134
                have H' := Aside0.mk H
                clear H
                obtain ⟨Ao38, co38, eo38⟩ := Kd.R_slice HO_9.out
                subst eo38
                go_wp2_with (first | ((with_reducible refine gate_dst (N := 115) rfl ?_); (try (refine gate_guard (by rfl) ?_; dsimp only)); refine Kd.R_make (Kd.int .u8) _ 5 rfl (N := 115) rfl 22 _ _ rfl ji35 rfl rfl Try.underlying22 (.int .u8 0) 1 info5 rfl (by decide) (by omega) 0 (ok := fun _ => True) (okp := fun _ => True) rfl (fun _ hk => hk) trivial (of_decide_eq_true (by first | (with_reducible assumption) | assumption)) (Nat.le_trans (Nat.mul_le_mul_right _ (of_decide_eq_true (by first | (with_reducible assumption) | assumption) : ji35.toNat ≤ 281474976710656)) (by omega)) (Below.refl _ _) (Nat.le_refl _) ?_; intro v135 w39 ho40 hb hg_ hnew_; clear hg_ hnew_; (first | rw [← Ny134.out] at ho40 | (simp only [Int.reduceToNat] at ho40; rw [← Ny134.out] at ho40)); have n0_ := Aside0.mk (Kd.R_below (by (with_reducible repeat (first | apply Kd.R_alloc | apply Kd.R_drewN | apply Kd.R_drew)); exact HO_7.out) hb); have n1_ := Aside0.mk (Kd.R_below (by (with_reducible repeat (first | apply Kd.R_alloc | apply Kd.R_drewN | apply Kd.R_drew)); exact HO_8.out) hb); have n2_ := Aside0.mk (Kd.R_below (by (with_reducible repeat (first | apply Kd.R_alloc | apply Kd.R_drewN | apply Kd.R_drew)); exact HO_9.out) hb); have n3_ := Aside0.mk (Kd.R_lower ho40 (below_size (by repeat (first | (with_reducible first | exact HB.out | apply below_alloc | apply pw_below_drewN | apply below_drew1) | exact HB.out)))); have n4_ := Aside0.mk (below_step (by repeat (first | (with_reducible first | exact HB.out | apply below_alloc | apply pw_below_drewN | apply below_drew1) | exact HB.out)) hb); clear HO_7; clear HO_8; clear HO_9; clear HB; have HO_7 := n0_; have HO_8 := n1_; have HO_9 := n2_; have HO136 := n3_; have HB := n4_; clear n0_ n1_ n2_ n3_ n4_; clear hb ho40))
                go_loopg [118] k1 (fun kq v118 w' => ∃ (x17_2 : List Int) (x118_2 : Int), v118 = .int .i64 x118_2 ∧ Aside0 (slipwaytop_TopFields.l2 kq l1 a2 x7_1 x8_1 x9_1 x10_1 x11_1 x17_2 x9_1 (x9_1.length : Int) x118_2 = some r) ∧ Aside0 (kq ≤ k1) ∧ Aside0 (Kd.R (Kd.int .i64) 3 w' w.heap.size (fun _ => True) u7 x7_1) ∧ Aside0 (Kd.R (Kd.int .u64) 26 w' w.heap.size (fun _ => True) u8 x8_1) ∧ Aside0 (Kd.R Kd.bool 4 w' w.heap.size (fun _ => True) (.slice Ao38 x9_1.length co38) x9_1) ∧ Aside0 (Kd.R (Kd.int .u8) 5 w' w.heap.size (fun _ => True) v135 x17_2) ∧ Aside0 (Kd.R Kd.bool 4 w' w.heap.size (fun _ => True) (.slice Ao38 x9_1.length co38) x9_1) ∧ Aside0 (Below w.heap.size w w'))
                case atStart => exact ⟨(y134), (0), (by first | rfl | (simp; done) | (simp [*]; done)), H', ⟨Nat.le_refl _⟩, ⟨by (with_reducible repeat (first | apply Kd.R_alloc | apply Kd.R_drewN | apply Kd.R_drew)); exact HO_7.out⟩, ⟨by (with_reducible repeat (first | apply Kd.R_alloc | apply Kd.R_drewN | apply Kd.R_drew)); exact HO_8.out⟩, ⟨by (with_reducible repeat (first | apply Kd.R_alloc | apply Kd.R_drewN | apply Kd.R_drew)); exact HO_9.out⟩, ⟨by (with_reducible repeat (first | apply Kd.R_alloc | apply Kd.R_drewN | apply Kd.R_drew)); exact HO136.out⟩, ⟨by (with_reducible repeat (first | apply Kd.R_alloc | apply Kd.R_drewN | apply Kd.R_drew)); exact HO_9.out⟩, ⟨by repeat (first | (with_reducible first | exact HB.out | apply below_alloc | apply pw_below_drewN | apply below_drew1) | exact HB.out)⟩⟩
                case round =>
                 as_aux_lemma =>
                  clear H'
                  try clear c1
                  try clear p1
                  try clear q1
                  try clear hx1
                  try clear c2
                  try clear p2
                  try clear c3
                  try clear c5
                  try clear c5b0
                  try clear c5b1
                  try clear c6
                  try clear c6b0
                  try clear c6b1
                  try clear p6
                  try clear c8
                  try clear c8b0
                  try clear c9
                  try clear c9b0
                  try clear c10
                  try clear c10b0
                  try clear c11
                  try clear p12
                  try clear q12
                  try clear hx12
                  try clear c14
                  try clear c15
                  try clear c15b0
                  try clear c17
                  try clear c17b0
                  try clear c18
                  try clear c18b0
                  try clear c20
                  try clear c21
                  try clear c21b0
                  try clear c23
                  try clear c23b0
                  try clear c23b1
                  try clear c25
                  try clear c27
                  try clear c27b0
                  try clear c28
                  try clear c28b0
                  try clear c29
                  try clear c29b0
                  try clear c29b1
                  try clear c31
                  try clear c33
                  try clear c36
                  try clear c36b0
                  try clear c36b1
                  try clear c37
                  try clear c37b0
                  try clear c37b1
                  try clear hx120_0
                  try clear hx124_0
                  try clear p1
                  try clear p12
                  try clear p120
                  try clear p124
                  try clear p2
                  try clear p6
                  try clear q1
                  try clear q12
                  try clear q120
                  try clear q124
                  obtain ⟨x17_2, x118_2, rfl, HA, HK2, HO_7, HO_8, HO_9, HO_17, HO_116, HB⟩ := hrel
                  cases gk with
                  | zero => exact absurd HA.out (by simp [slipwaytop_TopFields.l2])
                  | succ k2 =>
                    have H := HA.out
                    clear HA
                    simp only [slipwaytop_TopFields.l2] at H
                    by_cases c41 : x118_2 < (x9_1.length : Int)
                    · rw [if_pos c41] at H
                      have c41b0 : decide (x118_2 < (x9_1.length : Int)) = true := decide_eq_true c41
                      clear c41
                      by_cases c42 : 0 ≤ x118_2
                      · rw [if_pos c42] at H
                        have c42b0 : decide (0 ≤ x118_2) = true := decide_eq_true c42
                        clear c42
                        by_cases c43 : x118_2 < (x9_1.length : Int)
                        · rw [if_pos c43] at H
                          have c43b0 : decide (x118_2 < (x9_1.length : Int)) = true := decide_eq_true c43
                          clear c43
                          obtain ⟨bq44, hbq44⟩ : ∃ b_ : Bool, b_ = (rdOf false x9_1 x118_2) := ⟨_, rfl⟩
                          replace H : (if bq44 = true then (if 0 ≤ (wrap64 (Int.tdiv x118_2 8)) then (if (wrap64 (Int.tdiv x118_2 8)) < (x17_2.length : Int) then (if 0 ≤ (Int.tmod x118_2 8) then (slipwaytop_TopFields.l2 k2 l1 a2 x7_1 x8_1 x9_1 x10_1 x11_1 (x17_2.set ((wrap64 (Int.tdiv x118_2 8)) : Int).toNat (Go.bits .or .u8 (rd x17_2 (wrap64 (Int.tdiv x118_2 8))) (shr .u8 128 (Int.tmod x118_2 8)))) x9_1 (x9_1.length : Int) (wrap64 (x118_2 + 1))) else (none)) else (none)) else (none)) else (slipwaytop_TopFields.l2 k2 l1 a2 x7_1 x8_1 x9_1 x10_1 x11_1 x17_2 x9_1 (x9_1.length : Int) (wrap64 (x118_2 + 1)))) = some r := by rw [← hbq44] at H; exact H
                          have Nbq44 := Aside0.mk hbq44
                          clear hbq44
                          by_cases c45 : bq44 = true
                          · subst c45
                            have H1 : (if 0 ≤ (wrap64 (Int.tdiv x118_2 8)) then (if (wrap64 (Int.tdiv x118_2 8)) < (x17_2.length : Int) then (if 0 ≤ (Int.tmod x118_2 8) then (slipwaytop_TopFields.l2 k2 l1 a2 x7_1 x8_1 x9_1 x10_1 x11_1 (x17_2.set ((wrap64 (Int.tdiv x118_2 8)) : Int).toNat (Go.bits .or .u8 (rd x17_2 (wrap64 (Int.tdiv x118_2 8))) (shr .u8 128 (Int.tmod x118_2 8)))) x9_1 (x9_1.length : Int) (wrap64 (x118_2 + 1))) else (none)) else (none)) else (none)) = some r := by rw [if_pos rfl] at H; exact H
                            clear H
                            have H := H1
                            clear H1
                            obtain ⟨ji46, hji46⟩ : ∃ j_ : Int, (wrap64 (Int.tdiv x118_2 8)) = j_ := ⟨_, rfl⟩
                            replace H : (if 0 ≤ (ji46) then (if (ji46) < (x17_2.length : Int) then (if 0 ≤ (Int.tmod x118_2 8) then (slipwaytop_TopFields.l2 k2 l1 a2 x7_1 x8_1 x9_1 x10_1 x11_1 (x17_2.set ((ji46) : Int).toNat (Go.bits .or .u8 (rd x17_2 (ji46)) (shr .u8 128 (Int.tmod x118_2 8)))) x9_1 (x9_1.length : Int) (wrap64 (x118_2 + 1))) else (none)) else (none)) else (none)) = some r := by first | (rw [hji46] at H; exact H) | (simp only [hji46] at H ⊢; exact H)
                            have hji46w : (IntKind.i64.wrap (Int.tdiv x118_2 8)) = ji46 := (i64_w _).trans hji46
                            by_cases c47 : 0 ≤ (ji46)
                            · rw [if_pos c47] at H
                              have c47b0 : decide (0 ≤ (ji46)) = true := decide_eq_true c47
                              clear c47
                              by_cases c48 : (ji46) < (x17_2.length : Int)
                              · rw [if_pos c48] at H
                                have c48b0 : decide ((ji46) < (x17_2.length : Int)) = true := decide_eq_true c48
                                clear c48
                                obtain ⟨ji49, hji49⟩ : ∃ j_ : Int, (Int.tmod x118_2 8) = j_ := ⟨_, rfl⟩
                                replace H : (if 0 ≤ (ji49) then (slipwaytop_TopFields.l2 k2 l1 a2 x7_1 x8_1 x9_1 x10_1 x11_1 (x17_2.set ((ji46) : Int).toNat (Go.bits .or .u8 (rd x17_2 (ji46)) (shr .u8 128 (ji49)))) x9_1 (x9_1.length : Int) (wrap64 (x118_2 + 1))) else (none)) = some r := by first | (rw [hji49] at H; exact H) | (simp only [hji49] at H ⊢; exact H)
                                by_cases c50 : 0 ≤ (ji49)
                                · rw [if_pos c50] at H
                                  have c50b0 := eq_true c50
                                  have c50b1 : decide (0 ≤ (ji49)) = true := decide_eq_true c50
                                  clear c50
                                  obtain ⟨ji51, hji51⟩ : ∃ j_ : Int, (shr .u8 128 (ji49)) = j_ := ⟨_, rfl⟩
                                  replace H : (slipwaytop_TopFields.l2 k2 l1 a2 x7_1 x8_1 x9_1 x10_1 x11_1 (x17_2.set ((ji46) : Int).toNat (Go.bits .or .u8 (rd x17_2 (ji46)) (ji51))) x9_1 (x9_1.length : Int) (wrap64 (x118_2 + 1))) = some r := by first | (rw [hji51] at H; exact H) | (simp only [hji51] at H ⊢; exact H)
                                  have hji51_ : (128 / 2 ^ min (ji49).toNat 8) = ji51 := hji51
                                  have hji51z : (ji49) ≤ 8 → (128 / 2 ^ (ji49).toNat) = ji51 := shr_small hji51
                                  obtain ⟨y139, hy139⟩ : ∃ y_ : List Int, y_ = (x17_2.set ((ji46) : Int).toNat (Go.bits .or .u8 (rd x17_2 (ji46)) (ji51))) := ⟨_, rfl⟩
                                  replace H : (slipwaytop_TopFields.l2 k2 l1 a2 x7_1 x8_1 x9_1 x10_1 x11_1 y139 x9_1 (x9_1.length : Int) (wrap64 (x118_2 + 1))) = some r := by first | (rw [hy139]; with_reducible exact H) | (have H2_ := (Option.bind_some _ _).symm.trans H; rw [hy139]; with_reducible exact H2_) | (have H2_ := (Option.bind_some _ _).symm.trans H; with_reducible exact H2_) | with_reducible exact H | (rw [hy139]; exact H) | exact H
                                  have Ny139 := Aside0.mk hy139
                                  clear hy139
                                  have H' := Aside0.mk H
                                  clear H
                                  have p137 : 0 ≤ (x118_2 : Int) := of_decide_eq_true (by first | (with_reducible assumption) | assumption)
                                  have q137 : x118_2 < (x9_1.length : Int) := of_decide_eq_true (by first | (with_reducible assumption) | assumption)
                                  obtain ⟨ad137, e137, hx137_0⟩ := Kd.at_bool (Kd.R_reads' HO_116.out).2.2 x118_2 p137 q137
                                  (try rw [← Nbq44.out] at hx137_0)
                                  cases e137
                                  replace p137 := eq_true p137
                                  replace q137 := eq_true q137
                                  try go_wp2
                                  have n0_ := Aside0.mk (Kd.R_drew HO_7.out)
                                  have n1_ := Aside0.mk (Kd.R_drew HO_8.out)
                                  have n2_ := Aside0.mk (Kd.R_drew HO_9.out)
                                  have n3_ := Aside0.mk (Kd.R_drew HO_17.out)
                                  have n4_ := Aside0.mk (Kd.R_drew HO_116.out)
                                  have n5_ := Aside0.mk (below_drew1 HB.out)
                                  clear HO_7
                                  clear HO_8
                                  clear HO_9
                                  clear HO_17
                                  clear HO_116
                                  clear HB
                                  have HO_7 := n0_
                                  have HO_8 := n1_
                                  have HO_9 := n2_
                                  have HO_17 := n3_
                                  have HO_116 := n4_
                                  have HB := n5_
                                  clear n0_ n1_ n2_ n3_ n4_ n5_
                                  obtain ⟨Ao54, co54, eo54⟩ := Kd.R_slice HO_17.out
                                  (first | subst eo54 | (injection eo54 with f1_ f2_ f3_; have f4_ := f1_.symm; have f5_ := f3_.symm; clear f1_ f2_ f3_; subst f4_; subst f5_))
                                  have p138 : 0 ≤ ((ji46) : Int) := of_decide_eq_true (by first | (with_reducible assumption) | assumption)
                                  have q138 : (ji46) < (x17_2.length : Int) := of_decide_eq_true (by first | (with_reducible assumption) | assumption)
                                  obtain ⟨ad138, e138, hx138_0⟩ := Kd.at_int (Kd.R_reads' HO_17.out).2.2 (ji46) p138 q138
                                  cases e138
                                  replace p138 := eq_true p138
                                  replace q138 := eq_true q138
                                  have p52 : 0 ≤ ((ji46) : Int) := of_decide_eq_true (by first | (with_reducible assumption) | assumption)
                                  have q52 : ((ji46) : Int) < ((x17_2.length : Int) : Int) := of_decide_eq_true (by first | (with_reducible assumption) | assumption)
                                  obtain ⟨go52, co52, eo52, gb52, gl52, cl52, HG52⟩ := Kd.R_form HO_17.out (by omega)
                                  (first | cases eo52 | (injection eo52 with ea_ en_ ec_; (first | subst ea_ | (injection ea_ with ea_; subst ea_)); subst ec_; clear en_))
                                  have GB52 := Aside0.mk gb52
                                  have GG52 := Aside0.mk HG52
                                  clear gb52 gl52 HG52
                                  (first | simp only [add_plain] at hx138_0 | skip)
                                  obtain ⟨hx52_0, hf52_0⟩ := Kd.R_celln 0 HO_17.out ((ji46) : Int) p52 q52
                                  replace p52 := eq_true p52
                                  replace q52 := eq_true q52
                                  have HP55 := Kd.R_putn HO_17.out ((ji46) : Int) (Go.bits .or .u8 (rd x17_2 (ji46)) (ji51))
                                  rw [← Ny139.out] at HP55
                                  have HQ55 := Aside0.mk HP55
                                  clear HP55
                                  refine start_ (n := 11) (S := fun w' => w'.cell? ⟨go52, ((ji46)).toNat, none⟩ = some (.int .u8 (rd x17_2 (ji46)))) (ds := [10]) #[false, false, false, false, false, false, false, false, false, false, false] (by kernel_rfl) rfl rfl (hx138_0) (fun hHeld => ?_); refine with_tabW slipwaytop_TopFields.tab26 slipwaytop_TopFields.bits26 (fun HT_ HW_ => ?_)
                                  generalize wr.drew = w53 at HO_7 HO_8 HO_9 HO_17 HO_116 HB GG52 HQ55 hf52_0 hx138_0 hx52_0 hHeld ⊢
                                  refine pure_ (i := 0) (N := some 124) (v := ?_) (a' := ?_) #[true, false, false, false, false, false, false, false, false, false, false] rfl rfl (any_of HT_.out (by kernel_rfl)) (fun _ _ _ h => h) (Or.inl ⟨by rfl, ?_⟩) ?_ ?_
                                  rotate_left
                                  · intro w'
                                    go_simp
                                    with_reducible rfl
                                  rotate_left
                                  · simp only [Act.put, List.setIfInBounds_toArray, List.set_cons_zero, List.set_cons_succ, i64_w, i32_w]
                                    rfl
                                  refine pure_ (i := 1) (N := some 125) (v := ?_) (a' := ?_) #[true, true, false, false, false, false, false, false, false, false, false] rfl rfl (any_of HT_.out (by kernel_rfl)) (fun _ _ _ h => h) (Or.inl ⟨by rfl, ?_⟩) ?_ ?_
                                  rotate_left
                                  · intro w'
                                    go_simp
                                    with_reducible rfl
                                  rotate_left
                                  · simp only [Act.put, List.setIfInBounds_toArray, List.set_cons_zero, List.set_cons_succ, i64_w, i32_w]
                                    rfl
                                  refine pure_ (i := 2) (N := some 126) (v := ?_) (a' := ?_) #[true, true, true, false, false, false, false, false, false, false, false] rfl rfl (any_of HT_.out (by kernel_rfl)) (fun _ _ _ h => h) (Or.inl ⟨by rfl, ?_⟩) ?_ ?_
                                  rotate_left
                                  · intro w'
                                    go_simp
                                    with_reducible rfl
                                  rotate_left
                                  · simp only [Act.put, List.setIfInBounds_toArray, List.set_cons_zero, List.set_cons_succ, i64_w, i32_w]
                                    rfl
                                  refine pure_ (i := 3) (N := some 127) (v := ?_) (a' := ?_) #[true, true, true, true, false, false, false, false, false, false, false] rfl rfl (any_of HT_.out (by kernel_rfl)) (fun _ _ _ h => h) (Or.inl ⟨by rfl, ?_⟩) ?_ ?_
                                  rotate_left
                                  · intro w'
                                    go_simp
                                    with_reducible rfl
                                  rotate_left
                                  · simp only [Act.put, List.setIfInBounds_toArray, List.set_cons_zero, List.set_cons_succ, i64_w, i32_w]
                                    rfl
                                  refine pure_ (i := 5) (N := some 129) (v := ?_) (a' := ?_) #[true, true, true, true, false, true, false, false, false, false, false] rfl rfl (any_of HT_.out (by kernel_rfl)) (fun _ _ _ h => h) (Or.inl ⟨by rfl, ?_⟩) ?_ ?_
                                  rotate_left
                                  · intro w'
                                    go_simp
                                    with_reducible rfl
                                  rotate_left
                                  · simp only [Act.put, List.setIfInBounds_toArray, List.set_cons_zero, List.set_cons_succ, i64_w, i32_w]
                                    rfl
                                  refine pure_ (i := 6) (N := some 130) (v := ?_) (a' := ?_) #[true, true, true, true, false, true, true, false, false, false, false] rfl rfl (any_of HT_.out (by kernel_rfl)) (fun _ _ _ h => h) (Or.inl ⟨by rfl, ?_⟩) ?_ ?_
                                  rotate_left
                                  · intro w'
                                    go_simp
                                    with_reducible rfl
                                  rotate_left
                                  · simp only [Act.put, List.setIfInBounds_toArray, List.set_cons_zero, List.set_cons_succ, i64_w, i32_w]
                                    rfl
                                  refine pure_ (i := 7) (N := some 131) (v := ?_) (a' := ?_) #[true, true, true, true, false, true, true, true, false, false, false] rfl rfl (any_of HT_.out (by kernel_rfl)) (fun _ _ _ h => h) (Or.inl ⟨by rfl, ?_⟩) ?_ ?_
                                  rotate_left
                                  · intro w'
                                    go_simp
                                    with_reducible rfl
                                  rotate_left
                                  · simp only [Act.put, List.setIfInBounds_toArray, List.set_cons_zero, List.set_cons_succ, i64_w, i32_w]
                                    rfl
                                  refine take_ (i := 4) (N := some 128) (v := ?_) (a' := ?_) #[true, true, true, true, true, true, true, true, false, false, false] rfl rfl (take_ofW HT_.out HW_.out (by kernel_rfl)) (fun _ _ _ h => h) (Or.inl ⟨by rfl, ?_⟩) hHeld ?_ ?_
                                  rotate_left
                                  · intro w' s0
                                    go_simp
                                    with_reducible rfl
                                  rotate_left
                                  · simp only [Act.put, List.setIfInBounds_toArray, List.set_cons_zero, List.set_cons_succ, i64_w, i32_w]
                                    rfl
                                  refine pure_ (i := 8) (N := some 132) (v := ?_) (a' := ?_) #[true, true, true, true, true, true, true, true, true, false, false] rfl rfl (any_of HT_.out (by kernel_rfl)) (fun _ _ _ h => h) (Or.inl ⟨by rfl, ?_⟩) ?_ ?_
                                  rotate_left
                                  · intro w'
                                    go_simp
                                    with_reducible rfl
                                  rotate_left
                                  · simp only [Act.put, List.setIfInBounds_toArray, List.set_cons_zero, List.set_cons_succ, i64_w, i32_w]
                                    rfl
                                  refine pure_ (i := 9) (N := some 133) (v := ?_) (a' := ?_) #[true, true, true, true, true, true, true, true, true, true, false] rfl rfl (any_of HT_.out (by kernel_rfl)) (fun _ _ _ h => h) (Or.inl ⟨by rfl, ?_⟩) ?_ ?_
                                  rotate_left
                                  · intro w'
                                    go_simp
                                    with_reducible rfl
                                  rotate_left
                                  · simp only [Act.put, List.setIfInBounds_toArray, List.set_cons_zero, List.set_cons_succ, i64_w, i32_w]
                                    rfl
                                  refine last_ (i := 10) (N := none) #[true, true, true, true, true, true, true, true, true, true, true] rfl rfl (one_of HT_.out (by kernel_rfl)) (by decide) (fun K hK => ?_)
                                  refine skip_ (w1 := ?_) (by rfl) rfl ?_ ?_
                                  rotate_left
                                  · go_simp
                                    rfl
                                  refine hK.out _ _ ?_
                                  clear hK K
                                  refine done_ (done_of HT_.out (by kernel_rfl)) ?_
                                  try go_wp2
                                  first | (go_roundg k2) | ((simp only [← hji46]); go_roundg k2)
                                  case measure => have := HK1.out; have := HK2.out; omega
                                  case rel => (try simp only [hji46]); exact ⟨(y139), (wrap64 (x118_2 + 1)), (by first | rfl | (simp; done) | (simp [*]; done)), H', ⟨by have := HK1.out; have := HK2.out; omega⟩, ⟨by (with_reducible repeat (first | apply Kd.R_alloc | apply Kd.R_drewN | apply Kd.R_drew)); exact Kd.R_mono (Kd.R_far (p := ⟨go52, ((ji46) : Int).toNat, none⟩) (Kd.R_types HO_7.out GG52.out (by decide)) (fun _ hk => hk.2) (.int .u8 (Go.bits .or .u8 (rd x17_2 (ji46)) (ji51)))) (fun _ hk => trivial)⟩, ⟨by (with_reducible repeat (first | apply Kd.R_alloc | apply Kd.R_drewN | apply Kd.R_drew)); exact Kd.R_mono (Kd.R_far (p := ⟨go52, ((ji46) : Int).toNat, none⟩) (Kd.R_types HO_8.out GG52.out (by decide)) (fun _ hk => hk.2) (.int .u8 (Go.bits .or .u8 (rd x17_2 (ji46)) (ji51)))) (fun _ hk => trivial)⟩, ⟨by (with_reducible repeat (first | apply Kd.R_alloc | apply Kd.R_drewN | apply Kd.R_drew)); exact Kd.R_mono (Kd.R_far (p := ⟨go52, ((ji46) : Int).toNat, none⟩) (Kd.R_types HO_9.out GG52.out (by decide)) (fun _ hk => hk.2) (.int .u8 (Go.bits .or .u8 (rd x17_2 (ji46)) (ji51)))) (fun _ hk => trivial)⟩, ⟨by (with_reducible repeat (first | apply Kd.R_alloc | apply Kd.R_drewN | apply Kd.R_drew)); exact HQ55.out⟩, ⟨by (with_reducible repeat (first | apply Kd.R_alloc | apply Kd.R_drewN | apply Kd.R_drew)); exact Kd.R_mono (Kd.R_far (p := ⟨go52, ((ji46) : Int).toNat, none⟩) (Kd.R_types HO_116.out GG52.out (by decide)) (fun _ hk => hk.2) (.int .u8 (Go.bits .or .u8 (rd x17_2 (ji46)) (ji51)))) (fun _ hk => trivial)⟩, ⟨by repeat (first | (with_reducible first | exact HB.out | apply below_alloc | apply pw_below_drewN | apply below_drew1 | refine below_set ?_ GB52.out) | exact HB.out)⟩⟩
                                · rw [if_neg c50] at H
                                  exact absurd H (by simp)
                              · rw [if_neg c48] at H
                                exact absurd H (by simp)
                            · rw [if_neg c47] at H
                              exact absurd H (by simp)
                          · replace c45 := Bool.eq_false_iff.mpr c45
                            subst c45
                            have H1 : (slipwaytop_TopFields.l2 k2 l1 a2 x7_1 x8_1 x9_1 x10_1 x11_1 x17_2 x9_1 (x9_1.length : Int) (wrap64 (x118_2 + 1))) = some r := by rw [if_neg (show ¬ (false = true) by decide)] at H; exact H
                            clear H
                            have H := H1
                            clear H1
                            have H' := Aside0.mk H
                            clear H
                            have p137 : 0 ≤ (x118_2 : Int) := of_decide_eq_true (by first | (with_reducible assumption) | assumption)
                            have q137 : x118_2 < (x9_1.length : Int) := of_decide_eq_true (by first | (with_reducible assumption) | assumption)
                            obtain ⟨ad137, e137, hx137_0⟩ := Kd.at_bool (Kd.R_reads' HO_116.out).2.2 x118_2 p137 q137
                            (try rw [← Nbq44.out] at hx137_0)
                            cases e137
                            replace p137 := eq_true p137
                            replace q137 := eq_true q137
                            go_wp2
                            go_roundg k2
                            case measure => have := HK1.out; have := HK2.out; omega
                            case rel => exact ⟨(x17_2), (wrap64 (x118_2 + 1)), (by first | rfl | (simp; done) | (simp [*]; done)), H', ⟨by have := HK1.out; have := HK2.out; omega⟩, ⟨by (with_reducible repeat (first | apply Kd.R_alloc | apply Kd.R_drewN | apply Kd.R_drew)); exact HO_7.out⟩, ⟨by (with_reducible repeat (first | apply Kd.R_alloc | apply Kd.R_drewN | apply Kd.R_drew)); exact HO_8.out⟩, ⟨by (with_reducible repeat (first | apply Kd.R_alloc | apply Kd.R_drewN | apply Kd.R_drew)); exact HO_9.out⟩, ⟨by (with_reducible repeat (first | apply Kd.R_alloc | apply Kd.R_drewN | apply Kd.R_drew)); exact HO_17.out⟩, ⟨by (with_reducible repeat (first | apply Kd.R_alloc | apply Kd.R_drewN | apply Kd.R_drew)); exact HO_116.out⟩, ⟨by repeat (first | (with_reducible first | exact HB.out | apply below_alloc | apply pw_below_drewN | apply below_drew1) | exact HB.out)⟩⟩
                        · rw [if_neg c43] at H
                          exact absurd H (by simp)
                      · rw [if_neg c42] at H
                        exact absurd H (by simp)
                    · rw [if_neg c41] at H
                      have c41b0 : decide (x118_2 < (x9_1.length : Int)) = false := decide_eq_false c41
                      clear c41
                      replace H := Option.bind_eq_some_iff.mp H
                      obtain ⟨⟨t140, t141⟩, A560, H⟩ := H
                      replace H : (if x10_1 = true then (if 0 ≤ (mn (x8_1.length : Int) (l1.length : Int)) then (if (mn (x8_1.length : Int) (l1.length : Int)) ≤ (x8_1.length : Int) then ((seal_Pack.f k2 x7_1 (x8_1.take ((mn (x8_1.length : Int) (l1.length : Int)) : Int).toNat)).bind fun bt154 => (if t140 = (x17_2.length : Int) then (if t141 = 0 then (if (x11_1 != (bt154.2 == 0)) = true then (slipwaytop_TopFields.j6 k2 a2 x7_1 x8_1 x9_1 x17_2 true) else (if x11_1 = true then ((slices_Equal_byte_byte.f k2 bt154.1 x17_2).bind fun t158 => (if t158 = true then (slipwaytop_TopFields.j6 k2 a2 x7_1 x8_1 x9_1 x17_2 false) else (slipwaytop_TopFields.j6 k2 a2 x7_1 x8_1 x9_1 x17_2 true))) else (if bt154.2 = 1 then (slipwaytop_TopFields.j6 k2 a2 x7_1 x8_1 x9_1 x17_2 (decide ((bt154.1.length : Int) > 0))) else (slipwaytop_TopFields.j6 k2 a2 x7_1 x8_1 x9_1 x17_2 true)))) else (slipwaytop_TopFields.j6 k2 a2 x7_1 x8_1 x9_1 x17_2 true)) else (slipwaytop_TopFields.j6 k2 a2 x7_1 x8_1 x9_1 x17_2 true))) else (none)) else (none)) else ((seal_Pack.f k2 x7_1 x8_1).bind fun bt142 => ((seal_Unpack.f k2 x7_1 x17_2).bind fun bt146 => (if t140 = 0 then (if t141 = 1 then (if (wrap64 ((bt142.1.length : Int) + (bt146.1.length : Int))) = 0 then (if bt142.2 = 1 then (some (bt146.2 == 1)) else (some false)) else (some false)) else (some false)) else (some false))))) = some r := H
                      have A56 := Aside0.mk A560
                      clear A560
                      by_cases c57 : x10_1 = true
                      · subst c57
                        have H1 : (if 0 ≤ (mn (x8_1.length : Int) (l1.length : Int)) then (if (mn (x8_1.length : Int) (l1.length : Int)) ≤ (x8_1.length : Int) then ((seal_Pack.f k2 x7_1 (x8_1.take ((mn (x8_1.length : Int) (l1.length : Int)) : Int).toNat)).bind fun bt154 => (if t140 = (x17_2.length : Int) then (if t141 = 0 then (if (x11_1 != (bt154.2 == 0)) = true then (slipwaytop_TopFields.j6 k2 a2 x7_1 x8_1 x9_1 x17_2 true) else (if x11_1 = true then ((slices_Equal_byte_byte.f k2 bt154.1 x17_2).bind fun t158 => (if t158 = true then (slipwaytop_TopFields.j6 k2 a2 x7_1 x8_1 x9_1 x17_2 false) else (slipwaytop_TopFields.j6 k2 a2 x7_1 x8_1 x9_1 x17_2 true))) else (if bt154.2 = 1 then (slipwaytop_TopFields.j6 k2 a2 x7_1 x8_1 x9_1 x17_2 (decide ((bt154.1.length : Int) > 0))) else (slipwaytop_TopFields.j6 k2 a2 x7_1 x8_1 x9_1 x17_2 true)))) else (slipwaytop_TopFields.j6 k2 a2 x7_1 x8_1 x9_1 x17_2 true)) else (slipwaytop_TopFields.j6 k2 a2 x7_1 x8_1 x9_1 x17_2 true))) else (none)) else (none)) = some r := by rw [if_pos rfl] at H; exact H
                        clear H
                        have H := H1
                        clear H1
                        obtain ⟨ji58, hji58⟩ : ∃ j_ : Int, (mn (x8_1.length : Int) (l1.length : Int)) = j_ := ⟨_, rfl⟩
                        replace H : (if 0 ≤ (ji58) then (if (ji58) ≤ (x8_1.length : Int) then ((seal_Pack.f k2 x7_1 (x8_1.take ((ji58) : Int).toNat)).bind fun bt154 => (if t140 = (x17_2.length : Int) then (if t141 = 0 then (if (x11_1 != (bt154.2 == 0)) = true then (slipwaytop_TopFields.j6 k2 a2 x7_1 x8_1 x9_1 x17_2 true) else (if x11_1 = true then ((slices_Equal_byte_byte.f k2 bt154.1 x17_2).bind fun t158 => (if t158 = true then (slipwaytop_TopFields.j6 k2 a2 x7_1 x8_1 x9_1 x17_2 false) else (slipwaytop_TopFields.j6 k2 a2 x7_1 x8_1 x9_1 x17_2 true))) else (if bt154.2 = 1 then (slipwaytop_TopFields.j6 k2 a2 x7_1 x8_1 x9_1 x17_2 (decide ((bt154.1.length : Int) > 0))) else (slipwaytop_TopFields.j6 k2 a2 x7_1 x8_1 x9_1 x17_2 true)))) else (slipwaytop_TopFields.j6 k2 a2 x7_1 x8_1 x9_1 x17_2 true)) else (slipwaytop_TopFields.j6 k2 a2 x7_1 x8_1 x9_1 x17_2 true))) else (none)) else (none)) = some r := by first | (rw [hji58] at H; exact H) | (simp only [hji58] at H ⊢; exact H)
                        (try rw [hji58] at A56)
                        have hji58_ : (if (l1.length : Int) < (x8_1.length : Int) then (l1.length : Int) else (x8_1.length : Int)) = ji58 := hji58
                        have hji58n : (if l1.length < x8_1.length then (l1.length : Int) else (x8_1.length : Int)) = ji58 := by have h_ := hji58_; simp only [Int.ofNat_lt] at h_; exact h_
                        by_cases c59 : 0 ≤ (ji58)
                        · rw [if_pos c59] at H
                          have c59b0 := eq_true c59
                          have c59b1 : decide (0 ≤ (ji58)) = true := decide_eq_true c59
                          clear c59
                          by_cases c60 : (ji58) ≤ (x8_1.length : Int)
                          · rw [if_pos c60] at H
                            have c60b0 := eq_true c60
                            have c60b1 : decide ((ji58) ≤ (x8_1.length : Int)) = true := decide_eq_true c60
                            clear c60
                            obtain ⟨y150, hy150⟩ : ∃ y_ : List Int, y_ = (x8_1.take ((ji58) : Int).toNat) := ⟨_, rfl⟩
                            replace H : ((seal_Pack.f k2 x7_1 y150).bind fun bt154 => (if t140 = (x17_2.length : Int) then (if t141 = 0 then (if (x11_1 != (bt154.2 == 0)) = true then (slipwaytop_TopFields.j6 k2 a2 x7_1 x8_1 x9_1 x17_2 true) else (if x11_1 = true then ((slices_Equal_byte_byte.f k2 bt154.1 x17_2).bind fun t158 => (if t158 = true then (slipwaytop_TopFields.j6 k2 a2 x7_1 x8_1 x9_1 x17_2 false) else (slipwaytop_TopFields.j6 k2 a2 x7_1 x8_1 x9_1 x17_2 true))) else (if bt154.2 = 1 then (slipwaytop_TopFields.j6 k2 a2 x7_1 x8_1 x9_1 x17_2 (decide ((bt154.1.length : Int) > 0))) else (slipwaytop_TopFields.j6 k2 a2 x7_1 x8_1 x9_1 x17_2 true)))) else (slipwaytop_TopFields.j6 k2 a2 x7_1 x8_1 x9_1 x17_2 true)) else (slipwaytop_TopFields.j6 k2 a2 x7_1 x8_1 x9_1 x17_2 true))) = some r := by first | (rw [hy150]; with_reducible exact H) | (have H2_ := (Option.bind_some _ _).symm.trans H; rw [hy150]; with_reducible exact H2_) | (have H2_ := (Option.bind_some _ _).symm.trans H; with_reducible exact H2_) | with_reducible exact H | (rw [hy150]; exact H) | exact H
                            have Ny150 := Aside0.mk hy150
                            clear hy150
                            replace H := Option.bind_eq_some_iff.mp H
                            obtain ⟨⟨t154, t155⟩, A610, H⟩ := H
                            replace H : (if t140 = (x17_2.length : Int) then (if t141 = 0 then (if (x11_1 != (t155 == 0)) = true then (slipwaytop_TopFields.j6 k2 a2 x7_1 x8_1 x9_1 x17_2 true) else (if x11_1 = true then ((slices_Equal_byte_byte.f k2 t154 x17_2).bind fun t158 => (if t158 = true then (slipwaytop_TopFields.j6 k2 a2 x7_1 x8_1 x9_1 x17_2 false) else (slipwaytop_TopFields.j6 k2 a2 x7_1 x8_1 x9_1 x17_2 true))) else (if t155 = 1 then (slipwaytop_TopFields.j6 k2 a2 x7_1 x8_1 x9_1 x17_2 (decide ((t154.length : Int) > 0))) else (slipwaytop_TopFields.j6 k2 a2 x7_1 x8_1 x9_1 x17_2 true)))) else (slipwaytop_TopFields.j6 k2 a2 x7_1 x8_1 x9_1 x17_2 true)) else (slipwaytop_TopFields.j6 k2 a2 x7_1 x8_1 x9_1 x17_2 true)) = some r := H
                            have A61 := Aside0.mk A610
                            clear A610
                            have HC62 := Aside0.mk H
                            clear H
                            obtain ⟨Ao63, co63, eo63⟩ := Kd.R_slice HO_7.out
                            subst eo63
                            go_upto_region 34 with (first | ((with_reducible refine gate_callee (f := 6) rfl ?_); refine goesL_ (some 137) rfl rfl Try.func6 (by kernel_rfl) rfl #[.slice Ao63 x7_1.length co63] rfl (by (try simp only [List.map_toArray, List.map_cons, List.map_nil]); first | done | rfl | (simp only [List.length_drop, List.length_take]; rfl)) ?_; (with_reducible refine (seal_Width.calls k2 _ _ x7_1 t140 t141 _ ?side1 ?side2 A56.out).mono ?_); (case side1 => repeat (first | exact (Kd.R_reads' HO_7.out).2.2 | (with_reducible refine Kd.C_alloc ?_ _) | (with_reducible refine Kd.C_drewN ?_ _) | (with_reducible refine Kd.C_drew ?_))); (case side2 => exact (Kd.R_reads' HO_7.out).2.1); rintro e w' ⟨rfl, ⟨nd, rfl⟩⟩; refine ⟨_, rfl, ?_⟩; obtain ⟨Ao64, co64, eo64⟩ := Kd.R_slice HO_8.out; subst eo64; have q65 : ((ji58) : Int) ≤ ((x8_1.length : Int) : Int) := of_decide_eq_true (by first | (with_reducible assumption) | assumption); obtain ⟨i065, hi065, _, hsz65, _⟩ := info_parts info26; have hroom65 : x8_1.length ≤ co64 := (Kd.R_reads' HO_8.out).2.1; have hC65 : Kd.C (Kd.int .u64) _ Ao64 x8_1.length x8_1 := (Kd.R_reads' HO_8.out).2.2; have hcut65 := cut_to (P := Try.prog) 23 26 .i64 Try.underlying23 hi065 Ao64 x8_1.length co64 (ji58) (of_decide_eq_true (by first | (with_reducible assumption) | assumption)) q65 hroom65; have hr65 := Kd.C_take (m := ((ji58) : Int).toNat) hC65 (by omega); have hy65 : y150.length = ((ji58) : Int).toNat := (by rw [Ny150.out, List.length_take]; omega); rw [← Ny150.out] at hr65; rw [← hy65] at hcut65; have HR153 := Aside0.mk hr65; have HC153 := Aside0.mk (show y150.length ≤ co64 from by omega); clear hr65 hC65 hroom65 hi065 hsz65; have KY65 := Aside0.mk hy65; clear hy65; have KL65 := Aside0.mk (show ((ji58) : Int).toNat ≤ x8_1.length from by omega); replace q65 := eq_true q65) | ((with_reducible refine gate_callee (f := 7) rfl ?_); refine goesL_ (some 185) rfl rfl Try.func7 (by kernel_rfl) rfl #[.slice Ao63 x7_1.length co63, .slice Ao64 y150.length co64] rfl (by (try simp only [List.map_toArray, List.map_cons, List.map_nil]); first | done | rfl | (simp only [List.length_drop, List.length_take]; rfl)) ?_; (with_reducible refine (seal_Pack.calls k2 _ _ x7_1 _ _ y150 t154 t155 _ ?side1 ?side2 ?side3 ?side4 A61.out).mono ?_); (case side1 => repeat (first | exact (Kd.R_reads' HO_7.out).2.2 | (with_reducible refine Kd.C_alloc ?_ _) | (with_reducible refine Kd.C_drewN ?_ _) | (with_reducible refine Kd.C_drew ?_))); (case side2 => exact (Kd.R_reads' HO_7.out).2.1); (case side3 => repeat (first | exact (by repeat (first | (with_reducible exact HR153.out) | (with_reducible refine Kd.C_alloc ?_ _) | (with_reducible refine Kd.C_drewN ?_ _) | (with_reducible refine Kd.C_drew ?_) | exact HR153.out)) | (with_reducible refine Kd.C_alloc ?_ _) | (with_reducible refine Kd.C_drewN ?_ _) | (with_reducible refine Kd.C_drew ?_))); (case side4 => exact HC153.out); rintro e w66 ⟨v156, rfl, ho0, hb⟩; refine ⟨_, rfl, ?_⟩; have n0_ := Aside0.mk (Kd.R_below (by (with_reducible repeat (first | apply Kd.R_alloc | apply Kd.R_drewN | apply Kd.R_drew)); exact HO_7.out) hb); have n1_ := Aside0.mk (Kd.R_below (by (with_reducible repeat (first | apply Kd.R_alloc | apply Kd.R_drewN | apply Kd.R_drew)); exact HO_8.out) hb); have n2_ := Aside0.mk (Kd.R_below (by (with_reducible repeat (first | apply Kd.R_alloc | apply Kd.R_drewN | apply Kd.R_drew)); exact HO_9.out) hb); have n3_ := Aside0.mk (Kd.R_elder' (by (with_reducible repeat (first | apply Kd.R_alloc | apply Kd.R_drewN | apply Kd.R_drew)); exact HO_17.out) (Kd.R_base ho0) hb); have n4_ := Aside0.mk (Kd.R_below (by (with_reducible repeat (first | apply Kd.R_alloc | apply Kd.R_drewN | apply Kd.R_drew)); exact HO_116.out) hb); have n5_ := Aside0.mk (Kd.R_lower (Kd.R_new' ho0 (Kd.R_lt (by (with_reducible repeat (first | apply Kd.R_alloc | apply Kd.R_drewN | apply Kd.R_drew)); exact HO_17.out))) (below_size (by repeat (first | (with_reducible first | exact HB.out | apply below_alloc | apply pw_below_drewN | apply below_drew1) | exact HB.out)))); have n6_ := Aside0.mk (Kd.C_below (by repeat (first | (with_reducible exact HR153.out) | (with_reducible refine Kd.C_alloc ?_ _) | (with_reducible refine Kd.C_drewN ?_ _) | (with_reducible refine Kd.C_drew ?_) | exact HR153.out)) hb); have n7_ := Aside0.mk (below_step (by repeat (first | (with_reducible first | exact HB.out | apply below_alloc | apply pw_below_drewN | apply below_drew1) | exact HB.out)) hb); clear HO_7; clear HO_8; clear HO_9; clear HO_17; clear HO_116; clear HR153; clear HB; have HO_7 := n0_; have HO_8 := n1_; have HO_9 := n2_; have HO_17 := n3_; have HO_116 := n4_; have HO157 := n5_; have HR153 := n6_; have HB := n7_; clear n0_ n1_ n2_ n3_ n4_ n5_ n6_ n7_; (try clear hb); (try clear hb2); (try clear hk); (try clear hi); (try clear ho0)))
                            (try simp only [Act.put, List.setIfInBounds_toArray, List.set_cons_zero, List.set_cons_succ])
                            go_cut [223] (fun v223 wc => ∃ (kq : Nat) (x223_61 : Bool), v223 = .bool x223_61 ∧ Aside0 (slipwaytop_TopFields.j6 kq a2 x7_1 x8_1 x9_1 x17_2 x223_61 = some r) ∧ Aside0 (kq ≤ k2) ∧ Aside0 (Kd.R (Kd.int .i64) 3 wc w.heap.size (fun _ => True) (.slice Ao63 x7_1.length co63) x7_1) ∧ Aside0 (Kd.R (Kd.int .u64) 26 wc w.heap.size (fun _ => True) (.slice Ao64 x8_1.length co64) x8_1) ∧ Aside0 (Kd.R Kd.bool 4 wc w.heap.size (fun _ => True) (.slice Ao38 x9_1.length co38) x9_1) ∧ Aside0 (Kd.R (Kd.int .u8) 5 wc w.heap.size (fun _ => True) v135 x17_2) ∧ Aside0 (Kd.C (Kd.int .u64) wc Ao64 y150.length y150) ∧ Aside0 (Below w.heap.size w wc))
                            case first =>
                             as_aux_lemma =>
                              have H := HC62.out
                              clear HC62
                              by_cases c67 : t140 = (x17_2.length : Int)
                              · rw [if_pos c67] at H
                                have c67b0 : (t140 == (x17_2.length : Int)) = true := beq_iff_eq.mpr c67
                                have c67b1 : (t140 != (x17_2.length : Int)) = false := bne_eq_false_iff_eq.mpr c67
                                clear c67
                                (first | rw [c67b0] | (simp only [i64_w, i32_w]; rw [c67b0]) | skip)
                                by_cases c68 : t141 = 0
                                · rw [if_pos c68] at H
                                  have c68b0 : (t141 == 0) = true := beq_iff_eq.mpr c68
                                  have c68b1 : (t141 != 0) = false := bne_eq_false_iff_eq.mpr c68
                                  clear c68
                                  by_cases c69 : (x11_1 != (t155 == 0)) = true
                                  · rw [if_pos c69] at H
                                    have c69b0 : (x11_1 != (t155 == 0)) = true := c69
                                    (try (have c69b1 : decide (x11_1 = (t155 == 0)) = false := by simpa using c69))
                                    (try (have c69b2 : (x11_1 == (t155 == 0)) = false := by simpa using c69))
                                    (try (have c69b3 : ¬ (x11_1 = (t155 == 0)) := by simpa using c69))
                                    clear c69
                                    have H' := Aside0.mk H
                                    clear H
                                    obtain ⟨Ao70, co70, eo70⟩ := Kd.R_slice HO_17.out
                                    subst eo70
                                    go_wp2
                                    go_meet
                                    case rel => exact ⟨_, (true), (by first | rfl | (simp; done) | (simp [*]; done)), H', ⟨by have := HK1.out; have := HK2.out; first | omega | exact Nat.le_refl _⟩, ⟨by (with_reducible repeat (first | apply Kd.R_alloc | apply Kd.R_drewN | apply Kd.R_drew)); exact HO_7.out⟩, ⟨by (with_reducible repeat (first | apply Kd.R_alloc | apply Kd.R_drewN | apply Kd.R_drew)); exact HO_8.out⟩, ⟨by (with_reducible repeat (first | apply Kd.R_alloc | apply Kd.R_drewN | apply Kd.R_drew)); exact HO_9.out⟩, ⟨by (with_reducible repeat (first | apply Kd.R_alloc | apply Kd.R_drewN | apply Kd.R_drew)); exact Kd.R_mono HO_17.out (fun _ hk => trivial)⟩, ⟨by repeat (first | (with_reducible exact HR153.out) | (with_reducible refine Kd.C_alloc ?_ _) | (with_reducible refine Kd.C_drewN ?_ _) | (with_reducible refine Kd.C_drew ?_) | exact HR153.out)⟩, ⟨by repeat (first | (with_reducible first | exact HB.out | apply below_alloc | apply pw_below_drewN | apply below_drew1) | exact HB.out)⟩⟩
                                  · rw [if_neg c69] at H
                                    have c69b0 : (x11_1 != (t155 == 0)) = false := by simpa using c69
                                    (try (have c69b1 : decide (x11_1 = (t155 == 0)) = true := by simpa using c69))
                                    (try (have c69b2 : (x11_1 == (t155 == 0)) = true := by simpa using c69))
                                    clear c69
                                    by_cases c71 : x11_1 = true
                                    · subst c71
                                      have H1 : ((slices_Equal_byte_byte.f k2 t154 x17_2).bind fun t158 => (if t158 = true then (slipwaytop_TopFields.j6 k2 a2 x7_1 x8_1 x9_1 x17_2 false) else (slipwaytop_TopFields.j6 k2 a2 x7_1 x8_1 x9_1 x17_2 true))) = some r := by rw [if_pos rfl] at H; exact H
                                      clear H
                                      have H := H1
                                      clear H1
                                      replace H := Option.bind_eq_some_iff.mp H
                                      obtain ⟨t158, A720, H⟩ := H
                                      replace H : (if t158 = true then (slipwaytop_TopFields.j6 k2 a2 x7_1 x8_1 x9_1 x17_2 false) else (slipwaytop_TopFields.j6 k2 a2 x7_1 x8_1 x9_1 x17_2 true)) = some r := H
                                      have A72 := Aside0.mk A720
                                      clear A720
                                      by_cases c73 : t158 = true
                                      · subst c73
                                        have H1 : (slipwaytop_TopFields.j6 k2 a2 x7_1 x8_1 x9_1 x17_2 false) = some r := by rw [if_pos rfl] at H; exact H
                                        clear H
                                        have H := H1
                                        clear H1
                                        have H' := Aside0.mk H
                                        clear H
                                        obtain ⟨Ao74, co74, eo74⟩ := Kd.R_slice HO_17.out
                                        subst eo74
                                        obtain ⟨Ao75, co75, eo75⟩ := Kd.R_slice HO157.out
                                        subst eo75
                                        go_wp2_with (first | (go_at_call 9; (with_reducible refine (slices_Equal_byte_byte.calls k2 _ _ t154 _ _ x17_2 true _ ?side1 ?side2 ?side3 ?side4 A72.out).mono ?_); (case side1 => repeat (first | exact (Kd.R_reads' HO157.out).2.2 | (with_reducible refine Kd.C_alloc ?_ _) | (with_reducible refine Kd.C_drewN ?_ _) | (with_reducible refine Kd.C_drew ?_))); (case side2 => exact (Kd.R_reads' HO157.out).2.1); (case side3 => repeat (first | exact (Kd.R_reads' HO_17.out).2.2 | (with_reducible refine Kd.C_alloc ?_ _) | (with_reducible refine Kd.C_drewN ?_ _) | (with_reducible refine Kd.C_drew ?_))); (case side4 => exact (Kd.R_reads' HO_17.out).2.1); rintro e w' ⟨rfl, ⟨nd, rfl⟩⟩))
                                        go_meet
                                        case rel => exact ⟨_, (false), (by first | rfl | (simp; done) | (simp [*]; done)), H', ⟨by have := HK1.out; have := HK2.out; first | omega | exact Nat.le_refl _⟩, ⟨by (with_reducible repeat (first | apply Kd.R_alloc | apply Kd.R_drewN | apply Kd.R_drew)); exact HO_7.out⟩, ⟨by (with_reducible repeat (first | apply Kd.R_alloc | apply Kd.R_drewN | apply Kd.R_drew)); exact HO_8.out⟩, ⟨by (with_reducible repeat (first | apply Kd.R_alloc | apply Kd.R_drewN | apply Kd.R_drew)); exact HO_9.out⟩, ⟨by (with_reducible repeat (first | apply Kd.R_alloc | apply Kd.R_drewN | apply Kd.R_drew)); exact Kd.R_mono HO_17.out (fun _ hk => trivial)⟩, ⟨by repeat (first | (with_reducible exact HR153.out) | (with_reducible refine Kd.C_alloc ?_ _) | (with_reducible refine Kd.C_drewN ?_ _) | (with_reducible refine Kd.C_drew ?_) | exact HR153.out)⟩, ⟨by repeat (first | (with_reducible first | exact HB.out | apply below_alloc | apply pw_below_drewN | apply below_drew1) | exact HB.out)⟩⟩
                                      · replace c73 := Bool.eq_false_iff.mpr c73
                                        subst c73
                                        have H1 : (slipwaytop_TopFields.j6 k2 a2 x7_1 x8_1 x9_1 x17_2 true) = some r := by rw [if_neg (show ¬ (false = true) by decide)] at H; exact H
                                        clear H
                                        have H := H1
                                        clear H1
                                        have H' := Aside0.mk H
                                        clear H
                                        obtain ⟨Ao76, co76, eo76⟩ := Kd.R_slice HO_17.out
                                        subst eo76
                                        obtain ⟨Ao77, co77, eo77⟩ := Kd.R_slice HO157.out
                                        subst eo77
                                        go_wp2_with (first | (go_at_call 9; (with_reducible refine (slices_Equal_byte_byte.calls k2 _ _ t154 _ _ x17_2 false _ ?side1 ?side2 ?side3 ?side4 A72.out).mono ?_); (case side1 => repeat (first | exact (Kd.R_reads' HO157.out).2.2 | (with_reducible refine Kd.C_alloc ?_ _) | (with_reducible refine Kd.C_drewN ?_ _) | (with_reducible refine Kd.C_drew ?_))); (case side2 => exact (Kd.R_reads' HO157.out).2.1); (case side3 => repeat (first | exact (Kd.R_reads' HO_17.out).2.2 | (with_reducible refine Kd.C_alloc ?_ _) | (with_reducible refine Kd.C_drewN ?_ _) | (with_reducible refine Kd.C_drew ?_))); (case side4 => exact (Kd.R_reads' HO_17.out).2.1); rintro e w' ⟨rfl, ⟨nd, rfl⟩⟩))
                                        go_meet
                                        case rel => exact ⟨_, (true), (by first | rfl | (simp; done) | (simp [*]; done)), H', ⟨by have := HK1.out; have := HK2.out; first | omega | exact Nat.le_refl _⟩, ⟨by (with_reducible repeat (first | apply Kd.R_alloc | apply Kd.R_drewN | apply Kd.R_drew)); exact HO_7.out⟩, ⟨by (with_reducible repeat (first | apply Kd.R_alloc | apply Kd.R_drewN | apply Kd.R_drew)); exact HO_8.out⟩, ⟨by (with_reducible repeat (first | apply Kd.R_alloc | apply Kd.R_drewN | apply Kd.R_drew)); exact HO_9.out⟩, ⟨by (with_reducible repeat (first | apply Kd.R_alloc | apply Kd.R_drewN | apply Kd.R_drew)); exact Kd.R_mono HO_17.out (fun _ hk => trivial)⟩, ⟨by repeat (first | (with_reducible exact HR153.out) | (with_reducible refine Kd.C_alloc ?_ _) | (with_reducible refine Kd.C_drewN ?_ _) | (with_reducible refine Kd.C_drew ?_) | exact HR153.out)⟩, ⟨by repeat (first | (with_reducible first | exact HB.out | apply below_alloc | apply pw_below_drewN | apply below_drew1) | exact HB.out)⟩⟩
                                    · replace c71 := Bool.eq_false_iff.mpr c71
                                      subst c71
                                      have H1 : (if t155 = 1 then (slipwaytop_TopFields.j6 k2 a2 x7_1 x8_1 x9_1 x17_2 (decide ((t154.length : Int) > 0))) else (slipwaytop_TopFields.j6 k2 a2 x7_1 x8_1 x9_1 x17_2 true)) = some r := by rw [if_neg (show ¬ (false = true) by decide)] at H; exact H
                                      clear H
                                      have H := H1
                                      clear H1
                                      by_cases c78 : t155 = 1
                                      · rw [if_pos c78] at H
                                        have c78b0 : (t155 == 1) = true := beq_iff_eq.mpr c78
                                        have c78b1 : (t155 != 1) = false := bne_eq_false_iff_eq.mpr c78
                                        clear c78
                                        have H' := Aside0.mk H
                                        clear H
                                        obtain ⟨Ao79, co79, eo79⟩ := Kd.R_slice HO_17.out
                                        subst eo79
                                        obtain ⟨Ao80, co80, eo80⟩ := Kd.R_slice HO157.out
                                        subst eo80
                                        go_wp2
                                        go_meet
                                        case rel => exact ⟨_, (decide ((t154.length : Int) > 0)), (by first | rfl | (simp; done) | (simp [*]; done)), H', ⟨by have := HK1.out; have := HK2.out; first | omega | exact Nat.le_refl _⟩, ⟨by (with_reducible repeat (first | apply Kd.R_alloc | apply Kd.R_drewN | apply Kd.R_drew)); exact HO_7.out⟩, ⟨by (with_reducible repeat (first | apply Kd.R_alloc | apply Kd.R_drewN | apply Kd.R_drew)); exact HO_8.out⟩, ⟨by (with_reducible repeat (first | apply Kd.R_alloc | apply Kd.R_drewN | apply Kd.R_drew)); exact HO_9.out⟩, ⟨by (with_reducible repeat (first | apply Kd.R_alloc | apply Kd.R_drewN | apply Kd.R_drew)); exact Kd.R_mono HO_17.out (fun _ hk => trivial)⟩, ⟨by repeat (first | (with_reducible exact HR153.out) | (with_reducible refine Kd.C_alloc ?_ _) | (with_reducible refine Kd.C_drewN ?_ _) | (with_reducible refine Kd.C_drew ?_) | exact HR153.out)⟩, ⟨by repeat (first | (with_reducible first | exact HB.out | apply below_alloc | apply pw_below_drewN | apply below_drew1) | exact HB.out)⟩⟩
                                      · rw [if_neg c78] at H
                                        have c78b0 : (t155 == 1) = false := beq_eq_false_iff_ne.mpr c78
                                        have c78b1 : (t155 != 1) = true := bne_iff_ne.mpr c78
                                        have H' := Aside0.mk H
                                        clear H
                                        obtain ⟨Ao81, co81, eo81⟩ := Kd.R_slice HO_17.out
                                        subst eo81
                                        go_wp2
                                        go_meet
                                        case rel => exact ⟨_, (true), (by first | rfl | (simp; done) | (simp [*]; done)), H', ⟨by have := HK1.out; have := HK2.out; first | omega | exact Nat.le_refl _⟩, ⟨by (with_reducible repeat (first | apply Kd.R_alloc | apply Kd.R_drewN | apply Kd.R_drew)); exact HO_7.out⟩, ⟨by (with_reducible repeat (first | apply Kd.R_alloc | apply Kd.R_drewN | apply Kd.R_drew)); exact HO_8.out⟩, ⟨by (with_reducible repeat (first | apply Kd.R_alloc | apply Kd.R_drewN | apply Kd.R_drew)); exact HO_9.out⟩, ⟨by (with_reducible repeat (first | apply Kd.R_alloc | apply Kd.R_drewN | apply Kd.R_drew)); exact Kd.R_mono HO_17.out (fun _ hk => trivial)⟩, ⟨by repeat (first | (with_reducible exact HR153.out) | (with_reducible refine Kd.C_alloc ?_ _) | (with_reducible refine Kd.C_drewN ?_ _) | (with_reducible refine Kd.C_drew ?_) | exact HR153.out)⟩, ⟨by repeat (first | (with_reducible first | exact HB.out | apply below_alloc | apply pw_below_drewN | apply below_drew1) | exact HB.out)⟩⟩
                                · rw [if_neg c68] at H
                                  have c68b0 : (t141 == 0) = false := beq_eq_false_iff_ne.mpr c68
                                  have c68b1 : (t141 != 0) = true := bne_iff_ne.mpr c68
                                  have H' := Aside0.mk H
                                  clear H
                                  obtain ⟨Ao82, co82, eo82⟩ := Kd.R_slice HO_17.out
                                  subst eo82
                                  go_wp2
                                  go_meet
                                  case rel => exact ⟨_, (true), (by first | rfl | (simp; done) | (simp [*]; done)), H', ⟨by have := HK1.out; have := HK2.out; first | omega | exact Nat.le_refl _⟩, ⟨by (with_reducible repeat (first | apply Kd.R_alloc | apply Kd.R_drewN | apply Kd.R_drew)); exact HO_7.out⟩, ⟨by (with_reducible repeat (first | apply Kd.R_alloc | apply Kd.R_drewN | apply Kd.R_drew)); exact HO_8.out⟩, ⟨by (with_reducible repeat (first | apply Kd.R_alloc | apply Kd.R_drewN | apply Kd.R_drew)); exact HO_9.out⟩, ⟨by (with_reducible repeat (first | apply Kd.R_alloc | apply Kd.R_drewN | apply Kd.R_drew)); exact Kd.R_mono HO_17.out (fun _ hk => trivial)⟩, ⟨by repeat (first | (with_reducible exact HR153.out) | (with_reducible refine Kd.C_alloc ?_ _) | (with_reducible refine Kd.C_drewN ?_ _) | (with_reducible refine Kd.C_drew ?_) | exact HR153.out)⟩, ⟨by repeat (first | (with_reducible first | exact HB.out | apply below_alloc | apply pw_below_drewN | apply below_drew1) | exact HB.out)⟩⟩
                              · rw [if_neg c67] at H
                                have c67b0 : (t140 == (x17_2.length : Int)) = false := beq_eq_false_iff_ne.mpr c67
                                have c67b1 : (t140 != (x17_2.length : Int)) = true := bne_iff_ne.mpr c67
                                (first | rw [c67b0] | (simp only [i64_w, i32_w]; rw [c67b0]) | skip)
                                have H' := Aside0.mk H
                                clear H
                                obtain ⟨Ao83, co83, eo83⟩ := Kd.R_slice HO_17.out
                                subst eo83
                                go_wp2
                                go_meet
                                case rel => exact ⟨_, (true), (by first | rfl | (simp; done) | (simp [*]; done)), H', ⟨by have := HK1.out; have := HK2.out; first | omega | exact Nat.le_refl _⟩, ⟨by (with_reducible repeat (first | apply Kd.R_alloc | apply Kd.R_drewN | apply Kd.R_drew)); exact HO_7.out⟩, ⟨by (with_reducible repeat (first | apply Kd.R_alloc | apply Kd.R_drewN | apply Kd.R_drew)); exact HO_8.out⟩, ⟨by (with_reducible repeat (first | apply Kd.R_alloc | apply Kd.R_drewN | apply Kd.R_drew)); exact HO_9.out⟩, ⟨by (with_reducible repeat (first | apply Kd.R_alloc | apply Kd.R_drewN | apply Kd.R_drew)); exact Kd.R_mono HO_17.out (fun _ hk => trivial)⟩, ⟨by repeat (first | (with_reducible exact HR153.out) | (with_reducible refine Kd.C_alloc ?_ _) | (with_reducible refine Kd.C_drewN ?_ _) | (with_reducible refine Kd.C_drew ?_) | exact HR153.out)⟩, ⟨by repeat (first | (with_reducible first | exact HB.out | apply below_alloc | apply pw_below_drewN | apply below_drew1) | exact HB.out)⟩⟩
                            case rest =>
                             as_aux_lemma =>
                              clear HC62
                              try clear c1
                              try clear p1
                              try clear q1
                              try clear hx1
                              try clear c2
                              try clear p2
                              try clear c3
                              try clear c4
                              try clear q4
                              try clear c5
                              try clear c5b0
                              try clear c5b1
                              try clear p5
                              try clear q5
                              try clear hx5
                              try clear hf5
                              try clear c6
                              try clear c6b0
                              try clear c6b1
                              try clear p6
                              try clear q6
                              try clear c7
                              try clear c8
                              try clear c8b0
                              try clear c9
                              try clear c9b0
                              try clear c10
                              try clear c10b0
                              try clear c11
                              try clear p12
                              try clear q12
                              try clear hx12
                              try clear p13
                              try clear q13
                              try clear hx13
                              try clear c14
                              try clear c15
                              try clear c15b0
                              try clear c17
                              try clear c17b0
                              try clear c18
                              try clear c18b0
                              try clear c20
                              try clear c21
                              try clear c21b0
                              try clear c23
                              try clear c23b0
                              try clear c23b1
                              try clear c25
                              try clear c27
                              try clear c27b0
                              try clear c28
                              try clear c28b0
                              try clear c29
                              try clear c29b0
                              try clear c29b1
                              try clear c31
                              try clear c33
                              try clear c36
                              try clear c36b0
                              try clear c36b1
                              try clear c37
                              try clear c37b0
                              try clear c37b1
                              try clear c41
                              try clear c41b0
                              try clear c42
                              try clear c42b0
                              try clear c43
                              try clear c43b0
                              try clear q44
                              try clear c45
                              try clear c47
                              try clear c47b0
                              try clear c48
                              try clear c48b0
                              try clear c50
                              try clear c50b0
                              try clear c50b1
                              try clear p52
                              try clear q52
                              try clear hx52
                              try clear hf52
                              try clear c57
                              try clear c59
                              try clear c59b0
                              try clear c59b1
                              try clear c60
                              try clear c60b0
                              try clear c60b1
                              try clear p64
                              try clear q65
                              try clear c67
                              try clear c67b0
                              try clear c67b1
                              try clear c68
                              try clear c68b0
                              try clear c68b1
                              try clear c69
                              try clear c69b0
                              try clear c69b1
                              try clear c69b2
                              try clear c71
                              try clear c73
                              try clear c78
                              try clear c78b0
                              try clear c78b1
                              try clear hx120_0
                              try clear hx124_0
                              try clear hx137_0
                              try clear hx138_0
                              try clear hx52_0
                              try clear p1
                              try clear p12
                              try clear p120
                              try clear p124
                              try clear p137
                              try clear p138
                              try clear p2
                              try clear p52
                              try clear p6
                              try clear q1
                              try clear q12
                              try clear q120
                              try clear q124
                              try clear q137
                              try clear q138
                              try clear q52
                              try clear q65
                              obtain ⟨kq, x223_61, rfl, HA, HJ61, HO_7, HO_8, HO_9, HO_17, HR153, HB⟩ := hcut
                              cases kq with
                              | zero => exact absurd HA.out (by simp [slipwaytop_TopFields.j6])
                              | succ kj61 =>
                                have H := HA.out
                                clear HA
                                simp only [slipwaytop_TopFields.j6] at H
                                by_cases c84 : x223_61 = true
                                · subst c84
                                  have H1 : (some false) = some r := by rw [if_pos rfl] at H; exact H
                                  clear H
                                  have H := H1
                                  clear H1
                                  obtain rfl := Option.some.inj H
                                  go_wp2
                                  go_ret
                                  exact ⟨by first | rfl | (simp [errW_none, errW_some] <;> rfl) | (simp only [← hji4, ← hji35, ← hji58]; first | rfl | (simp [errW_none, errW_some] <;> rfl)) | (simp [*, errW_none, errW_some] <;> rfl), by repeat (first | (with_reducible first | exact HB.out | apply below_alloc | apply pw_below_drewN | apply below_drew1) | exact HB.out)⟩
                                · replace c84 := Bool.eq_false_iff.mpr c84
                                  subst c84
                                  have H1 : ((seal_Unpack.f kj61 x7_1 x17_2).bind fun bt159 => (slipwaytop_TopFields.l3 kj61 a2 x7_1 x8_1 x9_1 x17_2 bt159.2 bt159.1 x7_1 (x7_1.length : Int) 0)) = some r := by rw [if_neg (show ¬ (false = true) by decide)] at H; exact H
                                  clear H
                                  have H := H1
                                  clear H1
                                  replace H := Option.bind_eq_some_iff.mp H
                                  obtain ⟨⟨t159, t160⟩, A850, H⟩ := H
                                  replace H : (slipwaytop_TopFields.l3 kj61 a2 x7_1 x8_1 x9_1 x17_2 t160 t159 x7_1 (x7_1.length : Int) 0) = some r := H
                                  have A85 := Aside0.mk A850
                                  clear A850
                                  have H' := Aside0.mk H
                                  clear H
                                  obtain ⟨Ao86, co86, eo86⟩ := Kd.R_slice HO_17.out
                                  subst eo86
                                  go_wp2_with (first | ((with_reducible refine gate_callee (f := 8) rfl ?_); refine goesL_ (some 227) rfl rfl Try.func8 (by kernel_rfl) rfl #[.slice Ao63 x7_1.length co63, .slice Ao86 x17_2.length co86] rfl (by (try simp only [List.map_toArray, List.map_cons, List.map_nil]); first | done | rfl | (simp only [List.length_drop, List.length_take]; rfl)) ?_; (with_reducible refine (seal_Unpack.calls kj61 _ _ x7_1 _ _ x17_2 t159 t160 _ ?side1 ?side2 ?side3 ?side4 A85.out).mono ?_); (case side1 => repeat (first | exact (Kd.R_reads' HO_7.out).2.2 | (with_reducible refine Kd.C_alloc ?_ _) | (with_reducible refine Kd.C_drewN ?_ _) | (with_reducible refine Kd.C_drew ?_))); (case side2 => exact (Kd.R_reads' HO_7.out).2.1); (case side3 => repeat (first | exact (Kd.R_reads' HO_17.out).2.2 | (with_reducible refine Kd.C_alloc ?_ _) | (with_reducible refine Kd.C_drewN ?_ _) | (with_reducible refine Kd.C_drew ?_))); (case side4 => exact (Kd.R_reads' HO_17.out).2.1); rintro e w87 ⟨v161, rfl, ho0, hb⟩; refine ⟨_, rfl, ?_⟩; have n0_ := Aside0.mk (Kd.R_below (by (with_reducible repeat (first | apply Kd.R_alloc | apply Kd.R_drewN | apply Kd.R_drew)); exact HO_7.out) hb); have n1_ := Aside0.mk (Kd.R_elder' (by (with_reducible repeat (first | apply Kd.R_alloc | apply Kd.R_drewN | apply Kd.R_drew)); exact HO_8.out) (Kd.R_base ho0) hb); have n2_ := Aside0.mk (Kd.R_below (by (with_reducible repeat (first | apply Kd.R_alloc | apply Kd.R_drewN | apply Kd.R_drew)); exact HO_9.out) hb); have n3_ := Aside0.mk (Kd.R_below (by (with_reducible repeat (first | apply Kd.R_alloc | apply Kd.R_drewN | apply Kd.R_drew)); exact HO_17.out) hb); have n4_ := Aside0.mk (Kd.R_lower (Kd.R_new' ho0 (Kd.R_lt (by (with_reducible repeat (first | apply Kd.R_alloc | apply Kd.R_drewN | apply Kd.R_drew)); exact HO_8.out))) (below_size (by repeat (first | (with_reducible first | exact HB.out | apply below_alloc | apply pw_below_drewN | apply below_drew1) | exact HB.out)))); have n5_ := Aside0.mk (Kd.C_below (by repeat (first | (with_reducible exact HR153.out) | (with_reducible refine Kd.C_alloc ?_ _) | (with_reducible refine Kd.C_drewN ?_ _) | (with_reducible refine Kd.C_drew ?_) | exact HR153.out)) hb); have n6_ := Aside0.mk (below_step (by repeat (first | (with_reducible first | exact HB.out | apply below_alloc | apply pw_below_drewN | apply below_drew1) | exact HB.out)) hb); clear HO_7; clear HO_8; clear HO_9; clear HO_17; clear HR153; clear HB; have HO_7 := n0_; have HO_8 := n1_; have HO_9 := n2_; have HO_17 := n3_; have HO162 := n4_; have HR153 := n5_; have HB := n6_; clear n0_ n1_ n2_ n3_ n4_ n5_ n6_; (try clear hb); (try clear hb2); (try clear hk); (try clear hi); (try clear ho0)))
                                  go_loopg [232] kj61 (fun kq v232 w' => ∃ (x8_4 : List Int) (x232_4 : Int), v232 = .int .i64 x232_4 ∧ Aside0 (slipwaytop_TopFields.l3 kq a2 x7_1 x8_4 x9_1 x17_2 t160 t159 x7_1 (x7_1.length : Int) x232_4 = some r) ∧ Aside0 (kq ≤ kj61) ∧ Aside0 (Kd.R (Kd.int .i64) 3 w' w.heap.size (fun _ => True) (.slice Ao63 x7_1.length co63) x7_1) ∧ Aside0 (Kd.R (Kd.int .u64) 26 w' w.heap.size (fun k_ => some k_ ≠ (v161 : Value).ownBlock) (.slice Ao64 x8_1.length co64) x8_4) ∧ Aside0 (Kd.R Kd.bool 4 w' w.heap.size (fun _ => True) (.slice Ao38 x9_1.length co38) x9_1) ∧ Aside0 (Kd.R (Kd.int .u8) 5 w' w.heap.size (fun _ => True) (.slice Ao86 x17_2.length co86) x17_2) ∧ Aside0 (Kd.R (Kd.int .u64) 26 w' w.heap.size (fun k_ => some k_ ≠ ((.slice Ao64 x8_1.length co64) : Value).ownBlock) v161 t159) ∧ Aside0 (Kd.R (Kd.int .i64) 3 w' w.heap.size (fun _ => True) (.slice Ao63 x7_1.length co63) x7_1) ∧ Aside0 (Below w.heap.size w w'))
                                  case atStart => exact ⟨(x8_1), (0), (by first | rfl | (simp; done) | (simp [*]; done)), H', ⟨Nat.le_refl _⟩, ⟨by (with_reducible repeat (first | apply Kd.R_alloc | apply Kd.R_drewN | apply Kd.R_drew)); exact HO_7.out⟩, ⟨by (with_reducible repeat (first | apply Kd.R_alloc | apply Kd.R_drewN | apply Kd.R_drew)); exact Kd.R_mono HO_8.out (fun _ hk => hk.2)⟩, ⟨by (with_reducible repeat (first | apply Kd.R_alloc | apply Kd.R_drewN | apply Kd.R_drew)); exact HO_9.out⟩, ⟨by (with_reducible repeat (first | apply Kd.R_alloc | apply Kd.R_drewN | apply Kd.R_drew)); exact HO_17.out⟩, ⟨by (with_reducible repeat (first | apply Kd.R_alloc | apply Kd.R_drewN | apply Kd.R_drew)); exact Kd.R_mono HO162.out (fun _ hk => hk.2)⟩, ⟨by (with_reducible repeat (first | apply Kd.R_alloc | apply Kd.R_drewN | apply Kd.R_drew)); exact HO_7.out⟩, ⟨by repeat (first | (with_reducible first | exact HB.out | apply below_alloc | apply pw_below_drewN | apply below_drew1) | exact HB.out)⟩⟩
                                  case round =>
                                   as_aux_lemma =>
                                    clear H'
                                    try clear c1
                                    try clear p1
                                    try clear q1
                                    try clear hx1
                                    try clear c2
                                    try clear p2
                                    try clear c3
                                    try clear c4
                                    try clear q4
                                    try clear c5
                                    try clear c5b0
                                    try clear c5b1
                                    try clear p5
                                    try clear q5
                                    try clear hx5
                                    try clear hf5
                                    try clear c6
                                    try clear c6b0
                                    try clear c6b1
                                    try clear p6
                                    try clear q6
                                    try clear c7
                                    try clear c8
                                    try clear c8b0
                                    try clear c9
                                    try clear c9b0
                                    try clear c10
                                    try clear c10b0
                                    try clear c11
                                    try clear p12
                                    try clear q12
                                    try clear hx12
                                    try clear p13
                                    try clear q13
                                    try clear hx13
                                    try clear c14
                                    try clear c15
                                    try clear c15b0
                                    try clear c17
                                    try clear c17b0
                                    try clear c18
                                    try clear c18b0
                                    try clear c20
                                    try clear c21
                                    try clear c21b0
                                    try clear c23
                                    try clear c23b0
                                    try clear c23b1
                                    try clear c25
                                    try clear c27
                                    try clear c27b0
                                    try clear c28
                                    try clear c28b0
                                    try clear c29
                                    try clear c29b0
                                    try clear c29b1
                                    try clear c31
                                    try clear c33
                                    try clear c36
                                    try clear c36b0
                                    try clear c36b1
                                    try clear c37
                                    try clear c37b0
                                    try clear c37b1
                                    try clear c41
                                    try clear c41b0
                                    try clear c42
                                    try clear c42b0
                                    try clear c43
                                    try clear c43b0
                                    try clear q44
                                    try clear c45
                                    try clear c47
                                    try clear c47b0
                                    try clear c48
                                    try clear c48b0
                                    try clear c50
                                    try clear c50b0
                                    try clear c50b1
                                    try clear p52
                                    try clear q52
                                    try clear hx52
                                    try clear hf52
                                    try clear c57
                                    try clear c59
                                    try clear c59b0
                                    try clear c59b1
                                    try clear c60
                                    try clear c60b0
                                    try clear c60b1
                                    try clear p64
                                    try clear q65
                                    try clear c67
                                    try clear c67b0
                                    try clear c67b1
                                    try clear c68
                                    try clear c68b0
                                    try clear c68b1
                                    try clear c69
                                    try clear c69b0
                                    try clear c69b1
                                    try clear c69b2
                                    try clear c71
                                    try clear c73
                                    try clear c78
                                    try clear c78b0
                                    try clear c78b1
                                    try clear c84
                                    try clear hx120_0
                                    try clear hx124_0
                                    try clear hx137_0
                                    try clear hx138_0
                                    try clear hx52_0
                                    try clear p1
                                    try clear p12
                                    try clear p120
                                    try clear p124
                                    try clear p13
                                    try clear p137
                                    try clear p138
                                    try clear p2
                                    try clear p5
                                    try clear p52
                                    try clear p6
                                    try clear p64
                                    try clear q1
                                    try clear q12
                                    try clear q120
                                    try clear q124
                                    try clear q13
                                    try clear q137
                                    try clear q138
                                    try clear q4
                                    try clear q44
                                    try clear q5
                                    try clear q52
                                    try clear q6
                                    try clear q65
                                    obtain ⟨x8_4, x232_4, rfl, HA, HK4, HO_7, HO_8, HO_9, HO_17, HO_28, HO_230, HB⟩ := hrel
                                    have hl8_4 := (Kd.R_reads' HO_8.out).1
                                    rw [hl8_4] at HO_8
                                    (try simp only [hl8_4])
                                    (try simp only [hl8_4] at HO_7)
                                    (try simp only [hl8_4] at HO_9)
                                    (try simp only [hl8_4] at HO_17)
                                    (try simp only [hl8_4] at HO_28)
                                    (try simp only [hl8_4] at HO_230)
                                    cases gk with
                                    | zero => exact absurd HA.out (by simp [slipwaytop_TopFields.l3])
                                    | succ k4 =>
                                      have H := HA.out
                                      clear HA
                                      simp only [slipwaytop_TopFields.l3] at H
                                      by_cases c88 : x232_4 < (x7_1.length : Int)
                                      · rw [if_pos c88] at H
                                        have c88b0 : decide (x232_4 < (x7_1.length : Int)) = true := decide_eq_true c88
                                        clear c88
                                        by_cases c89 : 0 ≤ x232_4
                                        · rw [if_pos c89] at H
                                          have c89b0 : decide (0 ≤ x232_4) = true := decide_eq_true c89
                                          clear c89
                                          by_cases c90 : x232_4 < (x7_1.length : Int)
                                          · rw [if_pos c90] at H
                                            have c90b0 : decide (x232_4 < (x7_1.length : Int)) = true := decide_eq_true c90
                                            clear c90
                                            by_cases c91 : (rd x7_1 x232_4) < 64
                                            · rw [if_pos c91] at H
                                              have c91b0 : decide ((rd x7_1 x232_4) < 64) = true := decide_eq_true c91
                                              clear c91
                                              by_cases c92 : x232_4 < (x8_4.length : Int)
                                              · rw [if_pos c92] at H
                                                have c92b0 : decide (x232_4 < (x8_4.length : Int)) = true := decide_eq_true c92
                                                clear c92
                                                by_cases c93 : 0 ≤ (rd x7_1 x232_4)
                                                · rw [if_pos c93] at H
                                                  have c93b0 := eq_true c93
                                                  have c93b1 : decide (0 ≤ (rd x7_1 x232_4)) = true := decide_eq_true c93
                                                  clear c93
                                                  obtain ⟨ji94, hji94⟩ : ∃ j_ : Int, (shl .u64 1 (rd x7_1 x232_4)) = j_ := ⟨_, rfl⟩
                                                  replace H : (slipwaytop_TopFields.l3 k4 a2 x7_1 (x8_4.set (x232_4 : Int).toNat (Go.bits .and .u64 (rd x8_4 x232_4) (IntKind.u64.wrap ((ji94) - 1)))) x9_1 x17_2 t160 t159 x7_1 (x7_1.length : Int) (wrap64 (x232_4 + 1))) = some r := by first | (rw [hji94] at H; exact H) | (simp only [hji94] at H ⊢; exact H)
                                                  have hji94_ : (IntKind.u64.wrap (1 * 2 ^ min (rd x7_1 x232_4).toNat 64)) = ji94 := hji94
                                                  have hji94z : (rd x7_1 x232_4) ≤ 64 → (IntKind.u64.wrap (1 * 2 ^ (rd x7_1 x232_4).toNat)) = ji94 := shl_small hji94
                                                  have hji94u : (IntKind.u64.wrap (2 ^ min (rd x7_1 x232_4).toNat 64)) = ji94 := by have h_ := hji94_; rw [Int.one_mul] at h_; exact h_
                                                  have hji94v : (rd x7_1 x232_4) ≤ 64 → (IntKind.u64.wrap (2 ^ (rd x7_1 x232_4).toNat)) = ji94 := fun hle_ => by have h_ := hji94z hle_; rw [Int.one_mul] at h_; exact h_
                                                  obtain ⟨y165, hy165⟩ : ∃ y_ : List Int, y_ = (x8_4.set (x232_4 : Int).toNat (Go.bits .and .u64 (rd x8_4 x232_4) (IntKind.u64.wrap ((ji94) - 1)))) := ⟨_, rfl⟩
                                                  replace H : (slipwaytop_TopFields.l3 k4 a2 x7_1 y165 x9_1 x17_2 t160 t159 x7_1 (x7_1.length : Int) (wrap64 (x232_4 + 1))) = some r := by first | (rw [hy165]; with_reducible exact H) | (have H2_ := (Option.bind_some _ _).symm.trans H; rw [hy165]; with_reducible exact H2_) | (have H2_ := (Option.bind_some _ _).symm.trans H; with_reducible exact H2_) | with_reducible exact H | (rw [hy165]; exact H) | exact H
                                                  have Ny165 := Aside0.mk hy165
                                                  clear hy165
                                                  have H' := Aside0.mk H
                                                  clear H
                                                  have p163 : 0 ≤ (x232_4 : Int) := of_decide_eq_true (by first | (with_reducible assumption) | assumption)
                                                  have q163 : x232_4 < (x7_1.length : Int) := of_decide_eq_true (by first | (with_reducible assumption) | assumption)
                                                  obtain ⟨ad163, e163, hx163_0⟩ := Kd.at_int (Kd.R_reads' HO_230.out).2.2 x232_4 p163 q163
                                                  cases e163
                                                  replace p163 := eq_true p163
                                                  replace q163 := eq_true q163
                                                  try go_wp2
                                                  have n0_ := Aside0.mk (Kd.R_drew HO_7.out)
                                                  have n1_ := Aside0.mk (Kd.R_drew HO_8.out)
                                                  have n2_ := Aside0.mk (Kd.R_drew HO_9.out)
                                                  have n3_ := Aside0.mk (Kd.R_drew HO_17.out)
                                                  have n4_ := Aside0.mk (Kd.R_drew HO_28.out)
                                                  have n5_ := Aside0.mk (Kd.R_drew HO_230.out)
                                                  have n6_ := Aside0.mk (below_drew1 HB.out)
                                                  clear HO_7
                                                  clear HO_8
                                                  clear HO_9
                                                  clear HO_17
                                                  clear HO_28
                                                  clear HO_230
                                                  clear HB
                                                  have HO_7 := n0_
                                                  have HO_8 := n1_
                                                  have HO_9 := n2_
                                                  have HO_17 := n3_
                                                  have HO_28 := n4_
                                                  have HO_230 := n5_
                                                  have HB := n6_
                                                  clear n0_ n1_ n2_ n3_ n4_ n5_ n6_
                                                  have p164 : 0 ≤ (x232_4 : Int) := of_decide_eq_true (by first | (with_reducible assumption) | assumption)
                                                  have q164 : x232_4 < (x8_4.length : Int) := of_decide_eq_true (by first | (with_reducible assumption) | assumption)
                                                  obtain ⟨ad164, e164, hx164_0⟩ := Kd.at_int (Kd.R_reads' HO_8.out).2.2 x232_4 p164 q164
                                                  cases e164
                                                  replace p164 := eq_true p164
                                                  replace q164 := eq_true q164
                                                  have p95 : 0 ≤ (x232_4 : Int) := of_decide_eq_true (by first | (with_reducible assumption) | assumption)
                                                  have q95 : (x232_4 : Int) < ((x8_4.length : Int) : Int) := of_decide_eq_true (by first | (with_reducible assumption) | assumption)
                                                  obtain ⟨go95, co95, eo95, gb95, gl95, cl95, HG95⟩ := Kd.R_form HO_8.out (by omega)
                                                  (first | cases eo95 | (injection eo95 with ea_ en_ ec_; (first | subst ea_ | (injection ea_ with ea_; subst ea_)); subst ec_; clear en_))
                                                  have GB95 := Aside0.mk gb95
                                                  have GG95 := Aside0.mk HG95
                                                  clear gb95 gl95 HG95
                                                  (first | simp only [add_plain] at hx164_0 | skip)
                                                  obtain ⟨hx95_0, hf95_0⟩ := Kd.R_celln 0 HO_8.out (x232_4 : Int) p95 q95
                                                  replace p95 := eq_true p95
                                                  replace q95 := eq_true q95
                                                  have HP97 := Kd.R_putn HO_8.out (x232_4 : Int) (Go.bits .and .u64 (rd x8_4 x232_4) (IntKind.u64.wrap ((ji94) - 1)))
                                                  rw [← Ny165.out] at HP97
                                                  have HQ97 := Aside0.mk HP97
                                                  clear HP97
                                                  refine start_ (n := 10) (S := fun w' => w'.cell? ⟨go95, (x232_4).toNat, none⟩ = some (.int .u64 (rd x8_4 x232_4))) (ds := [9]) #[false, false, false, false, false, false, false, false, false, false] (by kernel_rfl) rfl rfl (hx164_0) (fun hHeld => ?_); refine with_tabW slipwaytop_TopFields.tab41 slipwaytop_TopFields.bits41 (fun HT_ HW_ => ?_)
                                                  generalize wr.drew = w96 at HO_7 HO_8 HO_9 HO_17 HO_28 HO_230 HB GG95 HQ97 hf95_0 hx164_0 hx95_0 hHeld ⊢
                                                  refine pure_ (i := 0) (N := some 239) (v := ?_) (a' := ?_) #[true, false, false, false, false, false, false, false, false, false] rfl rfl (any_of HT_.out (by kernel_rfl)) (fun _ _ _ h => h) (Or.inl ⟨by rfl, ?_⟩) ?_ ?_
                                                  rotate_left
                                                  · intro w'
                                                    go_simp
                                                    with_reducible rfl
                                                  rotate_left
                                                  · simp only [Act.put, List.setIfInBounds_toArray, List.set_cons_zero, List.set_cons_succ, i64_w, i32_w]
                                                    rfl
                                                  refine pure_ (i := 1) (N := some 240) (v := ?_) (a' := ?_) #[true, true, false, false, false, false, false, false, false, false] rfl rfl (any_of HT_.out (by kernel_rfl)) (fun _ _ _ h => h) (Or.inl ⟨by rfl, ?_⟩) ?_ ?_
                                                  rotate_left
                                                  · intro w'
                                                    go_simp
                                                    with_reducible rfl
                                                  rotate_left
                                                  · simp only [Act.put, List.setIfInBounds_toArray, List.set_cons_zero, List.set_cons_succ, i64_w, i32_w]
                                                    rfl
                                                  refine pure_ (i := 2) (N := some 241) (v := ?_) (a' := ?_) #[true, true, true, false, false, false, false, false, false, false] rfl rfl (any_of HT_.out (by kernel_rfl)) (fun _ _ _ h => h) (Or.inl ⟨by rfl, ?_⟩) ?_ ?_
                                                  rotate_left
                                                  · intro w'
                                                    go_simp
                                                    with_reducible rfl
                                                  rotate_left
                                                  · simp only [Act.put, List.setIfInBounds_toArray, List.set_cons_zero, List.set_cons_succ, i64_w, i32_w]
                                                    rfl
                                                  refine pure_ (i := 4) (N := some 243) (v := ?_) (a' := ?_) #[true, true, true, false, true, false, false, false, false, false] rfl rfl (any_of HT_.out (by kernel_rfl)) (fun _ _ _ h => h) (Or.inl ⟨by rfl, ?_⟩) ?_ ?_
                                                  rotate_left
                                                  · intro w'
                                                    go_simp
                                                    with_reducible rfl
                                                  rotate_left
                                                  · simp only [Act.put, List.setIfInBounds_toArray, List.set_cons_zero, List.set_cons_succ, i64_w, i32_w]
                                                    rfl
                                                  refine pure_ (i := 5) (N := some 244) (v := ?_) (a' := ?_) #[true, true, true, false, true, true, false, false, false, false] rfl rfl (any_of HT_.out (by kernel_rfl)) (fun _ _ _ h => h) (Or.inl ⟨by rfl, ?_⟩) ?_ ?_
                                                  rotate_left
                                                  · intro w'
                                                    go_simp
                                                    with_reducible rfl
                                                  rotate_left
                                                  · simp only [Act.put, List.setIfInBounds_toArray, List.set_cons_zero, List.set_cons_succ, i64_w, i32_w]
                                                    rfl
                                                  refine pure_ (i := 6) (N := some 245) (v := ?_) (a' := ?_) #[true, true, true, false, true, true, true, false, false, false] rfl rfl (any_of HT_.out (by kernel_rfl)) (fun _ _ _ h => h) (Or.inl ⟨by rfl, ?_⟩) ?_ ?_
                                                  rotate_left
                                                  · intro w'
                                                    go_simp
                                                    with_reducible rfl
                                                  rotate_left
                                                  · simp only [Act.put, List.setIfInBounds_toArray, List.set_cons_zero, List.set_cons_succ, i64_w, i32_w]
                                                    rfl
                                                  refine take_ (i := 3) (N := some 242) (v := ?_) (a' := ?_) #[true, true, true, true, true, true, true, false, false, false] rfl rfl (take_ofW HT_.out HW_.out (by kernel_rfl)) (fun _ _ _ h => h) (Or.inl ⟨by rfl, ?_⟩) hHeld ?_ ?_
                                                  rotate_left
                                                  · intro w' s0
                                                    go_simp
                                                    with_reducible rfl
                                                  rotate_left
                                                  · simp only [Act.put, List.setIfInBounds_toArray, List.set_cons_zero, List.set_cons_succ, i64_w, i32_w]
                                                    rfl
                                                  refine pure_ (i := 7) (N := some 246) (v := ?_) (a' := ?_) #[true, true, true, true, true, true, true, true, false, false] rfl rfl (any_of HT_.out (by kernel_rfl)) (fun _ _ _ h => h) (Or.inl ⟨by rfl, ?_⟩) ?_ ?_
                                                  rotate_left
                                                  · intro w'
                                                    go_simp
                                                    with_reducible rfl
                                                  rotate_left
                                                  · simp only [Act.put, List.setIfInBounds_toArray, List.set_cons_zero, List.set_cons_succ, i64_w, i32_w]
                                                    rfl
                                                  refine pure_ (i := 8) (N := some 247) (v := ?_) (a' := ?_) #[true, true, true, true, true, true, true, true, true, false] rfl rfl (any_of HT_.out (by kernel_rfl)) (fun _ _ _ h => h) (Or.inl ⟨by rfl, ?_⟩) ?_ ?_
                                                  rotate_left
                                                  · intro w'
                                                    go_simp
                                                    with_reducible rfl
                                                  rotate_left
                                                  · simp only [Act.put, List.setIfInBounds_toArray, List.set_cons_zero, List.set_cons_succ, i64_w, i32_w]
                                                    rfl
                                                  refine last_ (i := 9) (N := none) #[true, true, true, true, true, true, true, true, true, true] rfl rfl (one_of HT_.out (by kernel_rfl)) (by decide) (fun K hK => ?_)
                                                  refine skip_ (w1 := ?_) (by rfl) rfl ?_ ?_
                                                  rotate_left
                                                  · go_simp
                                                    rfl
                                                  refine hK.out _ _ ?_
                                                  clear hK K
                                                  refine done_ (done_of HT_.out (by kernel_rfl)) ?_
                                                  try go_wp2
                                                  (try simp only [← hl8_4])
                                                  go_roundg k4
                                                  case measure => have := HK1.out; have := HK2.out; have := HJ61.out; have := HK4.out; omega
                                                  case rel => exact ⟨(y165), (wrap64 (x232_4 + 1)), (by first | rfl | (simp; done) | (simp [*]; done)), H', ⟨by have := HK1.out; have := HK2.out; have := HJ61.out; have := HK4.out; omega⟩, ⟨by (try simp only [hl8_4]); (with_reducible repeat (first | apply Kd.R_alloc | apply Kd.R_drewN | apply Kd.R_drew)); exact Kd.R_mono (Kd.R_far (p := ⟨go95, (x232_4 : Int).toNat, none⟩) (Kd.R_types HO_7.out GG95.out (by decide)) (fun _ hk => hk.2) (.int .u64 (Go.bits .and .u64 (rd x8_4 x232_4) (IntKind.u64.wrap ((ji94) - 1))))) (fun _ hk => trivial)⟩, ⟨by (try simp only [hl8_4]); (with_reducible repeat (first | apply Kd.R_alloc | apply Kd.R_drewN | apply Kd.R_drew)); exact HQ97.out⟩, ⟨by (try simp only [hl8_4]); (with_reducible repeat (first | apply Kd.R_alloc | apply Kd.R_drewN | apply Kd.R_drew)); exact Kd.R_mono (Kd.R_far (p := ⟨go95, (x232_4 : Int).toNat, none⟩) (Kd.R_types HO_9.out GG95.out (by decide)) (fun _ hk => hk.2) (.int .u64 (Go.bits .and .u64 (rd x8_4 x232_4) (IntKind.u64.wrap ((ji94) - 1))))) (fun _ hk => trivial)⟩, ⟨by (try simp only [hl8_4]); (with_reducible repeat (first | apply Kd.R_alloc | apply Kd.R_drewN | apply Kd.R_drew)); exact Kd.R_mono (Kd.R_far (p := ⟨go95, (x232_4 : Int).toNat, none⟩) (Kd.R_types HO_17.out GG95.out (by decide)) (fun _ hk => hk.2) (.int .u64 (Go.bits .and .u64 (rd x8_4 x232_4) (IntKind.u64.wrap ((ji94) - 1))))) (fun _ hk => trivial)⟩, ⟨by (try simp only [hl8_4]); (with_reducible repeat (first | apply Kd.R_alloc | apply Kd.R_drewN | apply Kd.R_drew)); exact Kd.R_mono (Kd.R_far (p := ⟨go95, (x232_4 : Int).toNat, none⟩) (Kd.R_mono HO_28.out (fun k_ hk => (⟨hk, fun e_ => hk (by rw [e_]; rfl)⟩ : _ ∧ k_ ≠ go95))) (fun _ hk => hk.2) (.int .u64 (Go.bits .and .u64 (rd x8_4 x232_4) (IntKind.u64.wrap ((ji94) - 1))))) (fun _ hk => hk.1)⟩, ⟨by (try simp only [hl8_4]); (with_reducible repeat (first | apply Kd.R_alloc | apply Kd.R_drewN | apply Kd.R_drew)); exact Kd.R_mono (Kd.R_far (p := ⟨go95, (x232_4 : Int).toNat, none⟩) (Kd.R_types HO_230.out GG95.out (by decide)) (fun _ hk => hk.2) (.int .u64 (Go.bits .and .u64 (rd x8_4 x232_4) (IntKind.u64.wrap ((ji94) - 1))))) (fun _ hk => trivial)⟩, ⟨by repeat (first | (with_reducible first | exact HB.out | apply below_alloc | apply pw_below_drewN | apply below_drew1 | refine below_set ?_ GB95.out) | exact HB.out)⟩⟩
                                                · rw [if_neg c93] at H
                                                  exact absurd H (by simp)
                                              · rw [if_neg c92] at H
                                                exact absurd H (by simp)
                                            · rw [if_neg c91] at H
                                              have c91b0 : decide ((rd x7_1 x232_4) < 64) = false := decide_eq_false c91
                                              clear c91
                                              have H' := Aside0.mk H
                                              clear H
                                              have p163 : 0 ≤ (x232_4 : Int) := of_decide_eq_true (by first | (with_reducible assumption) | assumption)
                                              have q163 : x232_4 < (x7_1.length : Int) := of_decide_eq_true (by first | (with_reducible assumption) | assumption)
                                              obtain ⟨ad163, e163, hx163_0⟩ := Kd.at_int (Kd.R_reads' HO_230.out).2.2 x232_4 p163 q163
                                              cases e163
                                              replace p163 := eq_true p163
                                              replace q163 := eq_true q163
                                              go_wp2
                                              (try simp only [← hl8_4])
                                              go_roundg k4
                                              case measure => have := HK1.out; have := HK2.out; have := HJ61.out; have := HK4.out; omega
                                              case rel => exact ⟨(x8_4), (wrap64 (x232_4 + 1)), (by first | rfl | (simp; done) | (simp [*]; done)), H', ⟨by have := HK1.out; have := HK2.out; have := HJ61.out; have := HK4.out; omega⟩, ⟨by (try simp only [hl8_4]); (with_reducible repeat (first | apply Kd.R_alloc | apply Kd.R_drewN | apply Kd.R_drew)); exact HO_7.out⟩, ⟨by (try simp only [hl8_4]); (with_reducible repeat (first | apply Kd.R_alloc | apply Kd.R_drewN | apply Kd.R_drew)); exact HO_8.out⟩, ⟨by (try simp only [hl8_4]); (with_reducible repeat (first | apply Kd.R_alloc | apply Kd.R_drewN | apply Kd.R_drew)); exact HO_9.out⟩, ⟨by (try simp only [hl8_4]); (with_reducible repeat (first | apply Kd.R_alloc | apply Kd.R_drewN | apply Kd.R_drew)); exact HO_17.out⟩, ⟨by (try simp only [hl8_4]); (with_reducible repeat (first | apply Kd.R_alloc | apply Kd.R_drewN | apply Kd.R_drew)); exact HO_28.out⟩, ⟨by (try simp only [hl8_4]); (with_reducible repeat (first | apply Kd.R_alloc | apply Kd.R_drewN | apply Kd.R_drew)); exact HO_230.out⟩, ⟨by repeat (first | (with_reducible first | exact HB.out | apply below_alloc | apply pw_below_drewN | apply below_drew1) | exact HB.out)⟩⟩
                                          · rw [if_neg c90] at H
                                            exact absurd H (by simp)
                                        · rw [if_neg c89] at H
                                          exact absurd H (by simp)
                                      · rw [if_neg c88] at H
                                        have c88b0 : decide (x232_4 < (x7_1.length : Int)) = false := decide_eq_false c88
                                        clear c88
                                        replace H := Option.bind_eq_some_iff.mp H
                                        obtain ⟨t166, A980, H⟩ := H
                                        replace H : (if t166.length < 140737488355328 then ((seal_Unpack.f k4 x7_1 (t166 ++ [a2])).bind fun bt172 => (if t160 = 0 then ((slices_Equal_uint64_uint64.f k4 t159 x8_4).bind fun t176 => (if t176 = true then (slipwaytop_TopFields.j8 k4 x7_1 x9_1 x17_2 (bt172.2 != 3)) else (slipwaytop_TopFields.j8 k4 x7_1 x9_1 x17_2 true))) else (slipwaytop_TopFields.j8 k4 x7_1 x9_1 x17_2 true))) else (none)) = some r := H
                                        have A98 := Aside0.mk A980
                                        clear A980
                                        by_cases c99 : t166.length < 140737488355328
                                        · rw [if_pos c99] at H
                                          have LMc99 := Aside0.mk c99
                                          clear c99
                                          obtain ⟨y169, hy169⟩ : ∃ y_ : List Int, y_ = (t166 ++ [a2]) := ⟨_, rfl⟩
                                          replace H : ((seal_Unpack.f k4 x7_1 y169).bind fun bt172 => (if t160 = 0 then ((slices_Equal_uint64_uint64.f k4 t159 x8_4).bind fun t176 => (if t176 = true then (slipwaytop_TopFields.j8 k4 x7_1 x9_1 x17_2 (bt172.2 != 3)) else (slipwaytop_TopFields.j8 k4 x7_1 x9_1 x17_2 true))) else (slipwaytop_TopFields.j8 k4 x7_1 x9_1 x17_2 true))) = some r := by first | (rw [hy169]; with_reducible exact H) | (have H2_ := (Option.bind_some _ _).symm.trans H; rw [hy169]; with_reducible exact H2_) | (have H2_ := (Option.bind_some _ _).symm.trans H; with_reducible exact H2_) | with_reducible exact H | (rw [hy169]; exact H) | exact H
                                          have Ny169 := Aside0.mk hy169
                                          clear hy169
                                          replace H := Option.bind_eq_some_iff.mp H
                                          obtain ⟨⟨t172, t173⟩, A1000, H⟩ := H
                                          replace H : (if t160 = 0 then ((slices_Equal_uint64_uint64.f k4 t159 x8_4).bind fun t176 => (if t176 = true then (slipwaytop_TopFields.j8 k4 x7_1 x9_1 x17_2 (t173 != 3)) else (slipwaytop_TopFields.j8 k4 x7_1 x9_1 x17_2 true))) else (slipwaytop_TopFields.j8 k4 x7_1 x9_1 x17_2 true)) = some r := H
                                          have A100 := Aside0.mk A1000
                                          clear A1000
                                          have HC101 := Aside0.mk H
                                          clear H
                                          go_upto_region 44 with (first | ((with_reducible refine gate_callee (f := 10) rfl ?_); refine goesL_ (some 252) rfl rfl Try.func10 (by kernel_rfl) rfl #[.slice Ao86 x17_2.length co86] rfl (by (try simp only [List.map_toArray, List.map_cons, List.map_nil]); first | done | rfl | (simp only [List.length_drop, List.length_take]; rfl)) ?_; (with_reducible refine (slices_Clone_byte_byte.calls _ _ x17_2 t166 _ ?side1 ?side2 A98.out).mono ?_); (case side1 => repeat (first | exact (Kd.R_reads' HO_17.out).2.2 | (with_reducible refine Kd.C_alloc ?_ _) | (with_reducible refine Kd.C_drewN ?_ _) | (with_reducible refine Kd.C_drew ?_))); (case side2 => exact (Kd.R_reads' HO_17.out).2.1); rintro e w102 ⟨v167, rfl, ho0, hb⟩; refine ⟨_, rfl, ?_⟩; have n0_ := Aside0.mk (Kd.R_below (by (with_reducible repeat (first | apply Kd.R_alloc | apply Kd.R_drewN | apply Kd.R_drew)); exact HO_7.out) hb); have n1_ := Aside0.mk (Kd.R_below (by (with_reducible repeat (first | apply Kd.R_alloc | apply Kd.R_drewN | apply Kd.R_drew)); exact HO_8.out) hb); have n2_ := Aside0.mk (Kd.R_below (by (with_reducible repeat (first | apply Kd.R_alloc | apply Kd.R_drewN | apply Kd.R_drew)); exact HO_9.out) hb); have n3_ := Aside0.mk (Kd.R_elder' (by (with_reducible repeat (first | apply Kd.R_alloc | apply Kd.R_drewN | apply Kd.R_drew)); exact HO_17.out) (Kd.R_base ho0) hb); have n4_ := Aside0.mk (Kd.R_below (by (with_reducible repeat (first | apply Kd.R_alloc | apply Kd.R_drewN | apply Kd.R_drew)); exact HO_28.out) hb); have n5_ := Aside0.mk (Kd.R_below (by (with_reducible repeat (first | apply Kd.R_alloc | apply Kd.R_drewN | apply Kd.R_drew)); exact HO_230.out) hb); have n6_ := Aside0.mk (Kd.R_lower (Kd.R_new' ho0 (Kd.R_lt (by (with_reducible repeat (first | apply Kd.R_alloc | apply Kd.R_drewN | apply Kd.R_drew)); exact HO_17.out))) (below_size (by repeat (first | (with_reducible first | exact HB.out | apply below_alloc | apply pw_below_drewN | apply below_drew1) | exact HB.out)))); have n7_ := Aside0.mk (below_step (by repeat (first | (with_reducible first | exact HB.out | apply below_alloc | apply pw_below_drewN | apply below_drew1) | exact HB.out)) hb); clear HO_7; clear HO_8; clear HO_9; clear HO_17; clear HO_28; clear HO_230; clear HB; have HO_7 := n0_; have HO_8 := n1_; have HO_9 := n2_; have HO_17 := n3_; have HO_28 := n4_; have HO_230 := n5_; have HO168 := n6_; have HB := n7_; clear n0_ n1_ n2_ n3_ n4_ n5_ n6_ n7_; (try clear hb); (try clear hb2); (try clear hk); (try clear hi); (try clear ho0)) | ((with_reducible refine gate_builtin (b := .append) (xs := #[.tmp 252, .tmp 254]) rfl ?_); (try (refine gate_guard (by rfl) ?_; dsimp only)); at_builtin; refine Kd.R_append (Kd.int .u8) (w0 := w) w.heap.size rfl (.tmp 252) (.tmp 254) 22 5 (.int .u8 0) 1 rfl Try.underlying22 info5 rfl (by decide) (by omega) v167 t166 a2 [.int .u8 a2] (fun k_ => some k_ ≠ (.slice Ao86 x17_2.length co86 : Value).ownBlock) (fun _ => False) rfl rfl ?aP (fun _ hk => hk.elim) ?aF ?aO ?aB ?aS ?aL ?_; (case aP => exact rfl); (case aB => exact (by repeat (first | (with_reducible first | exact HB.out | apply below_alloc | apply pw_below_drewN | apply below_drew1) | exact HB.out))); (case aF => exact (fun k_ hk => Kd.fresh' (Kd.R_lt (by (with_reducible repeat (first | apply Kd.R_alloc | apply Kd.R_drewN | apply Kd.R_drew)); exact HO_17.out)) k_ hk)); (case aO => exact (by (with_reducible repeat (first | apply Kd.R_alloc | apply Kd.R_drewN | apply Kd.R_drew)); exact Kd.R_mono HO168.out (fun _ hk => hk.2))); (case aS => exact (below_size (by repeat (first | (with_reducible first | exact HB.out | apply below_alloc | apply pw_below_drewN | apply below_drew1) | exact HB.out)))); (case aL => have := LMc99.out; omega); intro v170 w103 ho hb hg hat; rw [← Ny169.out] at ho; have n0_ := Aside0.mk (Kd.R_over' (by (with_reducible repeat (first | apply Kd.R_alloc | apply Kd.R_drewN | apply Kd.R_drew)); exact HO_7.out) (Kd.R_typed (by (with_reducible repeat (first | apply Kd.R_alloc | apply Kd.R_drewN | apply Kd.R_drew)); exact HO168.out)) (by decide) hg); have n1_ := Aside0.mk (Kd.R_over' (by (with_reducible repeat (first | apply Kd.R_alloc | apply Kd.R_drewN | apply Kd.R_drew)); exact HO_8.out) (Kd.R_typed (by (with_reducible repeat (first | apply Kd.R_alloc | apply Kd.R_drewN | apply Kd.R_drew)); exact HO168.out)) (by decide) hg); have n2_ := Aside0.mk (Kd.R_over' (by (with_reducible repeat (first | apply Kd.R_alloc | apply Kd.R_drewN | apply Kd.R_drew)); exact HO_9.out) (Kd.R_typed (by (with_reducible repeat (first | apply Kd.R_alloc | apply Kd.R_drewN | apply Kd.R_drew)); exact HO168.out)) (by decide) hg); have n3_ := Aside0.mk (Kd.R_after (ok := (fun _ => True)) (by (with_reducible repeat (first | apply Kd.R_alloc | apply Kd.R_drewN | apply Kd.R_drew)); exact HO_17.out) hg hat); have n4_ := Aside0.mk (Kd.R_over' (by (with_reducible repeat (first | apply Kd.R_alloc | apply Kd.R_drewN | apply Kd.R_drew)); exact HO_28.out) (Kd.R_typed (by (with_reducible repeat (first | apply Kd.R_alloc | apply Kd.R_drewN | apply Kd.R_drew)); exact HO168.out)) (by decide) hg); have n5_ := Aside0.mk (Kd.R_over' (by (with_reducible repeat (first | apply Kd.R_alloc | apply Kd.R_drewN | apply Kd.R_drew)); exact HO_230.out) (Kd.R_typed (by (with_reducible repeat (first | apply Kd.R_alloc | apply Kd.R_drewN | apply Kd.R_drew)); exact HO168.out)) (by decide) hg); have n6_ := Aside0.mk (hb); have n7_ := Aside0.mk (ho); clear HO_7; clear HO_8; clear HO_9; clear HO_17; clear HO_28; clear HO_230; clear HB; clear HO168; have HO_7 := n0_; have HO_8 := n1_; have HO_9 := n2_; have HO_17 := n3_; have HO_28 := n4_; have HO_230 := n5_; have HB := n6_; have HO171 := n7_; clear n0_ n1_ n2_ n3_ n4_ n5_ n6_ n7_; clear ho hb hg hat; obtain ⟨Ao104, co104, eo104⟩ := Kd.R_slice HO171.out; subst eo104) | ((with_reducible refine gate_callee (f := 8) rfl ?_); refine goesL_ (some 256) rfl rfl Try.func8 (by kernel_rfl) rfl #[.slice Ao63 x7_1.length co63, .slice Ao104 y169.length co104] rfl (by (try simp only [List.map_toArray, List.map_cons, List.map_nil]); first | done | rfl | (simp only [List.length_drop, List.length_take]; rfl)) ?_; (with_reducible refine (seal_Unpack.calls k4 _ _ x7_1 _ _ y169 t172 t173 _ ?side1 ?side2 ?side3 ?side4 A100.out).mono ?_); (case side1 => repeat (first | exact (Kd.R_reads' HO_7.out).2.2 | (with_reducible refine Kd.C_alloc ?_ _) | (with_reducible refine Kd.C_drewN ?_ _) | (with_reducible refine Kd.C_drew ?_))); (case side2 => exact (Kd.R_reads' HO_7.out).2.1); (case side3 => repeat (first | exact (Kd.R_reads' HO171.out).2.2 | (with_reducible refine Kd.C_alloc ?_ _) | (with_reducible refine Kd.C_drewN ?_ _) | (with_reducible refine Kd.C_drew ?_))); (case side4 => exact (Kd.R_reads' HO171.out).2.1); rintro e w105 ⟨v174, rfl, ho0, hb⟩; refine ⟨_, rfl, ?_⟩; have n0_ := Aside0.mk (Kd.R_below (by (with_reducible repeat (first | apply Kd.R_alloc | apply Kd.R_drewN | apply Kd.R_drew)); exact HO_7.out) hb); have n1_ := Aside0.mk (Kd.R_elder' (by (with_reducible repeat (first | apply Kd.R_alloc | apply Kd.R_drewN | apply Kd.R_drew)); exact HO_8.out) (Kd.R_base ho0) hb); have n2_ := Aside0.mk (Kd.R_below (by (with_reducible repeat (first | apply Kd.R_alloc | apply Kd.R_drewN | apply Kd.R_drew)); exact HO_9.out) hb); have n3_ := Aside0.mk (Kd.R_below (by (with_reducible repeat (first | apply Kd.R_alloc | apply Kd.R_drewN | apply Kd.R_drew)); exact HO_17.out) hb); have n4_ := Aside0.mk (Kd.R_elder' (by (with_reducible repeat (first | apply Kd.R_alloc | apply Kd.R_drewN | apply Kd.R_drew)); exact HO_28.out) (Kd.R_base ho0) hb); have n5_ := Aside0.mk (Kd.R_below (by (with_reducible repeat (first | apply Kd.R_alloc | apply Kd.R_drewN | apply Kd.R_drew)); exact HO_230.out) hb); have n6_ := Aside0.mk (Kd.R_below (by (with_reducible repeat (first | apply Kd.R_alloc | apply Kd.R_drewN | apply Kd.R_drew)); exact HO171.out) hb); have n7_ := Aside0.mk (Kd.R_lower (Kd.R_new' (Kd.R_new' ho0 (Kd.R_lt (by (with_reducible repeat (first | apply Kd.R_alloc | apply Kd.R_drewN | apply Kd.R_drew)); exact HO_8.out))) (Kd.R_lt (by (with_reducible repeat (first | apply Kd.R_alloc | apply Kd.R_drewN | apply Kd.R_drew)); exact HO_28.out))) (below_size (by repeat (first | (with_reducible first | exact HB.out | apply below_alloc | apply pw_below_drewN | apply below_drew1) | exact HB.out)))); have n8_ := Aside0.mk (below_step (by repeat (first | (with_reducible first | exact HB.out | apply below_alloc | apply pw_below_drewN | apply below_drew1) | exact HB.out)) hb); clear HO_7; clear HO_8; clear HO_9; clear HO_17; clear HO_28; clear HO_230; clear HO171; clear HB; have HO_7 := n0_; have HO_8 := n1_; have HO_9 := n2_; have HO_17 := n3_; have HO_28 := n4_; have HO_230 := n5_; have HO171 := n6_; have HO175 := n7_; have HB := n8_; clear n0_ n1_ n2_ n3_ n4_ n5_ n6_ n7_ n8_; (try clear hb); (try clear hb2); (try clear hk); (try clear hi); (try clear ho0)))
                                          (try simp only [Act.put, List.setIfInBounds_toArray, List.set_cons_zero, List.set_cons_succ])
                                          go_cut [270] (fun v270 wc => ∃ (kq : Nat) (x270_100 : Bool), v270 = .bool x270_100 ∧ Aside0 (slipwaytop_TopFields.j8 kq x7_1 x9_1 x17_2 x270_100 = some r) ∧ Aside0 (kq ≤ k4) ∧ Aside0 (Kd.R (Kd.int .i64) 3 wc w.heap.size (fun _ => True) (.slice Ao63 x7_1.length co63) x7_1) ∧ Aside0 (Kd.R Kd.bool 4 wc w.heap.size (fun _ => True) (.slice Ao38 x9_1.length co38) x9_1) ∧ Aside0 (Kd.R (Kd.int .u8) 5 wc w.heap.size (fun _ => True) (.slice Ao86 x17_2.length co86) x17_2) ∧ Aside0 (Below w.heap.size w wc))
                                          case first =>
                                           as_aux_lemma =>
                                            have H := HC101.out
                                            clear HC101
                                            by_cases c106 : t160 = 0
                                            · rw [if_pos c106] at H
                                              have c106b0 : (t160 == 0) = true := beq_iff_eq.mpr c106
                                              have c106b1 : (t160 != 0) = false := bne_eq_false_iff_eq.mpr c106
                                              clear c106
                                              (first | rw [c106b0] | (simp only [i64_w, i32_w]; rw [c106b0]) | skip)
                                              replace H := Option.bind_eq_some_iff.mp H
                                              obtain ⟨t176, A1070, H⟩ := H
                                              replace H : (if t176 = true then (slipwaytop_TopFields.j8 k4 x7_1 x9_1 x17_2 (t173 != 3)) else (slipwaytop_TopFields.j8 k4 x7_1 x9_1 x17_2 true)) = some r := H
                                              have A107 := Aside0.mk A1070
                                              clear A1070
                                              by_cases c108 : t176 = true
                                              · subst c108
                                                have H1 : (slipwaytop_TopFields.j8 k4 x7_1 x9_1 x17_2 (t173 != 3)) = some r := by rw [if_pos rfl] at H; exact H
                                                clear H
                                                have H := H1
                                                clear H1
                                                have H' := Aside0.mk H
                                                clear H
                                                obtain ⟨Ao109, co109, eo109⟩ := Kd.R_slice HO_28.out
                                                subst eo109
                                                go_wp2_with (first | (go_at_call 11; (with_reducible refine (slices_Equal_uint64_uint64.calls k4 _ _ t159 _ _ x8_4 true _ ?side1 ?side2 ?side3 ?side4 A107.out).mono ?_); (case side1 => repeat (first | exact (Kd.R_reads' HO_28.out).2.2 | (with_reducible refine Kd.C_alloc ?_ _) | (with_reducible refine Kd.C_drewN ?_ _) | (with_reducible refine Kd.C_drew ?_))); (case side2 => exact (Kd.R_reads' HO_28.out).2.1); (case side3 => repeat (first | exact (Kd.R_reads' HO_8.out).2.2 | (with_reducible refine Kd.C_alloc ?_ _) | (with_reducible refine Kd.C_drewN ?_ _) | (with_reducible refine Kd.C_drew ?_))); (case side4 => exact (Kd.R_reads' HO_8.out).2.1); rintro e w' ⟨rfl, ⟨nd, rfl⟩⟩))
                                                go_meet
                                                case rel => exact ⟨_, ((t173 != 3)), (by first | rfl | (simp; done) | (simp [*]; done)), H', ⟨by have := HK1.out; have := HK2.out; have := HJ61.out; have := HK4.out; first | omega | exact Nat.le_refl _⟩, ⟨by (try simp only [hl8_4]); (with_reducible repeat (first | apply Kd.R_alloc | apply Kd.R_drewN | apply Kd.R_drew)); exact HO_7.out⟩, ⟨by (try simp only [hl8_4]); (with_reducible repeat (first | apply Kd.R_alloc | apply Kd.R_drewN | apply Kd.R_drew)); exact HO_9.out⟩, ⟨by (try simp only [hl8_4]); (with_reducible repeat (first | apply Kd.R_alloc | apply Kd.R_drewN | apply Kd.R_drew)); exact Kd.R_mono HO_17.out (fun _ hk => trivial)⟩, ⟨by repeat (first | (with_reducible first | exact HB.out | apply below_alloc | apply pw_below_drewN | apply below_drew1) | exact HB.out)⟩⟩
                                              · replace c108 := Bool.eq_false_iff.mpr c108
                                                subst c108
                                                have H1 : (slipwaytop_TopFields.j8 k4 x7_1 x9_1 x17_2 true) = some r := by rw [if_neg (show ¬ (false = true) by decide)] at H; exact H
                                                clear H
                                                have H := H1
                                                clear H1
                                                have H' := Aside0.mk H
                                                clear H
                                                obtain ⟨Ao110, co110, eo110⟩ := Kd.R_slice HO_28.out
                                                subst eo110
                                                go_wp2_with (first | (go_at_call 11; (with_reducible refine (slices_Equal_uint64_uint64.calls k4 _ _ t159 _ _ x8_4 false _ ?side1 ?side2 ?side3 ?side4 A107.out).mono ?_); (case side1 => repeat (first | exact (Kd.R_reads' HO_28.out).2.2 | (with_reducible refine Kd.C_alloc ?_ _) | (with_reducible refine Kd.C_drewN ?_ _) | (with_reducible refine Kd.C_drew ?_))); (case side2 => exact (Kd.R_reads' HO_28.out).2.1); (case side3 => repeat (first | exact (Kd.R_reads' HO_8.out).2.2 | (with_reducible refine Kd.C_alloc ?_ _) | (with_reducible refine Kd.C_drewN ?_ _) | (with_reducible refine Kd.C_drew ?_))); (case side4 => exact (Kd.R_reads' HO_8.out).2.1); rintro e w' ⟨rfl, ⟨nd, rfl⟩⟩))
                                                go_meet
                                                case rel => exact ⟨_, (true), (by first | rfl | (simp; done) | (simp [*]; done)), H', ⟨by have := HK1.out; have := HK2.out; have := HJ61.out; have := HK4.out; first | omega | exact Nat.le_refl _⟩, ⟨by (try simp only [hl8_4]); (with_reducible repeat (first | apply Kd.R_alloc | apply Kd.R_drewN | apply Kd.R_drew)); exact HO_7.out⟩, ⟨by (try simp only [hl8_4]); (with_reducible repeat (first | apply Kd.R_alloc | apply Kd.R_drewN | apply Kd.R_drew)); exact HO_9.out⟩, ⟨by (try simp only [hl8_4]); (with_reducible repeat (first | apply Kd.R_alloc | apply Kd.R_drewN | apply Kd.R_drew)); exact Kd.R_mono HO_17.out (fun _ hk => trivial)⟩, ⟨by repeat (first | (with_reducible first | exact HB.out | apply below_alloc | apply pw_below_drewN | apply below_drew1) | exact HB.out)⟩⟩
                                            · rw [if_neg c106] at H
                                              have c106b0 : (t160 == 0) = false := beq_eq_false_iff_ne.mpr c106
                                              have c106b1 : (t160 != 0) = true := bne_iff_ne.mpr c106
                                              (first | rw [c106b0] | (simp only [i64_w, i32_w]; rw [c106b0]) | skip)
                                              have H' := Aside0.mk H
                                              clear H
                                              go_wp2
                                              go_meet
                                              case rel => exact ⟨_, (true), (by first | rfl | (simp; done) | (simp [*]; done)), H', ⟨by have := HK1.out; have := HK2.out; have := HJ61.out; have := HK4.out; first | omega | exact Nat.le_refl _⟩, ⟨by (try simp only [hl8_4]); (with_reducible repeat (first | apply Kd.R_alloc | apply Kd.R_drewN | apply Kd.R_drew)); exact HO_7.out⟩, ⟨by (try simp only [hl8_4]); (with_reducible repeat (first | apply Kd.R_alloc | apply Kd.R_drewN | apply Kd.R_drew)); exact HO_9.out⟩, ⟨by (try simp only [hl8_4]); (with_reducible repeat (first | apply Kd.R_alloc | apply Kd.R_drewN | apply Kd.R_drew)); exact Kd.R_mono HO_17.out (fun _ hk => trivial)⟩, ⟨by repeat (first | (with_reducible first | exact HB.out | apply below_alloc | apply pw_below_drewN | apply below_drew1) | exact HB.out)⟩⟩
                                          case rest =>
                                           as_aux_lemma =>
                                            clear HC101
                                            try clear c1
                                            try clear p1
                                            try clear q1
                                            try clear hx1
                                            try clear c2
                                            try clear p2
                                            try clear c3
                                            try clear c4
                                            try clear q4
                                            try clear c5
                                            try clear c5b0
                                            try clear c5b1
                                            try clear p5
                                            try clear q5
                                            try clear hx5
                                            try clear hf5
                                            try clear c6
                                            try clear c6b0
                                            try clear c6b1
                                            try clear p6
                                            try clear q6
                                            try clear c7
                                            try clear c8
                                            try clear c8b0
                                            try clear c9
                                            try clear c9b0
                                            try clear p9
                                            try clear q9
                                            try clear hx9
                                            try clear hf9
                                            try clear c10
                                            try clear c10b0
                                            try clear c11
                                            try clear p12
                                            try clear q12
                                            try clear hx12
                                            try clear p13
                                            try clear q13
                                            try clear hx13
                                            try clear c14
                                            try clear c15
                                            try clear c15b0
                                            try clear p16
                                            try clear q16
                                            try clear hx16
                                            try clear c17
                                            try clear c17b0
                                            try clear c18
                                            try clear c18b0
                                            try clear c20
                                            try clear c21
                                            try clear c21b0
                                            try clear c23
                                            try clear c23b0
                                            try clear c23b1
                                            try clear c25
                                            try clear c27
                                            try clear c27b0
                                            try clear c28
                                            try clear c28b0
                                            try clear c29
                                            try clear c29b0
                                            try clear c29b1
                                            try clear c31
                                            try clear c33
                                            try clear c36
                                            try clear c36b0
                                            try clear c36b1
                                            try clear c37
                                            try clear c37b0
                                            try clear c37b1
                                            try clear c41
                                            try clear c41b0
                                            try clear c42
                                            try clear c42b0
                                            try clear c43
                                            try clear c43b0
                                            try clear q44
                                            try clear c45
                                            try clear c47
                                            try clear c47b0
                                            try clear c48
                                            try clear c48b0
                                            try clear c50
                                            try clear c50b0
                                            try clear c50b1
                                            try clear p52
                                            try clear q52
                                            try clear hx52
                                            try clear hf52
                                            try clear c57
                                            try clear c59
                                            try clear c59b0
                                            try clear c59b1
                                            try clear c60
                                            try clear c60b0
                                            try clear c60b1
                                            try clear p64
                                            try clear q65
                                            try clear c67
                                            try clear c67b0
                                            try clear c67b1
                                            try clear c68
                                            try clear c68b0
                                            try clear c68b1
                                            try clear c69
                                            try clear c69b0
                                            try clear c69b1
                                            try clear c69b2
                                            try clear c71
                                            try clear c73
                                            try clear c78
                                            try clear c78b0
                                            try clear c78b1
                                            try clear c84
                                            try clear c88
                                            try clear c88b0
                                            try clear c89
                                            try clear c89b0
                                            try clear c90
                                            try clear c90b0
                                            try clear c91
                                            try clear c91b0
                                            try clear c92
                                            try clear c92b0
                                            try clear c93
                                            try clear c93b0
                                            try clear c93b1
                                            try clear p95
                                            try clear q95
                                            try clear hx95
                                            try clear hf95
                                            try clear c99
                                            try clear c106
                                            try clear c106b0
                                            try clear c106b1
                                            try clear c108
                                            try clear hx120_0
                                            try clear hx124_0
                                            try clear hx137_0
                                            try clear hx138_0
                                            try clear hx163_0
                                            try clear hx164_0
                                            try clear hx52_0
                                            try clear hx95_0
                                            try clear p1
                                            try clear p12
                                            try clear p120
                                            try clear p124
                                            try clear p13
                                            try clear p137
                                            try clear p138
                                            try clear p163
                                            try clear p164
                                            try clear p2
                                            try clear p5
                                            try clear p52
                                            try clear p6
                                            try clear p64
                                            try clear p95
                                            try clear q1
                                            try clear q12
                                            try clear q120
                                            try clear q124
                                            try clear q13
                                            try clear q137
                                            try clear q138
                                            try clear q163
                                            try clear q164
                                            try clear q4
                                            try clear q44
                                            try clear q5
                                            try clear q52
                                            try clear q6
                                            try clear q65
                                            try clear q95
                                            obtain ⟨kq, x270_100, rfl, HA, HJ100, HO_7, HO_9, HO_17, HB⟩ := hcut
                                            cases kq with
                                            | zero => exact absurd HA.out (by simp [slipwaytop_TopFields.j8])
                                            | succ kj100 =>
                                              have H := HA.out
                                              clear HA
                                              simp only [slipwaytop_TopFields.j8] at H
                                              by_cases c111 : x270_100 = true
                                              · subst c111
                                                have H1 : (some false) = some r := by rw [if_pos rfl] at H; exact H
                                                clear H
                                                have H := H1
                                                clear H1
                                                obtain rfl := Option.some.inj H
                                                go_wp2
                                                go_ret
                                                exact ⟨by first | rfl | (simp [errW_none, errW_some] <;> rfl) | (simp only [← hji4, ← hji35, ← hji58]; first | rfl | (simp [errW_none, errW_some] <;> rfl)) | (simp [*, errW_none, errW_some] <;> rfl), by repeat (first | (with_reducible first | exact HB.out | apply below_alloc | apply pw_below_drewN | apply below_drew1) | exact HB.out)⟩
                                              · replace c111 := Bool.eq_false_iff.mpr c111
                                                subst c111
                                                have H1 : (if ((x9_1.length : Int) % 8) > 0 then (if 0 ≤ (wrap64 ((x17_2.length : Int) - 1)) then (if (wrap64 ((x17_2.length : Int) - 1)) < (x17_2.length : Int) then ((seal_Unpack.f kj100 x7_1 (x17_2.set ((wrap64 ((x17_2.length : Int) - 1)) : Int).toNat (Go.bits .or .u8 (rd x17_2 (wrap64 ((x17_2.length : Int) - 1))) 1))).bind fun bt179 => (if (bt179.1.length : Int) = 0 then (some (bt179.2 == 1)) else (some false))) else (none)) else (none)) else (some true)) = some r := by rw [if_neg (show ¬ (false = true) by decide)] at H; exact H
                                                clear H
                                                have H := H1
                                                clear H1
                                                by_cases c112 : ((x9_1.length : Int) % 8) > 0
                                                · rw [if_pos c112] at H
                                                  have c112b0 : decide (0 < ((x9_1.length : Int) % 8)) = true := decide_eq_true c112
                                                  clear c112
                                                  obtain ⟨ji113, hji113⟩ : ∃ j_ : Int, (wrap64 ((x17_2.length : Int) - 1)) = j_ := ⟨_, rfl⟩
                                                  replace H : (if 0 ≤ (ji113) then (if (ji113) < (x17_2.length : Int) then ((seal_Unpack.f kj100 x7_1 (x17_2.set ((ji113) : Int).toNat (Go.bits .or .u8 (rd x17_2 (ji113)) 1))).bind fun bt179 => (if (bt179.1.length : Int) = 0 then (some (bt179.2 == 1)) else (some false))) else (none)) else (none)) = some r := by first | (rw [hji113] at H; exact H) | (simp only [hji113] at H ⊢; exact H)
                                                  have hji113w : (IntKind.i64.wrap ((x17_2.length : Int) - 1)) = ji113 := (i64_w _).trans hji113
                                                  by_cases c114 : 0 ≤ (ji113)
                                                  · rw [if_pos c114] at H
                                                    have c114b0 : decide (0 ≤ (ji113)) = true := decide_eq_true c114
                                                    clear c114
                                                    by_cases c115 : (ji113) < (x17_2.length : Int)
                                                    · rw [if_pos c115] at H
                                                      have c115b0 : decide ((ji113) < (x17_2.length : Int)) = true := decide_eq_true c115
                                                      clear c115
                                                      obtain ⟨y178, hy178⟩ : ∃ y_ : List Int, y_ = (x17_2.set ((ji113) : Int).toNat (Go.bits .or .u8 (rd x17_2 (ji113)) 1)) := ⟨_, rfl⟩
                                                      replace H : ((seal_Unpack.f kj100 x7_1 y178).bind fun bt179 => (if (bt179.1.length : Int) = 0 then (some (bt179.2 == 1)) else (some false))) = some r := by first | (rw [hy178]; with_reducible exact H) | (have H2_ := (Option.bind_some _ _).symm.trans H; rw [hy178]; with_reducible exact H2_) | (have H2_ := (Option.bind_some _ _).symm.trans H; with_reducible exact H2_) | with_reducible exact H | (rw [hy178]; exact H) | exact H
                                                      have Ny178 := Aside0.mk hy178
                                                      clear hy178
                                                      replace H := Option.bind_eq_some_iff.mp H
                                                      obtain ⟨⟨t179, t180⟩, A1170, H⟩ := H
                                                      replace H : (if (t179.length : Int) = 0 then (some (t180 == 1)) else (some false)) = some r := H
                                                      have A117 := Aside0.mk A1170
                                                      clear A1170
                                                      by_cases c118 : (t179.length : Int) = 0
                                                      · rw [if_pos c118] at H
                                                        have c118b0 : ((t179.length : Int) == 0) = true := beq_iff_eq.mpr c118
                                                        have c118b1 : ((t179.length : Int) != 0) = false := bne_eq_false_iff_eq.mpr c118
                                                        clear c118
                                                        obtain rfl := Option.some.inj H
                                                        have p177 : 0 ≤ ((ji113) : Int) := of_decide_eq_true (by first | (with_reducible assumption) | assumption)
                                                        have q177 : (ji113) < (x17_2.length : Int) := of_decide_eq_true (by first | (with_reducible assumption) | assumption)
                                                        obtain ⟨ad177, e177, hx177_0⟩ := Kd.at_int (Kd.R_reads' HO_17.out).2.2 (ji113) p177 q177
                                                        cases e177
                                                        replace p177 := eq_true p177
                                                        replace q177 := eq_true q177
                                                        have p116 : 0 ≤ ((ji113) : Int) := of_decide_eq_true (by first | (with_reducible assumption) | assumption)
                                                        have q116 : ((ji113) : Int) < ((x17_2.length : Int) : Int) := of_decide_eq_true (by first | (with_reducible assumption) | assumption)
                                                        obtain ⟨go116, co116, eo116, gb116, gl116, cl116, HG116⟩ := Kd.R_form HO_17.out (by omega)
                                                        (first | cases eo116 | (injection eo116 with ea_ en_ ec_; (first | subst ea_ | (injection ea_ with ea_; subst ea_)); subst ec_; clear en_))
                                                        have GB116 := Aside0.mk gb116
                                                        have GG116 := Aside0.mk HG116
                                                        clear gb116 gl116 HG116
                                                        (first | simp only [add_plain] at hx177_0 | skip)
                                                        obtain ⟨hx116_0, hf116_0⟩ := Kd.R_celln 0 HO_17.out ((ji113) : Int) p116 q116
                                                        replace p116 := eq_true p116
                                                        replace q116 := eq_true q116
                                                        have HP119 := Kd.R_putg HO_17.out ((ji113) : Int) (Go.bits .or .u8 (rd x17_2 (ji113)) 1)
                                                        go_wp2_with (first | ((with_reducible refine gate_store (t := 5) (p := 282) rfl ?_); refine store_event (t := 5) (p := 282) (v := ?vo_w120) (w1 := (wc.setCell ⟨go116, ((ji113) : Int).toNat, none⟩ (.int .u8 (Go.bits .or .u8 (rd x17_2 (ji113)) 1)))) ?hg ?ho ?hn ?hr ?_; (case ho => rfl); (case hg => rfl); (case hn => rfl); (case hr => first | (go_simp; done) | (go_simp; rfl)); intro w120 hw; have hg : wc.grownBy w120 (some go116) := (by rw [hw]; exact HP119.2); have hp_ : Kd.R (Kd.int .u8) 5 w120 w.heap.size (fun _ => True) (.slice (some ⟨go116, 0, none⟩) x17_2.length co86) y178 := (by rw [hw, Ny178.out]; exact HP119.1); clear HP119; have n0_ := Aside0.mk (Kd.R_over' (v := (.slice (some ⟨go116, 0, none⟩) x17_2.length co86)) (by (with_reducible repeat (first | apply Kd.R_alloc | apply Kd.R_drewN | apply Kd.R_drew)); exact HO_7.out) (Kd.R_typed HO_17.out) (by decide) hg); have n1_ := Aside0.mk (Kd.R_over' (v := (.slice (some ⟨go116, 0, none⟩) x17_2.length co86)) (by (with_reducible repeat (first | apply Kd.R_alloc | apply Kd.R_drewN | apply Kd.R_drew)); exact HO_9.out) (Kd.R_typed HO_17.out) (by decide) hg); have n2_ := Aside0.mk (hp_); have n3_ := Aside0.mk ((by rw [hw]; exact below_set (HB.out) GB116.out : Below w.heap.size w w120)); clear HO_7; clear HO_9; clear HO_17; clear HB; have HO_7 := n0_; have HO_9 := n1_; have HO_17 := n2_; have HB := n3_; clear n0_ n1_ n2_ n3_; clear hg hw hp_) | ((with_reducible refine gate_callee (f := 8) rfl ?_); refine goesL_ (some 286) rfl rfl Try.func8 (by kernel_rfl) rfl #[.slice Ao63 x7_1.length co63, .slice (some ⟨go116, 0, none⟩) y178.length co86] rfl (by (try simp only [List.map_toArray, List.map_cons, List.map_nil]); first | done | (rw [show y178.length = x17_2.length from (Kd.R_reads' HO_17.out).1.symm] <;> rfl) | rfl | (simp only [List.length_drop, List.length_take]; rfl)) ?_; (with_reducible refine (seal_Unpack.calls kj100 _ _ x7_1 _ _ y178 t179 t180 _ ?side1 ?side2 ?side3 ?side4 A117.out).mono ?_); (case side1 => repeat (first | exact (Kd.R_reads' HO_7.out).2.2 | (with_reducible refine Kd.C_alloc ?_ _) | (with_reducible refine Kd.C_drewN ?_ _) | (with_reducible refine Kd.C_drew ?_))); (case side2 => exact (Kd.R_reads' HO_7.out).2.1); (case side3 => repeat (first | exact (Kd.R_reads' HO_17.out).2.2 | (with_reducible refine Kd.C_alloc ?_ _) | (with_reducible refine Kd.C_drewN ?_ _) | (with_reducible refine Kd.C_drew ?_))); (case side4 => rw [show y178.length = x17_2.length from (Kd.R_reads' HO_17.out).1.symm]; exact (Kd.R_reads' HO_17.out).2.1); rintro e w121 ⟨v181, rfl, ho0, hb⟩; refine ⟨_, rfl, ?_⟩; have n0_ := Aside0.mk (Kd.R_below (by (with_reducible repeat (first | apply Kd.R_alloc | apply Kd.R_drewN | apply Kd.R_drew)); exact HO_7.out) hb); have n1_ := Aside0.mk (Kd.R_below (by (with_reducible repeat (first | apply Kd.R_alloc | apply Kd.R_drewN | apply Kd.R_drew)); exact HO_9.out) hb); have n2_ := Aside0.mk (Kd.R_below (by (with_reducible repeat (first | apply Kd.R_alloc | apply Kd.R_drewN | apply Kd.R_drew)); exact HO_17.out) hb); have n3_ := Aside0.mk (Kd.R_lower ho0 (below_size (by repeat (first | (with_reducible first | exact HB.out | apply below_alloc | apply pw_below_drewN | apply below_drew1) | exact HB.out)))); have n4_ := Aside0.mk (below_step (by repeat (first | (with_reducible first | exact HB.out | apply below_alloc | apply pw_below_drewN | apply below_drew1) | exact HB.out)) hb); clear HO_7; clear HO_9; clear HO_17; clear HB; have HO_7 := n0_; have HO_9 := n1_; have HO_17 := n2_; have HO182 := n3_; have HB := n4_; clear n0_ n1_ n2_ n3_ n4_; (try clear hb); (try clear hb2); (try clear hk); (try clear hi); (try clear ho0); obtain ⟨Ao122, co122, eo122⟩ := Kd.R_slice HO182.out; subst eo122))
                                                        go_ret
                                                        exact ⟨by first | rfl | (simp [errW_none, errW_some] <;> rfl) | (simp only [← hji4, ← hji35, ← hji58, ← hji113]; first | rfl | (simp [errW_none, errW_some] <;> rfl)) | (simp [*, errW_none, errW_some] <;> rfl), by repeat (first | (with_reducible first | exact HB.out | apply below_alloc | apply pw_below_drewN | apply below_drew1) | exact HB.out)⟩
                                                      · rw [if_neg c118] at H
                                                        have c118b0 : ((t179.length : Int) == 0) = false := beq_eq_false_iff_ne.mpr c118
                                                        have c118b1 : ((t179.length : Int) != 0) = true := bne_iff_ne.mpr c118
                                                        have c118b2 : ¬ (t179 = []) := fun h_ => c118 (by rw [h_]; rfl)
                                                        obtain rfl := Option.some.inj H
                                                        have p177 : 0 ≤ ((ji113) : Int) := of_decide_eq_true (by first | (with_reducible assumption) | assumption)
                                                        have q177 : (ji113) < (x17_2.length : Int) := of_decide_eq_true (by first | (with_reducible assumption) | assumption)
                                                        obtain ⟨ad177, e177, hx177_0⟩ := Kd.at_int (Kd.R_reads' HO_17.out).2.2 (ji113) p177 q177
                                                        cases e177
                                                        replace p177 := eq_true p177
                                                        replace q177 := eq_true q177
                                                        have p116 : 0 ≤ ((ji113) : Int) := of_decide_eq_true (by first | (with_reducible assumption) | assumption)
                                                        have q116 : ((ji113) : Int) < ((x17_2.length : Int) : Int) := of_decide_eq_true (by first | (with_reducible assumption) | assumption)
                                                        obtain ⟨go116, co116, eo116, gb116, gl116, cl116, HG116⟩ := Kd.R_form HO_17.out (by omega)
                                                        (first | cases eo116 | (injection eo116 with ea_ en_ ec_; (first | subst ea_ | (injection ea_ with ea_; subst ea_)); subst ec_; clear en_))
                                                        have GB116 := Aside0.mk gb116
                                                        have GG116 := Aside0.mk HG116
                                                        clear gb116 gl116 HG116
                                                        (first | simp only [add_plain] at hx177_0 | skip)
                                                        obtain ⟨hx116_0, hf116_0⟩ := Kd.R_celln 0 HO_17.out ((ji113) : Int) p116 q116
                                                        replace p116 := eq_true p116
                                                        replace q116 := eq_true q116
                                                        have HP123 := Kd.R_putg HO_17.out ((ji113) : Int) (Go.bits .or .u8 (rd x17_2 (ji113)) 1)
                                                        go_wp2_with (first | ((with_reducible refine gate_store (t := 5) (p := 282) rfl ?_); refine store_event (t := 5) (p := 282) (v := ?vo_w124) (w1 := (wc.setCell ⟨go116, ((ji113) : Int).toNat, none⟩ (.int .u8 (Go.bits .or .u8 (rd x17_2 (ji113)) 1)))) ?hg ?ho ?hn ?hr ?_; (case ho => rfl); (case hg => rfl); (case hn => rfl); (case hr => first | (go_simp; done) | (go_simp; rfl)); intro w124 hw; have hg : wc.grownBy w124 (some go116) := (by rw [hw]; exact HP123.2); have hp_ : Kd.R (Kd.int .u8) 5 w124 w.heap.size (fun _ => True) (.slice (some ⟨go116, 0, none⟩) x17_2.length co86) y178 := (by rw [hw, Ny178.out]; exact HP123.1); clear HP123; have n0_ := Aside0.mk (Kd.R_over' (v := (.slice (some ⟨go116, 0, none⟩) x17_2.length co86)) (by (with_reducible repeat (first | apply Kd.R_alloc | apply Kd.R_drewN | apply Kd.R_drew)); exact HO_7.out) (Kd.R_typed HO_17.out) (by decide) hg); have n1_ := Aside0.mk (Kd.R_over' (v := (.slice (some ⟨go116, 0, none⟩) x17_2.length co86)) (by (with_reducible repeat (first | apply Kd.R_alloc | apply Kd.R_drewN | apply Kd.R_drew)); exact HO_9.out) (Kd.R_typed HO_17.out) (by decide) hg); have n2_ := Aside0.mk (hp_); have n3_ := Aside0.mk ((by rw [hw]; exact below_set (HB.out) GB116.out : Below w.heap.size w w124)); clear HO_7; clear HO_9; clear HO_17; clear HB; have HO_7 := n0_; have HO_9 := n1_; have HO_17 := n2_; have HB := n3_; clear n0_ n1_ n2_ n3_; clear hg hw hp_) | ((with_reducible refine gate_callee (f := 8) rfl ?_); refine goesL_ (some 286) rfl rfl Try.func8 (by kernel_rfl) rfl #[.slice Ao63 x7_1.length co63, .slice (some ⟨go116, 0, none⟩) y178.length co86] rfl (by (try simp only [List.map_toArray, List.map_cons, List.map_nil]); first | done | (rw [show y178.length = x17_2.length from (Kd.R_reads' HO_17.out).1.symm] <;> rfl) | rfl | (simp only [List.length_drop, List.length_take]; rfl)) ?_; (with_reducible refine (seal_Unpack.calls kj100 _ _ x7_1 _ _ y178 t179 t180 _ ?side1 ?side2 ?side3 ?side4 A117.out).mono ?_); (case side1 => repeat (first | exact (Kd.R_reads' HO_7.out).2.2 | (with_reducible refine Kd.C_alloc ?_ _) | (with_reducible refine Kd.C_drewN ?_ _) | (with_reducible refine Kd.C_drew ?_))); (case side2 => exact (Kd.R_reads' HO_7.out).2.1); (case side3 => repeat (first | exact (Kd.R_reads' HO_17.out).2.2 | (with_reducible refine Kd.C_alloc ?_ _) | (with_reducible refine Kd.C_drewN ?_ _) | (with_reducible refine Kd.C_drew ?_))); (case side4 => rw [show y178.length = x17_2.length from (Kd.R_reads' HO_17.out).1.symm]; exact (Kd.R_reads' HO_17.out).2.1); rintro e w125 ⟨v181, rfl, ho0, hb⟩; refine ⟨_, rfl, ?_⟩; have n0_ := Aside0.mk (Kd.R_below (by (with_reducible repeat (first | apply Kd.R_alloc | apply Kd.R_drewN | apply Kd.R_drew)); exact HO_7.out) hb); have n1_ := Aside0.mk (Kd.R_below (by (with_reducible repeat (first | apply Kd.R_alloc | apply Kd.R_drewN | apply Kd.R_drew)); exact HO_9.out) hb); have n2_ := Aside0.mk (Kd.R_below (by (with_reducible repeat (first | apply Kd.R_alloc | apply Kd.R_drewN | apply Kd.R_drew)); exact HO_17.out) hb); have n3_ := Aside0.mk (Kd.R_lower ho0 (below_size (by repeat (first | (with_reducible first | exact HB.out | apply below_alloc | apply pw_below_drewN | apply below_drew1) | exact HB.out)))); have n4_ := Aside0.mk (below_step (by repeat (first | (with_reducible first | exact HB.out | apply below_alloc | apply pw_below_drewN | apply below_drew1) | exact HB.out)) hb); clear HO_7; clear HO_9; clear HO_17; clear HB; have HO_7 := n0_; have HO_9 := n1_; have HO_17 := n2_; have HO182 := n3_; have HB := n4_; clear n0_ n1_ n2_ n3_ n4_; (try clear hb); (try clear hb2); (try clear hk); (try clear hi); (try clear ho0); obtain ⟨Ao126, co126, eo126⟩ := Kd.R_slice HO182.out; subst eo126))
                                                        go_ret
                                                        exact ⟨by first | rfl | (simp [errW_none, errW_some] <;> rfl) | (simp only [← hji4, ← hji35, ← hji58, ← hji113]; first | rfl | (simp [errW_none, errW_some] <;> rfl)) | (simp [*, errW_none, errW_some] <;> rfl), by repeat (first | (with_reducible first | exact HB.out | apply below_alloc | apply pw_below_drewN | apply below_drew1) | exact HB.out)⟩
                                                    · rw [if_neg c115] at H
                                                      exact absurd H (by simp)
                                                  · rw [if_neg c114] at H
                                                    exact absurd H (by simp)
                                                · rw [if_neg c112] at H
                                                  have c112b0 : decide (0 < ((x9_1.length : Int) % 8)) = false := decide_eq_false c112
                                                  clear c112
                                                  obtain rfl := Option.some.inj H
                                                  go_wp2
                                                  go_ret
                                                  exact ⟨by first | rfl | (simp [errW_none, errW_some] <;> rfl) | (simp only [← hji4, ← hji35, ← hji58]; first | rfl | (simp [errW_none, errW_some] <;> rfl)) | (simp [*, errW_none, errW_some] <;> rfl), by repeat (first | (with_reducible first | exact HB.out | apply below_alloc | apply pw_below_drewN | apply below_drew1) | exact HB.out)⟩
                                        · rw [if_neg c99] at H
                                          exact absurd H (by simp)
                          · rw [if_neg c60] at H
                            exact absurd H (by simp)
                        · rw [if_neg c59] at H
                          exact absurd H (by simp)
                      · replace c57 := Bool.eq_false_iff.mpr c57
                        subst c57
                        have H1 : ((seal_Pack.f k2 x7_1 x8_1).bind fun bt142 => ((seal_Unpack.f k2 x7_1 x17_2).bind fun bt146 => (if t140 = 0 then (if t141 = 1 then (if (wrap64 ((bt142.1.length : Int) + (bt146.1.length : Int))) = 0 then (if bt142.2 = 1 then (some (bt146.2 == 1)) else (some false)) else (some false)) else (some false)) else (some false)))) = some r := by rw [if_neg (show ¬ (false = true) by decide)] at H; exact H
                        clear H
                        have H := H1
                        clear H1
                        replace H := Option.bind_eq_some_iff.mp H
                        obtain ⟨⟨t142, t143⟩, A1270, H⟩ := H
                        replace H : ((seal_Unpack.f k2 x7_1 x17_2).bind fun bt146 => (if t140 = 0 then (if t141 = 1 then (if (wrap64 ((t142.length : Int) + (bt146.1.length : Int))) = 0 then (if t143 = 1 then (some (bt146.2 == 1)) else (some false)) else (some false)) else (some false)) else (some false))) = some r := H
                        have A127 := Aside0.mk A1270
                        clear A1270
                        replace H := Option.bind_eq_some_iff.mp H
                        obtain ⟨⟨t146, t147⟩, A1280, H⟩ := H
                        replace H : (if t140 = 0 then (if t141 = 1 then (if (wrap64 ((t142.length : Int) + (t146.length : Int))) = 0 then (if t143 = 1 then (some (t147 == 1)) else (some false)) else (some false)) else (some false)) else (some false)) = some r := H
                        have A128 := Aside0.mk A1280
                        clear A1280
                        by_cases c129 : t140 = 0
                        · rw [if_pos c129] at H
                          have c129b0 : (t140 == 0) = true := beq_iff_eq.mpr c129
                          have c129b1 : (t140 != 0) = false := bne_eq_false_iff_eq.mpr c129
                          clear c129
                          by_cases c130 : t141 = 1
                          · rw [if_pos c130] at H
                            have c130b0 : (t141 == 1) = true := beq_iff_eq.mpr c130
                            have c130b1 : (t141 != 1) = false := bne_eq_false_iff_eq.mpr c130
                            clear c130
                            by_cases c131 : (wrap64 ((t142.length : Int) + (t146.length : Int))) = 0
                            · rw [if_pos c131] at H
                              have c131b0 : ((wrap64 ((t142.length : Int) + (t146.length : Int))) == 0) = true := beq_iff_eq.mpr c131
                              have c131b1 : ((wrap64 ((t142.length : Int) + (t146.length : Int))) != 0) = false := bne_eq_false_iff_eq.mpr c131
                              clear c131
                              by_cases c132 : t143 = 1
                              · rw [if_pos c132] at H
                                have c132b0 : (t143 == 1) = true := beq_iff_eq.mpr c132
                                have c132b1 : (t143 != 1) = false := bne_eq_false_iff_eq.mpr c132
                                clear c132
                                obtain rfl := Option.some.inj H
                                obtain ⟨Ao133, co133, eo133⟩ := Kd.R_slice HO_7.out
                                subst eo133
                                go_wp2_with (first | ((with_reducible refine gate_callee (f := 6) rfl ?_); refine goesL_ (some 137) rfl rfl Try.func6 (by kernel_rfl) rfl #[.slice Ao133 x7_1.length co133] rfl (by (try simp only [List.map_toArray, List.map_cons, List.map_nil]); first | done | rfl | (simp only [List.length_drop, List.length_take]; rfl)) ?_; (with_reducible refine (seal_Width.calls k2 _ _ x7_1 t140 t141 _ ?side1 ?side2 A56.out).mono ?_); (case side1 => repeat (first | exact (Kd.R_reads' HO_7.out).2.2 | (with_reducible refine Kd.C_alloc ?_ _) | (with_reducible refine Kd.C_drewN ?_ _) | (with_reducible refine Kd.C_drew ?_))); (case side2 => exact (Kd.R_reads' HO_7.out).2.1); rintro e w' ⟨rfl, ⟨nd, rfl⟩⟩; refine ⟨_, rfl, ?_⟩; obtain ⟨Ao134, co134, eo134⟩ := Kd.R_slice HO_8.out; subst eo134) | ((with_reducible refine gate_callee (f := 7) rfl ?_); refine goesL_ (some 145) rfl rfl Try.func7 (by kernel_rfl) rfl #[.slice Ao133 x7_1.length co133, .slice Ao134 x8_1.length co134] rfl (by (try simp only [List.map_toArray, List.map_cons, List.map_nil]); first | done | rfl | (simp only [List.length_drop, List.length_take]; rfl)) ?_; (with_reducible refine (seal_Pack.calls k2 _ _ x7_1 _ _ x8_1 t142 t143 _ ?side1 ?side2 ?side3 ?side4 A127.out).mono ?_); (case side1 => repeat (first | exact (Kd.R_reads' HO_7.out).2.2 | (with_reducible refine Kd.C_alloc ?_ _) | (with_reducible refine Kd.C_drewN ?_ _) | (with_reducible refine Kd.C_drew ?_))); (case side2 => exact (Kd.R_reads' HO_7.out).2.1); (case side3 => repeat (first | exact (Kd.R_reads' HO_8.out).2.2 | (with_reducible refine Kd.C_alloc ?_ _) | (with_reducible refine Kd.C_drewN ?_ _) | (with_reducible refine Kd.C_drew ?_))); (case side4 => exact (Kd.R_reads' HO_8.out).2.1); rintro e w135 ⟨v144, rfl, ho0, hb⟩; refine ⟨_, rfl, ?_⟩; have n0_ := Aside0.mk (Kd.R_below (by (with_reducible repeat (first | apply Kd.R_alloc | apply Kd.R_drewN | apply Kd.R_drew)); exact HO_7.out) hb); have n1_ := Aside0.mk (Kd.R_below (by (with_reducible repeat (first | apply Kd.R_alloc | apply Kd.R_drewN | apply Kd.R_drew)); exact HO_8.out) hb); have n2_ := Aside0.mk (Kd.R_below (by (with_reducible repeat (first | apply Kd.R_alloc | apply Kd.R_drewN | apply Kd.R_drew)); exact HO_9.out) hb); have n3_ := Aside0.mk (Kd.R_elder' (by (with_reducible repeat (first | apply Kd.R_alloc | apply Kd.R_drewN | apply Kd.R_drew)); exact HO_17.out) (Kd.R_base ho0) hb); have n4_ := Aside0.mk (Kd.R_below (by (with_reducible repeat (first | apply Kd.R_alloc | apply Kd.R_drewN | apply Kd.R_drew)); exact HO_116.out) hb); have n5_ := Aside0.mk (Kd.R_lower (Kd.R_new' ho0 (Kd.R_lt (by (with_reducible repeat (first | apply Kd.R_alloc | apply Kd.R_drewN | apply Kd.R_drew)); exact HO_17.out))) (below_size (by repeat (first | (with_reducible first | exact HB.out | apply below_alloc | apply pw_below_drewN | apply below_drew1) | exact HB.out)))); have n6_ := Aside0.mk (below_step (by repeat (first | (with_reducible first | exact HB.out | apply below_alloc | apply pw_below_drewN | apply below_drew1) | exact HB.out)) hb); clear HO_7; clear HO_8; clear HO_9; clear HO_17; clear HO_116; clear HB; have HO_7 := n0_; have HO_8 := n1_; have HO_9 := n2_; have HO_17 := n3_; have HO_116 := n4_; have HO145 := n5_; have HB := n6_; clear n0_ n1_ n2_ n3_ n4_ n5_ n6_; (try clear hb); (try clear hb2); (try clear hk); (try clear hi); (try clear ho0); obtain ⟨Ao136, co136, eo136⟩ := Kd.R_slice HO_17.out; subst eo136) | ((with_reducible refine gate_callee (f := 8) rfl ?_); refine goesL_ (some 151) rfl rfl Try.func8 (by kernel_rfl) rfl #[.slice Ao133 x7_1.length co133, .slice Ao136 x17_2.length co136] rfl (by (try simp only [List.map_toArray, List.map_cons, List.map_nil]); first | done | rfl | (simp only [List.length_drop, List.length_take]; rfl)) ?_; (with_reducible refine (seal_Unpack.calls k2 _ _ x7_1 _ _ x17_2 t146 t147 _ ?side1 ?side2 ?side3 ?side4 A128.out).mono ?_); (case side1 => repeat (first | exact (Kd.R_reads' HO_7.out).2.2 | (with_reducible refine Kd.C_alloc ?_ _) | (with_reducible refine Kd.C_drewN ?_ _) | (with_reducible refine Kd.C_drew ?_))); (case side2 => exact (Kd.R_reads' HO_7.out).2.1); (case side3 => repeat (first | exact (Kd.R_reads' HO_17.out).2.2 | (with_reducible refine Kd.C_alloc ?_ _) | (with_reducible refine Kd.C_drewN ?_ _) | (with_reducible refine Kd.C_drew ?_))); (case side4 => exact (Kd.R_reads' HO_17.out).2.1); rintro e w137 ⟨v148, rfl, ho0, hb⟩; refine ⟨_, rfl, ?_⟩; have n0_ := Aside0.mk (Kd.R_below (by (with_reducible repeat (first | apply Kd.R_alloc | apply Kd.R_drewN | apply Kd.R_drew)); exact HO_7.out) hb); have n1_ := Aside0.mk (Kd.R_elder' (by (with_reducible repeat (first | apply Kd.R_alloc | apply Kd.R_drewN | apply Kd.R_drew)); exact HO_8.out) (Kd.R_base ho0) hb); have n2_ := Aside0.mk (Kd.R_below (by (with_reducible repeat (first | apply Kd.R_alloc | apply Kd.R_drewN | apply Kd.R_drew)); exact HO_9.out) hb); have n3_ := Aside0.mk (Kd.R_below (by (with_reducible repeat (first | apply Kd.R_alloc | apply Kd.R_drewN | apply Kd.R_drew)); exact HO_17.out) hb); have n4_ := Aside0.mk (Kd.R_below (by (with_reducible repeat (first | apply Kd.R_alloc | apply Kd.R_drewN | apply Kd.R_drew)); exact HO_116.out) hb); have n5_ := Aside0.mk (Kd.R_below (by (with_reducible repeat (first | apply Kd.R_alloc | apply Kd.R_drewN | apply Kd.R_drew)); exact HO145.out) hb); have n6_ := Aside0.mk (Kd.R_lower (Kd.R_new' ho0 (Kd.R_lt (by (with_reducible repeat (first | apply Kd.R_alloc | apply Kd.R_drewN | apply Kd.R_drew)); exact HO_8.out))) (below_size (by repeat (first | (with_reducible first | exact HB.out | apply below_alloc | apply pw_below_drewN | apply below_drew1) | exact HB.out)))); have n7_ := Aside0.mk (below_step (by repeat (first | (with_reducible first | exact HB.out | apply below_alloc | apply pw_below_drewN | apply below_drew1) | exact HB.out)) hb); clear HO_7; clear HO_8; clear HO_9; clear HO_17; clear HO_116; clear HO145; clear HB; have HO_7 := n0_; have HO_8 := n1_; have HO_9 := n2_; have HO_17 := n3_; have HO_116 := n4_; have HO145 := n5_; have HO149 := n6_; have HB := n7_; clear n0_ n1_ n2_ n3_ n4_ n5_ n6_ n7_; (try clear hb); (try clear hb2); (try clear hk); (try clear hi); (try clear ho0); obtain ⟨Ao138, co138, eo138⟩ := Kd.R_slice HO145.out; subst eo138; obtain ⟨Ao139, co139, eo139⟩ := Kd.R_slice HO149.out; subst eo139))
                                go_ret
                                exact ⟨by first | rfl | (simp [errW_none, errW_some] <;> rfl) | (simp only [← hji4, ← hji35]; first | rfl | (simp [errW_none, errW_some] <;> rfl)) | (simp [*, errW_none, errW_some] <;> rfl), by repeat (first | (with_reducible first | exact HB.out | apply below_alloc | apply pw_below_drewN | apply below_drew1) | exact HB.out)⟩
                              · rw [if_neg c132] at H
                                have c132b0 : (t143 == 1) = false := beq_eq_false_iff_ne.mpr c132
                                have c132b1 : (t143 != 1) = true := bne_iff_ne.mpr c132
                                obtain rfl := Option.some.inj H
                                obtain ⟨Ao140, co140, eo140⟩ := Kd.R_slice HO_7.out
                                subst eo140
                                go_wp2_with (first | ((with_reducible refine gate_callee (f := 6) rfl ?_); refine goesL_ (some 137) rfl rfl Try.func6 (by kernel_rfl) rfl #[.slice Ao140 x7_1.length co140] rfl (by (try simp only [List.map_toArray, List.map_cons, List.map_nil]); first | done | rfl | (simp only [List.length_drop, List.length_take]; rfl)) ?_; (with_reducible refine (seal_Width.calls k2 _ _ x7_1 t140 t141 _ ?side1 ?side2 A56.out).mono ?_); (case side1 => repeat (first | exact (Kd.R_reads' HO_7.out).2.2 | (with_reducible refine Kd.C_alloc ?_ _) | (with_reducible refine Kd.C_drewN ?_ _) | (with_reducible refine Kd.C_drew ?_))); (case side2 => exact (Kd.R_reads' HO_7.out).2.1); rintro e w' ⟨rfl, ⟨nd, rfl⟩⟩; refine ⟨_, rfl, ?_⟩; obtain ⟨Ao141, co141, eo141⟩ := Kd.R_slice HO_8.out; subst eo141) | ((with_reducible refine gate_callee (f := 7) rfl ?_); refine goesL_ (some 145) rfl rfl Try.func7 (by kernel_rfl) rfl #[.slice Ao140 x7_1.length co140, .slice Ao141 x8_1.length co141] rfl (by (try simp only [List.map_toArray, List.map_cons, List.map_nil]); first | done | rfl | (simp only [List.length_drop, List.length_take]; rfl)) ?_; (with_reducible refine (seal_Pack.calls k2 _ _ x7_1 _ _ x8_1 t142 t143 _ ?side1 ?side2 ?side3 ?side4 A127.out).mono ?_); (case side1 => repeat (first | exact (Kd.R_reads' HO_7.out).2.2 | (with_reducible refine Kd.C_alloc ?_ _) | (with_reducible refine Kd.C_drewN ?_ _) | (with_reducible refine Kd.C_drew ?_))); (case side2 => exact (Kd.R_reads' HO_7.out).2.1); (case side3 => repeat (first | exact (Kd.R_reads' HO_8.out).2.2 | (with_reducible refine Kd.C_alloc ?_ _) | (with_reducible refine Kd.C_drewN ?_ _) | (with_reducible refine Kd.C_drew ?_))); (case side4 => exact (Kd.R_reads' HO_8.out).2.1); rintro e w142 ⟨v144, rfl, ho0, hb⟩; refine ⟨_, rfl, ?_⟩; have n0_ := Aside0.mk (Kd.R_below (by (with_reducible repeat (first | apply Kd.R_alloc | apply Kd.R_drewN | apply Kd.R_drew)); exact HO_7.out) hb); have n1_ := Aside0.mk (Kd.R_below (by (with_reducible repeat (first | apply Kd.R_alloc | apply Kd.R_drewN | apply Kd.R_drew)); exact HO_8.out) hb); have n2_ := Aside0.mk (Kd.R_below (by (with_reducible repeat (first | apply Kd.R_alloc | apply Kd.R_drewN | apply Kd.R_drew)); exact HO_9.out) hb); have n3_ := Aside0.mk (Kd.R_elder' (by (with_reducible repeat (first | apply Kd.R_alloc | apply Kd.R_drewN | apply Kd.R_drew)); exact HO_17.out) (Kd.R_base ho0) hb); have n4_ := Aside0.mk (Kd.R_below (by (with_reducible repeat (first | apply Kd.R_alloc | apply Kd.R_drewN | apply Kd.R_drew)); exact HO_116.out) hb); have n5_ := Aside0.mk (Kd.R_lower (Kd.R_new' ho0 (Kd.R_lt (by (with_reducible repeat (first | apply Kd.R_alloc | apply Kd.R_drewN | apply Kd.R_drew)); exact HO_17.out))) (below_size (by repeat (first | (with_reducible first | exact HB.out | apply below_alloc | apply pw_below_drewN | apply below_drew1) | exact HB.out)))); have n6_ := Aside0.mk (below_step (by repeat (first | (with_reducible first | exact HB.out | apply below_alloc | apply pw_below_drewN | apply below_drew1) | exact HB.out)) hb); clear HO_7; clear HO_8; clear HO_9; clear HO_17; clear HO_116; clear HB; have HO_7 := n0_; have HO_8 := n1_; have HO_9 := n2_; have HO_17 := n3_; have HO_116 := n4_; have HO145 := n5_; have HB := n6_; clear n0_ n1_ n2_ n3_ n4_ n5_ n6_; (try clear hb); (try clear hb2); (try clear hk); (try clear hi); (try clear ho0); obtain ⟨Ao143, co143, eo143⟩ := Kd.R_slice HO_17.out; subst eo143) | ((with_reducible refine gate_callee (f := 8) rfl ?_); refine goesL_ (some 151) rfl rfl Try.func8 (by kernel_rfl) rfl #[.slice Ao140 x7_1.length co140, .slice Ao143 x17_2.length co143] rfl (by (try simp only [List.map_toArray, List.map_cons, List.map_nil]); first | done | rfl | (simp only [List.length_drop, List.length_take]; rfl)) ?_; (with_reducible refine (seal_Unpack.calls k2 _ _ x7_1 _ _ x17_2 t146 t147 _ ?side1 ?side2 ?side3 ?side4 A128.out).mono ?_); (case side1 => repeat (first | exact (Kd.R_reads' HO_7.out).2.2 | (with_reducible refine Kd.C_alloc ?_ _) | (with_reducible refine Kd.C_drewN ?_ _) | (with_reducible refine Kd.C_drew ?_))); (case side2 => exact (Kd.R_reads' HO_7.out).2.1); (case side3 => repeat (first | exact (Kd.R_reads' HO_17.out).2.2 | (with_reducible refine Kd.C_alloc ?_ _) | (with_reducible refine Kd.C_drewN ?_ _) | (with_reducible refine Kd.C_drew ?_))); (case side4 => exact (Kd.R_reads' HO_17.out).2.1); rintro e w144 ⟨v148, rfl, ho0, hb⟩; refine ⟨_, rfl, ?_⟩; have n0_ := Aside0.mk (Kd.R_below (by (with_reducible repeat (first | apply Kd.R_alloc | apply Kd.R_drewN | apply Kd.R_drew)); exact HO_7.out) hb); have n1_ := Aside0.mk (Kd.R_elder' (by (with_reducible repeat (first | apply Kd.R_alloc | apply Kd.R_drewN | apply Kd.R_drew)); exact HO_8.out) (Kd.R_base ho0) hb); have n2_ := Aside0.mk (Kd.R_below (by (with_reducible repeat (first | apply Kd.R_alloc | apply Kd.R_drewN | apply Kd.R_drew)); exact HO_9.out) hb); have n3_ := Aside0.mk (Kd.R_below (by (with_reducible repeat (first | apply Kd.R_alloc | apply Kd.R_drewN | apply Kd.R_drew)); exact HO_17.out) hb); have n4_ := Aside0.mk (Kd.R_below (by (with_reducible repeat (first | apply Kd.R_alloc | apply Kd.R_drewN | apply Kd.R_drew)); exact HO_116.out) hb); have n5_ := Aside0.mk (Kd.R_below (by (with_reducible repeat (first | apply Kd.R_alloc | apply Kd.R_drewN | apply Kd.R_drew)); exact HO145.out) hb); have n6_ := Aside0.mk (Kd.R_lower (Kd.R_new' ho0 (Kd.R_lt (by (with_reducible repeat (first | apply Kd.R_alloc | apply Kd.R_drewN | apply Kd.R_drew)); exact HO_8.out))) (below_size (by repeat (first | (with_reducible first | exact HB.out | apply below_alloc | apply pw_below_drewN | apply below_drew1) | exact HB.out)))); have n7_ := Aside0.mk (below_step (by repeat (first | (with_reducible first | exact HB.out | apply below_alloc | apply pw_below_drewN | apply below_drew1) | exact HB.out)) hb); clear HO_7; clear HO_8; clear HO_9; clear HO_17; clear HO_116; clear HO145; clear HB; have HO_7 := n0_; have HO_8 := n1_; have HO_9 := n2_; have HO_17 := n3_; have HO_116 := n4_; have HO145 := n5_; have HO149 := n6_; have HB := n7_; clear n0_ n1_ n2_ n3_ n4_ n5_ n6_ n7_; (try clear hb); (try clear hb2); (try clear hk); (try clear hi); (try clear ho0); obtain ⟨Ao145, co145, eo145⟩ := Kd.R_slice HO145.out; subst eo145; obtain ⟨Ao146, co146, eo146⟩ := Kd.R_slice HO149.out; subst eo146))
                                go_ret
                                exact ⟨by first | rfl | (simp [errW_none, errW_some] <;> rfl) | (simp only [← hji4, ← hji35]; first | rfl | (simp [errW_none, errW_some] <;> rfl)) | (simp [*, errW_none, errW_some] <;> rfl), by repeat (first | (with_reducible first | exact HB.out | apply below_alloc | apply pw_below_drewN | apply below_drew1) | exact HB.out)⟩
                            · rw [if_neg c131] at H
                              have c131b0 : ((wrap64 ((t142.length : Int) + (t146.length : Int))) == 0) = false := beq_eq_false_iff_ne.mpr c131
                              have c131b1 : ((wrap64 ((t142.length : Int) + (t146.length : Int))) != 0) = true := bne_iff_ne.mpr c131
                              obtain rfl := Option.some.inj H
                              obtain ⟨Ao147, co147, eo147⟩ := Kd.R_slice HO_7.out
                              subst eo147
                              go_wp2_with (first | ((with_reducible refine gate_callee (f := 6) rfl ?_); refine goesL_ (some 137) rfl rfl Try.func6 (by kernel_rfl) rfl #[.slice Ao147 x7_1.length co147] rfl (by (try simp only [List.map_toArray, List.map_cons, List.map_nil]); first | done | rfl | (simp only [List.length_drop, List.length_take]; rfl)) ?_; (with_reducible refine (seal_Width.calls k2 _ _ x7_1 t140 t141 _ ?side1 ?side2 A56.out).mono ?_); (case side1 => repeat (first | exact (Kd.R_reads' HO_7.out).2.2 | (with_reducible refine Kd.C_alloc ?_ _) | (with_reducible refine Kd.C_drewN ?_ _) | (with_reducible refine Kd.C_drew ?_))); (case side2 => exact (Kd.R_reads' HO_7.out).2.1); rintro e w' ⟨rfl, ⟨nd, rfl⟩⟩; refine ⟨_, rfl, ?_⟩; obtain ⟨Ao148, co148, eo148⟩ := Kd.R_slice HO_8.out; subst eo148) | ((with_reducible refine gate_callee (f := 7) rfl ?_); refine goesL_ (some 145) rfl rfl Try.func7 (by kernel_rfl) rfl #[.slice Ao147 x7_1.length co147, .slice Ao148 x8_1.length co148] rfl (by (try simp only [List.map_toArray, List.map_cons, List.map_nil]); first | done | rfl | (simp only [List.length_drop, List.length_take]; rfl)) ?_; (with_reducible refine (seal_Pack.calls k2 _ _ x7_1 _ _ x8_1 t142 t143 _ ?side1 ?side2 ?side3 ?side4 A127.out).mono ?_); (case side1 => repeat (first | exact (Kd.R_reads' HO_7.out).2.2 | (with_reducible refine Kd.C_alloc ?_ _) | (with_reducible refine Kd.C_drewN ?_ _) | (with_reducible refine Kd.C_drew ?_))); (case side2 => exact (Kd.R_reads' HO_7.out).2.1); (case side3 => repeat (first | exact (Kd.R_reads' HO_8.out).2.2 | (with_reducible refine Kd.C_alloc ?_ _) | (with_reducible refine Kd.C_drewN ?_ _) | (with_reducible refine Kd.C_drew ?_))); (case side4 => exact (Kd.R_reads' HO_8.out).2.1); rintro e w149 ⟨v144, rfl, ho0, hb⟩; refine ⟨_, rfl, ?_⟩; have n0_ := Aside0.mk (Kd.R_below (by (with_reducible repeat (first | apply Kd.R_alloc | apply Kd.R_drewN | apply Kd.R_drew)); exact HO_7.out) hb); have n1_ := Aside0.mk (Kd.R_below (by (with_reducible repeat (first | apply Kd.R_alloc | apply Kd.R_drewN | apply Kd.R_drew)); exact HO_8.out) hb); have n2_ := Aside0.mk (Kd.R_below (by (with_reducible repeat (first | apply Kd.R_alloc | apply Kd.R_drewN | apply Kd.R_drew)); exact HO_9.out) hb); have n3_ := Aside0.mk (Kd.R_elder' (by (with_reducible repeat (first | apply Kd.R_alloc | apply Kd.R_drewN | apply Kd.R_drew)); exact HO_17.out) (Kd.R_base ho0) hb); have n4_ := Aside0.mk (Kd.R_below (by (with_reducible repeat (first | apply Kd.R_alloc | apply Kd.R_drewN | apply Kd.R_drew)); exact HO_116.out) hb); have n5_ := Aside0.mk (Kd.R_lower (Kd.R_new' ho0 (Kd.R_lt (by (with_reducible repeat (first | apply Kd.R_alloc | apply Kd.R_drewN | apply Kd.R_drew)); exact HO_17.out))) (below_size (by repeat (first | (with_reducible first | exact HB.out | apply below_alloc | apply pw_below_drewN | apply below_drew1) | exact HB.out)))); have n6_ := Aside0.mk (below_step (by repeat (first | (with_reducible first | exact HB.out | apply below_alloc | apply pw_below_drewN | apply below_drew1) | exact HB.out)) hb); clear HO_7; clear HO_8; clear HO_9; clear HO_17; clear HO_116; clear HB; have HO_7 := n0_; have HO_8 := n1_; have HO_9 := n2_; have HO_17 := n3_; have HO_116 := n4_; have HO145 := n5_; have HB := n6_; clear n0_ n1_ n2_ n3_ n4_ n5_ n6_; (try clear hb); (try clear hb2); (try clear hk); (try clear hi); (try clear ho0); obtain ⟨Ao150, co150, eo150⟩ := Kd.R_slice HO_17.out; subst eo150) | ((with_reducible refine gate_callee (f := 8) rfl ?_); refine goesL_ (some 151) rfl rfl Try.func8 (by kernel_rfl) rfl #[.slice Ao147 x7_1.length co147, .slice Ao150 x17_2.length co150] rfl (by (try simp only [List.map_toArray, List.map_cons, List.map_nil]); first | done | rfl | (simp only [List.length_drop, List.length_take]; rfl)) ?_; (with_reducible refine (seal_Unpack.calls k2 _ _ x7_1 _ _ x17_2 t146 t147 _ ?side1 ?side2 ?side3 ?side4 A128.out).mono ?_); (case side1 => repeat (first | exact (Kd.R_reads' HO_7.out).2.2 | (with_reducible refine Kd.C_alloc ?_ _) | (with_reducible refine Kd.C_drewN ?_ _) | (with_reducible refine Kd.C_drew ?_))); (case side2 => exact (Kd.R_reads' HO_7.out).2.1); (case side3 => repeat (first | exact (Kd.R_reads' HO_17.out).2.2 | (with_reducible refine Kd.C_alloc ?_ _) | (with_reducible refine Kd.C_drewN ?_ _) | (with_reducible refine Kd.C_drew ?_))); (case side4 => exact (Kd.R_reads' HO_17.out).2.1); rintro e w151 ⟨v148, rfl, ho0, hb⟩; refine ⟨_, rfl, ?_⟩; have n0_ := Aside0.mk (Kd.R_below (by (with_reducible repeat (first | apply Kd.R_alloc | apply Kd.R_drewN | apply Kd.R_drew)); exact HO_7.out) hb); have n1_ := Aside0.mk (Kd.R_elder' (by (with_reducible repeat (first | apply Kd.R_alloc | apply Kd.R_drewN | apply Kd.R_drew)); exact HO_8.out) (Kd.R_base ho0) hb); have n2_ := Aside0.mk (Kd.R_below (by (with_reducible repeat (first | apply Kd.R_alloc | apply Kd.R_drewN | apply Kd.R_drew)); exact HO_9.out) hb); have n3_ := Aside0.mk (Kd.R_below (by (with_reducible repeat (first | apply Kd.R_alloc | apply Kd.R_drewN | apply Kd.R_drew)); exact HO_17.out) hb); have n4_ := Aside0.mk (Kd.R_below (by (with_reducible repeat (first | apply Kd.R_alloc | apply Kd.R_drewN | apply Kd.R_drew)); exact HO_116.out) hb); have n5_ := Aside0.mk (Kd.R_below (by (with_reducible repeat (first | apply Kd.R_alloc | apply Kd.R_drewN | apply Kd.R_drew)); exact HO145.out) hb); have n6_ := Aside0.mk (Kd.R_lower (Kd.R_new' ho0 (Kd.R_lt (by (with_reducible repeat (first | apply Kd.R_alloc | apply Kd.R_drewN | apply Kd.R_drew)); exact HO_8.out))) (below_size (by repeat (first | (with_reducible first | exact HB.out | apply below_alloc | apply pw_below_drewN | apply below_drew1) | exact HB.out)))); have n7_ := Aside0.mk (below_step (by repeat (first | (with_reducible first | exact HB.out | apply below_alloc | apply pw_below_drewN | apply below_drew1) | exact HB.out)) hb); clear HO_7; clear HO_8; clear HO_9; clear HO_17; clear HO_116; clear HO145; clear HB; have HO_7 := n0_; have HO_8 := n1_; have HO_9 := n2_; have HO_17 := n3_; have HO_116 := n4_; have HO145 := n5_; have HO149 := n6_; have HB := n7_; clear n0_ n1_ n2_ n3_ n4_ n5_ n6_ n7_; (try clear hb); (try clear hb2); (try clear hk); (try clear hi); (try clear ho0); obtain ⟨Ao152, co152, eo152⟩ := Kd.R_slice HO145.out; subst eo152; obtain ⟨Ao153, co153, eo153⟩ := Kd.R_slice HO149.out; subst eo153))
                              go_ret
                              exact ⟨by first | rfl | (simp [errW_none, errW_some] <;> rfl) | (simp only [← hji4, ← hji35]; first | rfl | (simp [errW_none, errW_some] <;> rfl)) | (simp [*, errW_none, errW_some] <;> rfl), by repeat (first | (with_reducible first | exact HB.out | apply below_alloc | apply pw_below_drewN | apply below_drew1) | exact HB.out)⟩
                          · rw [if_neg c130] at H
                            have c130b0 : (t141 == 1) = false := beq_eq_false_iff_ne.mpr c130
                            have c130b1 : (t141 != 1) = true := bne_iff_ne.mpr c130
                            obtain rfl := Option.some.inj H
                            obtain ⟨Ao154, co154, eo154⟩ := Kd.R_slice HO_7.out
                            subst eo154
                            go_wp2_with (first | ((with_reducible refine gate_callee (f := 6) rfl ?_); refine goesL_ (some 137) rfl rfl Try.func6 (by kernel_rfl) rfl #[.slice Ao154 x7_1.length co154] rfl (by (try simp only [List.map_toArray, List.map_cons, List.map_nil]); first | done | rfl | (simp only [List.length_drop, List.length_take]; rfl)) ?_; (with_reducible refine (seal_Width.calls k2 _ _ x7_1 t140 t141 _ ?side1 ?side2 A56.out).mono ?_); (case side1 => repeat (first | exact (Kd.R_reads' HO_7.out).2.2 | (with_reducible refine Kd.C_alloc ?_ _) | (with_reducible refine Kd.C_drewN ?_ _) | (with_reducible refine Kd.C_drew ?_))); (case side2 => exact (Kd.R_reads' HO_7.out).2.1); rintro e w' ⟨rfl, ⟨nd, rfl⟩⟩; refine ⟨_, rfl, ?_⟩; obtain ⟨Ao155, co155, eo155⟩ := Kd.R_slice HO_8.out; subst eo155) | ((with_reducible refine gate_callee (f := 7) rfl ?_); refine goesL_ (some 145) rfl rfl Try.func7 (by kernel_rfl) rfl #[.slice Ao154 x7_1.length co154, .slice Ao155 x8_1.length co155] rfl (by (try simp only [List.map_toArray, List.map_cons, List.map_nil]); first | done | rfl | (simp only [List.length_drop, List.length_take]; rfl)) ?_; (with_reducible refine (seal_Pack.calls k2 _ _ x7_1 _ _ x8_1 t142 t143 _ ?side1 ?side2 ?side3 ?side4 A127.out).mono ?_); (case side1 => repeat (first | exact (Kd.R_reads' HO_7.out).2.2 | (with_reducible refine Kd.C_alloc ?_ _) | (with_reducible refine Kd.C_drewN ?_ _) | (with_reducible refine Kd.C_drew ?_))); (case side2 => exact (Kd.R_reads' HO_7.out).2.1); (case side3 => repeat (first | exact (Kd.R_reads' HO_8.out).2.2 | (with_reducible refine Kd.C_alloc ?_ _) | (with_reducible refine Kd.C_drewN ?_ _) | (with_reducible refine Kd.C_drew ?_))); (case side4 => exact (Kd.R_reads' HO_8.out).2.1); rintro e w156 ⟨v144, rfl, ho0, hb⟩; refine ⟨_, rfl, ?_⟩; have n0_ := Aside0.mk (Kd.R_below (by (with_reducible repeat (first | apply Kd.R_alloc | apply Kd.R_drewN | apply Kd.R_drew)); exact HO_7.out) hb); have n1_ := Aside0.mk (Kd.R_below (by (with_reducible repeat (first | apply Kd.R_alloc | apply Kd.R_drewN | apply Kd.R_drew)); exact HO_8.out) hb); have n2_ := Aside0.mk (Kd.R_below (by (with_reducible repeat (first | apply Kd.R_alloc | apply Kd.R_drewN | apply Kd.R_drew)); exact HO_9.out) hb); have n3_ := Aside0.mk (Kd.R_elder' (by (with_reducible repeat (first | apply Kd.R_alloc | apply Kd.R_drewN | apply Kd.R_drew)); exact HO_17.out) (Kd.R_base ho0) hb); have n4_ := Aside0.mk (Kd.R_below (by (with_reducible repeat (first | apply Kd.R_alloc | apply Kd.R_drewN | apply Kd.R_drew)); exact HO_116.out) hb); have n5_ := Aside0.mk (Kd.R_lower (Kd.R_new' ho0 (Kd.R_lt (by (with_reducible repeat (first | apply Kd.R_alloc | apply Kd.R_drewN | apply Kd.R_drew)); exact HO_17.out))) (below_size (by repeat (first | (with_reducible first | exact HB.out | apply below_alloc | apply pw_below_drewN | apply below_drew1) | exact HB.out)))); have n6_ := Aside0.mk (below_step (by repeat (first | (with_reducible first | exact HB.out | apply below_alloc | apply pw_below_drewN | apply below_drew1) | exact HB.out)) hb); clear HO_7; clear HO_8; clear HO_9; clear HO_17; clear HO_116; clear HB; have HO_7 := n0_; have HO_8 := n1_; have HO_9 := n2_; have HO_17 := n3_; have HO_116 := n4_; have HO145 := n5_; have HB := n6_; clear n0_ n1_ n2_ n3_ n4_ n5_ n6_; (try clear hb); (try clear hb2); (try clear hk); (try clear hi); (try clear ho0); obtain ⟨Ao157, co157, eo157⟩ := Kd.R_slice HO_17.out; subst eo157) | ((with_reducible refine gate_callee (f := 8) rfl ?_); refine goesL_ (some 151) rfl rfl Try.func8 (by kernel_rfl) rfl #[.slice Ao154 x7_1.length co154, .slice Ao157 x17_2.length co157] rfl (by (try simp only [List.map_toArray, List.map_cons, List.map_nil]); first | done | rfl | (simp only [List.length_drop, List.length_take]; rfl)) ?_; (with_reducible refine (seal_Unpack.calls k2 _ _ x7_1 _ _ x17_2 t146 t147 _ ?side1 ?side2 ?side3 ?side4 A128.out).mono ?_); (case side1 => repeat (first | exact (Kd.R_reads' HO_7.out).2.2 | (with_reducible refine Kd.C_alloc ?_ _) | (with_reducible refine Kd.C_drewN ?_ _) | (with_reducible refine Kd.C_drew ?_))); (case side2 => exact (Kd.R_reads' HO_7.out).2.1); (case side3 => repeat (first | exact (Kd.R_reads' HO_17.out).2.2 | (with_reducible refine Kd.C_alloc ?_ _) | (with_reducible refine Kd.C_drewN ?_ _) | (with_reducible refine Kd.C_drew ?_))); (case side4 => exact (Kd.R_reads' HO_17.out).2.1); rintro e w158 ⟨v148, rfl, ho0, hb⟩; refine ⟨_, rfl, ?_⟩; have n0_ := Aside0.mk (Kd.R_below (by (with_reducible repeat (first | apply Kd.R_alloc | apply Kd.R_drewN | apply Kd.R_drew)); exact HO_7.out) hb); have n1_ := Aside0.mk (Kd.R_elder' (by (with_reducible repeat (first | apply Kd.R_alloc | apply Kd.R_drewN | apply Kd.R_drew)); exact HO_8.out) (Kd.R_base ho0) hb); have n2_ := Aside0.mk (Kd.R_below (by (with_reducible repeat (first | apply Kd.R_alloc | apply Kd.R_drewN | apply Kd.R_drew)); exact HO_9.out) hb); have n3_ := Aside0.mk (Kd.R_below (by (with_reducible repeat (first | apply Kd.R_alloc | apply Kd.R_drewN | apply Kd.R_drew)); exact HO_17.out) hb); have n4_ := Aside0.mk (Kd.R_below (by (with_reducible repeat (first | apply Kd.R_alloc | apply Kd.R_drewN | apply Kd.R_drew)); exact HO_116.out) hb); have n5_ := Aside0.mk (Kd.R_below (by (with_reducible repeat (first | apply Kd.R_alloc | apply Kd.R_drewN | apply Kd.R_drew)); exact HO145.out) hb); have n6_ := Aside0.mk (Kd.R_lower (Kd.R_new' ho0 (Kd.R_lt (by (with_reducible repeat (first | apply Kd.R_alloc | apply Kd.R_drewN | apply Kd.R_drew)); exact HO_8.out))) (below_size (by repeat (first | (with_reducible first | exact HB.out | apply below_alloc | apply pw_below_drewN | apply below_drew1) | exact HB.out)))); have n7_ := Aside0.mk (below_step (by repeat (first | (with_reducible first | exact HB.out | apply below_alloc | apply pw_below_drewN | apply below_drew1) | exact HB.out)) hb); clear HO_7; clear HO_8; clear HO_9; clear HO_17; clear HO_116; clear HO145; clear HB; have HO_7 := n0_; have HO_8 := n1_; have HO_9 := n2_; have HO_17 := n3_; have HO_116 := n4_; have HO145 := n5_; have HO149 := n6_; have HB := n7_; clear n0_ n1_ n2_ n3_ n4_ n5_ n6_ n7_; (try clear hb); (try clear hb2); (try clear hk); (try clear hi); (try clear ho0)))
                            go_ret
                            exact ⟨by first | rfl | (simp [errW_none, errW_some] <;> rfl) | (simp only [← hji4, ← hji35]; first | rfl | (simp [errW_none, errW_some] <;> rfl)) | (simp [*, errW_none, errW_some] <;> rfl), by repeat (first | (with_reducible first | exact HB.out | apply below_alloc | apply pw_below_drewN | apply below_drew1) | exact HB.out)⟩
                        · rw [if_neg c129] at H
                          have c129b0 : (t140 == 0) = false := beq_eq_false_iff_ne.mpr c129
                          have c129b1 : (t140 != 0) = true := bne_iff_ne.mpr c129
                          obtain rfl := Option.some.inj H
                          obtain ⟨Ao159, co159, eo159⟩ := Kd.R_slice HO_7.out
                          subst eo159
                          go_wp2_with (first | ((with_reducible refine gate_callee (f := 6) rfl ?_); refine goesL_ (some 137) rfl rfl Try.func6 (by kernel_rfl) rfl #[.slice Ao159 x7_1.length co159] rfl (by (try simp only [List.map_toArray, List.map_cons, List.map_nil]); first | done | rfl | (simp only [List.length_drop, List.length_take]; rfl)) ?_; (with_reducible refine (seal_Width.calls k2 _ _ x7_1 t140 t141 _ ?side1 ?side2 A56.out).mono ?_); (case side1 => repeat (first | exact (Kd.R_reads' HO_7.out).2.2 | (with_reducible refine Kd.C_alloc ?_ _) | (with_reducible refine Kd.C_drewN ?_ _) | (with_reducible refine Kd.C_drew ?_))); (case side2 => exact (Kd.R_reads' HO_7.out).2.1); rintro e w' ⟨rfl, ⟨nd, rfl⟩⟩; refine ⟨_, rfl, ?_⟩; obtain ⟨Ao160, co160, eo160⟩ := Kd.R_slice HO_8.out; subst eo160) | ((with_reducible refine gate_callee (f := 7) rfl ?_); refine goesL_ (some 145) rfl rfl Try.func7 (by kernel_rfl) rfl #[.slice Ao159 x7_1.length co159, .slice Ao160 x8_1.length co160] rfl (by (try simp only [List.map_toArray, List.map_cons, List.map_nil]); first | done | rfl | (simp only [List.length_drop, List.length_take]; rfl)) ?_; (with_reducible refine (seal_Pack.calls k2 _ _ x7_1 _ _ x8_1 t142 t143 _ ?side1 ?side2 ?side3 ?side4 A127.out).mono ?_); (case side1 => repeat (first | exact (Kd.R_reads' HO_7.out).2.2 | (with_reducible refine Kd.C_alloc ?_ _) | (with_reducible refine Kd.C_drewN ?_ _) | (with_reducible refine Kd.C_drew ?_))); (case side2 => exact (Kd.R_reads' HO_7.out).2.1); (case side3 => repeat (first | exact (Kd.R_reads' HO_8.out).2.2 | (with_reducible refine Kd.C_alloc ?_ _) | (with_reducible refine Kd.C_drewN ?_ _) | (with_reducible refine Kd.C_drew ?_))); (case side4 => exact (Kd.R_reads' HO_8.out).2.1); rintro e w161 ⟨v144, rfl, ho0, hb⟩; refine ⟨_, rfl, ?_⟩; have n0_ := Aside0.mk (Kd.R_below (by (with_reducible repeat (first | apply Kd.R_alloc | apply Kd.R_drewN | apply Kd.R_drew)); exact HO_7.out) hb); have n1_ := Aside0.mk (Kd.R_below (by (with_reducible repeat (first | apply Kd.R_alloc | apply Kd.R_drewN | apply Kd.R_drew)); exact HO_8.out) hb); have n2_ := Aside0.mk (Kd.R_below (by (with_reducible repeat (first | apply Kd.R_alloc | apply Kd.R_drewN | apply Kd.R_drew)); exact HO_9.out) hb); have n3_ := Aside0.mk (Kd.R_elder' (by (with_reducible repeat (first | apply Kd.R_alloc | apply Kd.R_drewN | apply Kd.R_drew)); exact HO_17.out) (Kd.R_base ho0) hb); have n4_ := Aside0.mk (Kd.R_below (by (with_reducible repeat (first | apply Kd.R_alloc | apply Kd.R_drewN | apply Kd.R_drew)); exact HO_116.out) hb); have n5_ := Aside0.mk (Kd.R_lower (Kd.R_new' ho0 (Kd.R_lt (by (with_reducible repeat (first | apply Kd.R_alloc | apply Kd.R_drewN | apply Kd.R_drew)); exact HO_17.out))) (below_size (by repeat (first | (with_reducible first | exact HB.out | apply below_alloc | apply pw_below_drewN | apply below_drew1) | exact HB.out)))); have n6_ := Aside0.mk (below_step (by repeat (first | (with_reducible first | exact HB.out | apply below_alloc | apply pw_below_drewN | apply below_drew1) | exact HB.out)) hb); clear HO_7; clear HO_8; clear HO_9; clear HO_17; clear HO_116; clear HB; have HO_7 := n0_; have HO_8 := n1_; have HO_9 := n2_; have HO_17 := n3_; have HO_116 := n4_; have HO145 := n5_; have HB := n6_; clear n0_ n1_ n2_ n3_ n4_ n5_ n6_; (try clear hb); (try clear hb2); (try clear hk); (try clear hi); (try clear ho0); obtain ⟨Ao162, co162, eo162⟩ := Kd.R_slice HO_17.out; subst eo162) | ((with_reducible refine gate_callee (f := 8) rfl ?_); refine goesL_ (some 151) rfl rfl Try.func8 (by kernel_rfl) rfl #[.slice Ao159 x7_1.length co159, .slice Ao162 x17_2.length co162] rfl (by (try simp only [List.map_toArray, List.map_cons, List.map_nil]); first | done | rfl | (simp only [List.length_drop, List.length_take]; rfl)) ?_; (with_reducible refine (seal_Unpack.calls k2 _ _ x7_1 _ _ x17_2 t146 t147 _ ?side1 ?side2 ?side3 ?side4 A128.out).mono ?_); (case side1 => repeat (first | exact (Kd.R_reads' HO_7.out).2.2 | (with_reducible refine Kd.C_alloc ?_ _) | (with_reducible refine Kd.C_drewN ?_ _) | (with_reducible refine Kd.C_drew ?_))); (case side2 => exact (Kd.R_reads' HO_7.out).2.1); (case side3 => repeat (first | exact (Kd.R_reads' HO_17.out).2.2 | (with_reducible refine Kd.C_alloc ?_ _) | (with_reducible refine Kd.C_drewN ?_ _) | (with_reducible refine Kd.C_drew ?_))); (case side4 => exact (Kd.R_reads' HO_17.out).2.1); rintro e w163 ⟨v148, rfl, ho0, hb⟩; refine ⟨_, rfl, ?_⟩; have n0_ := Aside0.mk (Kd.R_below (by (with_reducible repeat (first | apply Kd.R_alloc | apply Kd.R_drewN | apply Kd.R_drew)); exact HO_7.out) hb); have n1_ := Aside0.mk (Kd.R_elder' (by (with_reducible repeat (first | apply Kd.R_alloc | apply Kd.R_drewN | apply Kd.R_drew)); exact HO_8.out) (Kd.R_base ho0) hb); have n2_ := Aside0.mk (Kd.R_below (by (with_reducible repeat (first | apply Kd.R_alloc | apply Kd.R_drewN | apply Kd.R_drew)); exact HO_9.out) hb); have n3_ := Aside0.mk (Kd.R_below (by (with_reducible repeat (first | apply Kd.R_alloc | apply Kd.R_drewN | apply Kd.R_drew)); exact HO_17.out) hb); have n4_ := Aside0.mk (Kd.R_below (by (with_reducible repeat (first | apply Kd.R_alloc | apply Kd.R_drewN | apply Kd.R_drew)); exact HO_116.out) hb); have n5_ := Aside0.mk (Kd.R_below (by (with_reducible repeat (first | apply Kd.R_alloc | apply Kd.R_drewN | apply Kd.R_drew)); exact HO145.out) hb); have n6_ := Aside0.mk (Kd.R_lower (Kd.R_new' ho0 (Kd.R_lt (by (with_reducible repeat (first | apply Kd.R_alloc | apply Kd.R_drewN | apply Kd.R_drew)); exact HO_8.out))) (below_size (by repeat (first | (with_reducible first | exact HB.out | apply below_alloc | apply pw_below_drewN | apply below_drew1) | exact HB.out)))); have n7_ := Aside0.mk (below_step (by repeat (first | (with_reducible first | exact HB.out | apply below_alloc | apply pw_below_drewN | apply below_drew1) | exact HB.out)) hb); clear HO_7; clear HO_8; clear HO_9; clear HO_17; clear HO_116; clear HO145; clear HB; have HO_7 := n0_; have HO_8 := n1_; have HO_9 := n2_; have HO_17 := n3_; have HO_116 := n4_; have HO145 := n5_; have HO149 := n6_; have HB := n7_; clear n0_ n1_ n2_ n3_ n4_ n5_ n6_ n7_; (try clear hb); (try clear hb2); (try clear hk); (try clear hi); (try clear ho0)))
                          go_ret
                          exact ⟨by first | rfl | (simp [errW_none, errW_some] <;> rfl) | (simp only [← hji4, ← hji35]; first | rfl | (simp [errW_none, errW_some] <;> rfl)) | (simp [*, errW_none, errW_some] <;> rfl), by repeat (first | (with_reducible first | exact HB.out | apply below_alloc | apply pw_below_drewN | apply below_drew1) | exact HB.out)⟩
              · rw [if_neg c37] at H
                exact absurd H (by simp)
            · rw [if_neg c36] at H
              exact absurd H (by simp)
    · rw [if_neg c6] at H
      exact absurd H (by simp)
  · rw [if_neg c5] at H
    exact absurd H (by simp)

/-- THE ONE PURE STATEMENT of slipwaytop_TopFields: yours. -/
def slipwaytop_TopFields.Pure : Prop := ∀ (l0 : List Int) (l1 : List Int) (a2 : Int), l0.length ≤ maxLen → l0.length * 1 ≤ 140737488351232 → (∀ x ∈ l0, (Lit.int .u8 x).wf = true) → l1.length ≤ maxLen → l1.length * 8 ≤ 140737488351232 → (∀ x ∈ l1, (Lit.int .u64 x).wf = true) → (Lit.int .u8 a2).wf = true → ∃ k, slipwaytop_TopFields.f k l0 l1 a2 = some true
theorem slipwaytop_TopFields.walk (P : slipwaytop_TopFields.Pure) (a0 : Option Addr) (len0 cap0 : Nat) (z0 : List Int) (a1 : Option Addr) (len1 cap1 : Nat) (z1 : List Int) (a2 : Int) (w : World) (w0 : (a0 = none ∧ len0 = 0 ∧ cap0 = 0 ∧ z0 = []) ∨ ∃ x, a0 = some x ∧ len0 ≤ cap0 ∧ cap0 ≤ maxLen ∧ z0.length = cap0 ∧ (∀ i, i < z0.length → w.cell? (x.add i) = some (.int .u8 (z0.getD i 0))) ∧ ∀ n ∈ z0, (Lit.int .u8 n).wf = true) (y0 : len0 * 1 ≤ 140737488351232) (w1 : (a1 = none ∧ len1 = 0 ∧ cap1 = 0 ∧ z1 = []) ∨ ∃ x, a1 = some x ∧ len1 ≤ cap1 ∧ cap1 ≤ maxLen ∧ z1.length = cap1 ∧ (∀ i, i < z1.length → w.cell? (x.add i) = some (.int .u64 (z1.getD i 0))) ∧ ∀ n ∈ z1, (Lit.int .u64 n).wf = true) (y1 : len1 * 8 ≤ 140737488351232) (w2 : (Lit.int .u8 a2).wf = true) :
    Calls Try.prog 3 #[.slice a0 len0 cap0, .slice a1 len1 cap1, .int .u8 a2] w fun e w' => e = .returned (.bool true) ∧ Below w.heap.size w w' := by
  obtain ⟨l0, rfl, hr0, hm0, hw0, hc0⟩ := ReadsInt.ofRowC w0
  obtain ⟨l1, rfl, hr1, hm1, hw1, hc1⟩ := ReadsInt.ofRowC w1
  obtain ⟨k, h⟩ := P l0 l1 a2 hm0 y0 hw0 hm1 y1 hw1 w2
  refine (slipwaytop_TopFields.calls k _ _ l0 _ _ l1 a2 true w (Kd.C_of_reads (d := (0 : Int)) (h1 := fun _ => rfl) hr0) hc0 (Kd.C_of_reads (d := (0 : Int)) (h1 := fun _ => rfl) hr1) hc1 h).mono ?_
  rintro e w' ⟨rfl, hd⟩
  exact ⟨rfl, hd⟩

end Go.Proofs.Ytbaedfpimlfonaa.Q
