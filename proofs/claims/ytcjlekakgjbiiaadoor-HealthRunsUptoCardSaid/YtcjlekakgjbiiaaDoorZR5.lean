/- Go functions of this seat as Lean functions, and their contracts, written by our program xprint.py over the kit's printer. -/
import Derived.Test.YtcjlekakgjbiiaaDoorZR3
import Derived.Test.YtcjlekakgjbiiaaDoorZR4
section
namespace Go.Proofs.YtcjlekakgjbiiaaDoor.XA
open Go.Proofs.YtcjlekakgjbiiaaDoor.Gv
attribute [local go_sem] Go.Proofs.YtcjlekakgjbiiaaDoor.Gv.set_again Go.Proofs.YtcjlekakgjbiiaaDoor.Gv.errW_none Go.Proofs.YtcjlekakgjbiiaaDoor.Gv.errW_some
open Go.RowKit Go.Proofs.YtcjlekakgjbiiaaDoorW.PrintWords Go.Proofs.YtcjlekakgjbiiaaDoorW.PrintLast Go.Proofs.YtcjlekakgjbiiaaDoorW.PrintMore
attribute [local go_sem] max2_int min2_int max_two min_two max_three min_three max_four min_four   -- for this text's walks alone
set_option linter.unusedVariables false
set_option linter.unusedSimpArgs false

attribute [local go_sem high] eqA27
/-! ### turnstilelaw24_HealthRuns: function 3 -/
mutual
def turnstilelaw24_HealthRuns.j0 : Nat → List Bool → List Int → Option Int → Bool → ByteArray → Int → Int → Int → Int → Bool → Int → Int → Int → Option (Bool)
 | 0, _, _, _, _, _, _, _, _, _, _, _, _, _ => none
 | k + 1, x1, x2, x8, x41, x193000, x193001, x193002, x193003, x193004, x199000, x199001, x199002, x199003 => if x41 = true then (if x8.isNone = true then ((turnstilelaw24_works.f k).bind fun t201 => (some t201)) else (if (!x199000 && (x199001 == 0 && (x199002 == 0 && (x199003 == 0)))) = true then ((turnstilelaw24_works.f k).bind fun t202 => (some t202)) else (some false))) else (turnstilelaw24_HealthRuns.l0 k x1 x2 true 0 (-1) 0 0 x193000 x193001 x193002 x193003 x193004 x199000 x199001 x199002 x199003)
def turnstilelaw24_HealthRuns.l0 : Nat → List Bool → List Int → Bool → Int → Int → Int → Int → ByteArray → Int → Int → Int → Int → Bool → Int → Int → Int → Option (Bool)
 | 0, _, _, _, _, _, _, _, _, _, _, _, _, _, _, _, _ => none
 | k + 1, x1, x2, x9, x10, x11, x12, x13, x193000, x193001, x193002, x193003, x193004, x199000, x199001, x199002, x199003 => if x13 < (x1.length : Int) then (turnstilelaw24_HealthRuns.j2 k x1 x2 x9 x10 x11 x12 x13 (decide (x13 < 200)) x193000 x193001 x193002 x193003 x193004 x199000 x199001 x199002 x199003) else (turnstilelaw24_HealthRuns.j2 k x1 x2 x9 x10 x11 x12 x13 false x193000 x193001 x193002 x193003 x193004 x199000 x199001 x199002 x199003)
def turnstilelaw24_HealthRuns.j2 : Nat → List Bool → List Int → Bool → Int → Int → Int → Int → Bool → ByteArray → Int → Int → Int → Int → Bool → Int → Int → Int → Option (Bool)
 | 0, _, _, _, _, _, _, _, _, _, _, _, _, _, _, _, _, _ => none
 | k + 1, x1, x2, x9, x10, x11, x12, x13, x59, x193000, x193001, x193002, x193003, x193004, x199000, x199001, x199002, x199003 => if x59 = true then (if x13 < (x2.length : Int) then (if 0 ≤ x13 then (turnstilelaw24_HealthRuns.j3 k x1 x2 x9 x10 x11 x12 x13 (Int.tmod (wrap64 ((Int.tmod (rd x2 x13) 9) + 9)) 9) x193000 x193001 x193002 x193003 x193004 x199000 x199001 x199002 x199003) else (none)) else (turnstilelaw24_HealthRuns.j3 k x1 x2 x9 x10 x11 x12 x13 0 x193000 x193001 x193002 x193003 x193004 x199000 x199001 x199002 x199003)) else ((turnstilelaw24_works.f k).bind fun t203 => (some t203))
def turnstilelaw24_HealthRuns.j3 : Nat → List Bool → List Int → Bool → Int → Int → Int → Int → Int → ByteArray → Int → Int → Int → Int → Bool → Int → Int → Int → Option (Bool)
 | 0, _, _, _, _, _, _, _, _, _, _, _, _, _, _, _, _, _ => none
 | k + 1, x1, x2, x9, x10, x11, x12, x13, x14, x193000, x193001, x193002, x193003, x193004, x199000, x199001, x199002, x199003 => (health_Due.f k x199000 x199001 x199002 x199003 x193000 x193001 x193002 x193003 x193004 (wrap64 ((mx x12 x199002) + x14))).bind fun bt205 => ((health_Send.f k x199000 x199001 x199002 x199003 x193000 x193001 x193002 x193003 x193004 (wrap64 ((mx x12 x199002) + x14))).bind fun bt207 => ((health_Due.f k bt207.1 bt207.2.1 bt207.2.2.1 bt207.2.2.2.1 x193000 x193001 x193002 x193003 x193004 (wrap64 ((mx x12 x199002) + x14))).bind fun bt213 => ((health_Send.f k bt207.1 bt207.2.1 bt207.2.2.1 bt207.2.2.2.1 x193000 x193001 x193002 x193003 x193004 (wrap64 ((mx x12 x199002) + x14))).bind fun bt215 => (if bt205.1 = true then (if bt205.2.isNone = true then (if bt207.2.2.2.2.isNone = true then (if bt213.1 = true then (turnstilelaw24_HealthRuns.j4 k x1 x2 x9 x10 (wrap64 ((mx x12 x199002) + x14)) x13 true x193000 x193001 x193002 x193003 x193004 bt207.1 bt207.2.1 bt207.2.2.1 bt207.2.2.2.1) else (if bt213.2.isNone = true then ((turnstilelaw24_num.f bt215.2.2.2.2).bind fun t224 => (if t224 = 1 then (if x11 ≥ 0 then (if (wrap64 ((wrap64 ((mx x12 x199002) + x14)) - x11)) < x193001 then (turnstilelaw24_HealthRuns.j4 k x1 x2 x9 x10 (wrap64 ((mx x12 x199002) + x14)) x13 true x193000 x193001 x193002 x193003 x193004 bt207.1 bt207.2.1 bt207.2.2.1 bt207.2.2.2.1) else (turnstilelaw24_HealthRuns.j4 k x1 x2 x9 x10 (wrap64 ((mx x12 x199002) + x14)) x13 (bt207.1 != x9) x193000 x193001 x193002 x193003 x193004 bt207.1 bt207.2.1 bt207.2.2.1 bt207.2.2.2.1)) else (turnstilelaw24_HealthRuns.j4 k x1 x2 x9 x10 (wrap64 ((mx x12 x199002) + x14)) x13 (bt207.1 != x9) x193000 x193001 x193002 x193003 x193004 bt207.1 bt207.2.1 bt207.2.2.1 bt207.2.2.2.1)) else (turnstilelaw24_HealthRuns.j4 k x1 x2 x9 x10 (wrap64 ((mx x12 x199002) + x14)) x13 true x193000 x193001 x193002 x193003 x193004 bt207.1 bt207.2.1 bt207.2.2.1 bt207.2.2.2.1))) else (turnstilelaw24_HealthRuns.j4 k x1 x2 x9 x10 (wrap64 ((mx x12 x199002) + x14)) x13 true x193000 x193001 x193002 x193003 x193004 bt207.1 bt207.2.1 bt207.2.2.1 bt207.2.2.2.1))) else (turnstilelaw24_HealthRuns.j4 k x1 x2 x9 x10 (wrap64 ((mx x12 x199002) + x14)) x13 true x193000 x193001 x193002 x193003 x193004 bt207.1 bt207.2.1 bt207.2.2.1 bt207.2.2.2.1)) else (turnstilelaw24_HealthRuns.j4 k x1 x2 x9 x10 (wrap64 ((mx x12 x199002) + x14)) x13 true x193000 x193001 x193002 x193003 x193004 bt207.1 bt207.2.1 bt207.2.2.1 bt207.2.2.2.1)) else (turnstilelaw24_HealthRuns.j4 k x1 x2 x9 x10 (wrap64 ((mx x12 x199002) + x14)) x13 true x193000 x193001 x193002 x193003 x193004 bt207.1 bt207.2.1 bt207.2.2.1 bt207.2.2.2.1)))))
def turnstilelaw24_HealthRuns.j4 : Nat → List Bool → List Int → Bool → Int → Int → Int → Bool → ByteArray → Int → Int → Int → Int → Bool → Int → Int → Int → Option (Bool)
 | 0, _, _, _, _, _, _, _, _, _, _, _, _, _, _, _, _ => none
 | k + 1, x1, x2, x9, x10, x12, x13, x146, x193000, x193001, x193002, x193003, x193004, x213000, x213001, x213002, x213003 => if x146 = true then (some false) else (if 0 ≤ x13 then (if x13 < (x1.length : Int) then ((health_Said.f k x213000 x213001 x213002 x213003 x193000 x193001 x193002 x193003 x193004 (rdOf false x1 x13) x12).bind fun bt226 => (if bt226.2.2.2.2.isNone = true then (if ((rdOf false x1 x13) == x9) = true then (turnstilelaw24_HealthRuns.j5 k x1 x2 x9 0 x12 x12 x13 x193000 x193001 x193002 x193003 x193004 bt226.1 bt226.2.1 bt226.2.2.1 bt226.2.2.2.1) else (turnstilelaw24_HealthRuns.j5 k x1 x2 x9 (wrap64 (x10 + 1)) x12 x12 x13 x193000 x193001 x193002 x193003 x193004 bt226.1 bt226.2.1 bt226.2.2.1 bt226.2.2.2.1)) else (some false))) else (none)) else (none))
def turnstilelaw24_HealthRuns.j5 : Nat → List Bool → List Int → Bool → Int → Int → Int → Int → ByteArray → Int → Int → Int → Int → Bool → Int → Int → Int → Option (Bool)
 | 0, _, _, _, _, _, _, _, _, _, _, _, _, _, _, _, _ => none
 | k + 1, x1, x2, x9, x10, x11, x12, x13, x193000, x193001, x193002, x193003, x193004, x232000, x232001, x232002, x232003 => if x9 = true then (if x10 = x193004 then (turnstilelaw24_HealthRuns.j6 k x1 x2 x9 x10 x11 x12 x13 true x193000 x193001 x193002 x193003 x193004 x232000 x232001 x232002 x232003) else (turnstilelaw24_HealthRuns.j6 k x1 x2 x9 x10 x11 x12 x13 false x193000 x193001 x193002 x193003 x193004 x232000 x232001 x232002 x232003)) else (turnstilelaw24_HealthRuns.j6 k x1 x2 x9 x10 x11 x12 x13 (x10 == x193003) x193000 x193001 x193002 x193003 x193004 x232000 x232001 x232002 x232003)
def turnstilelaw24_HealthRuns.j6 : Nat → List Bool → List Int → Bool → Int → Int → Int → Int → Bool → ByteArray → Int → Int → Int → Int → Bool → Int → Int → Int → Option (Bool)
 | 0, _, _, _, _, _, _, _, _, _, _, _, _, _, _, _, _, _ => none
 | k + 1, x1, x2, x9, x10, x11, x12, x13, x185, x193000, x193001, x193002, x193003, x193004, x232000, x232001, x232002, x232003 => if x185 = true then (if (x232000 != (!x9)) = true then (some false) else (turnstilelaw24_HealthRuns.l0 k x1 x2 (!x9) 0 x11 x12 (wrap64 (x13 + 1)) x193000 x193001 x193002 x193003 x193004 x232000 x232001 x232002 x232003)) else (if (x232000 != x9) = true then (some false) else (turnstilelaw24_HealthRuns.l0 k x1 x2 x9 x10 x11 x12 (wrap64 (x13 + 1)) x193000 x193001 x193002 x193003 x193004 x232000 x232001 x232002 x232003))
end
def turnstilelaw24_HealthRuns.f (k : Nat) (a0_0 : ByteArray) (a0_1 : Int) (a0_2 : Int) (a0_3 : Int) (a0_4 : Int) (l1 : List Bool) (l2 : List Int) : Option (Bool) := (health_New.f k a0_0 a0_1 a0_2 a0_3 a0_4 0).bind fun bt193 => (if bt193.2.2.2.2.isNone = true then (if a0_1 = 0 then (turnstilelaw24_HealthRuns.j0 k l1 l2 none true a0_0 a0_1 a0_2 a0_3 a0_4 bt193.1 bt193.2.1 bt193.2.2.1 bt193.2.2.2.1) else (turnstilelaw24_HealthRuns.j0 k l1 l2 none (decide (a0_1 > 1048576)) a0_0 a0_1 a0_2 a0_3 a0_4 bt193.1 bt193.2.1 bt193.2.2.1 bt193.2.2.2.1)) else (turnstilelaw24_HealthRuns.j0 k l1 l2 (some (bt193.2.2.2.2.getD 0)) true a0_0 a0_1 a0_2 a0_3 a0_4 bt193.1 bt193.2.1 bt193.2.2.1 bt193.2.2.2.1))
theorem turnstilelaw24_HealthRuns.mono_l : ∀ k, (∀ y0 y1 y2 y3 y4 y5 y6 y7 y8 y9 y10 y11 y12, LeO (turnstilelaw24_HealthRuns.j0 k y0 y1 y2 y3 y4 y5 y6 y7 y8 y9 y10 y11 y12) (turnstilelaw24_HealthRuns.j0 (k + 1) y0 y1 y2 y3 y4 y5 y6 y7 y8 y9 y10 y11 y12)) ∧ (∀ y0 y1 y2 y3 y4 y5 y6 y7 y8 y9 y10 y11 y12 y13 y14 y15, LeO (turnstilelaw24_HealthRuns.l0 k y0 y1 y2 y3 y4 y5 y6 y7 y8 y9 y10 y11 y12 y13 y14 y15) (turnstilelaw24_HealthRuns.l0 (k + 1) y0 y1 y2 y3 y4 y5 y6 y7 y8 y9 y10 y11 y12 y13 y14 y15)) ∧ (∀ y0 y1 y2 y3 y4 y5 y6 y7 y8 y9 y10 y11 y12 y13 y14 y15 y16, LeO (turnstilelaw24_HealthRuns.j2 k y0 y1 y2 y3 y4 y5 y6 y7 y8 y9 y10 y11 y12 y13 y14 y15 y16) (turnstilelaw24_HealthRuns.j2 (k + 1) y0 y1 y2 y3 y4 y5 y6 y7 y8 y9 y10 y11 y12 y13 y14 y15 y16)) ∧ (∀ y0 y1 y2 y3 y4 y5 y6 y7 y8 y9 y10 y11 y12 y13 y14 y15 y16, LeO (turnstilelaw24_HealthRuns.j3 k y0 y1 y2 y3 y4 y5 y6 y7 y8 y9 y10 y11 y12 y13 y14 y15 y16) (turnstilelaw24_HealthRuns.j3 (k + 1) y0 y1 y2 y3 y4 y5 y6 y7 y8 y9 y10 y11 y12 y13 y14 y15 y16)) ∧ (∀ y0 y1 y2 y3 y4 y5 y6 y7 y8 y9 y10 y11 y12 y13 y14 y15, LeO (turnstilelaw24_HealthRuns.j4 k y0 y1 y2 y3 y4 y5 y6 y7 y8 y9 y10 y11 y12 y13 y14 y15) (turnstilelaw24_HealthRuns.j4 (k + 1) y0 y1 y2 y3 y4 y5 y6 y7 y8 y9 y10 y11 y12 y13 y14 y15)) ∧ (∀ y0 y1 y2 y3 y4 y5 y6 y7 y8 y9 y10 y11 y12 y13 y14 y15, LeO (turnstilelaw24_HealthRuns.j5 k y0 y1 y2 y3 y4 y5 y6 y7 y8 y9 y10 y11 y12 y13 y14 y15) (turnstilelaw24_HealthRuns.j5 (k + 1) y0 y1 y2 y3 y4 y5 y6 y7 y8 y9 y10 y11 y12 y13 y14 y15)) ∧ (∀ y0 y1 y2 y3 y4 y5 y6 y7 y8 y9 y10 y11 y12 y13 y14 y15 y16, LeO (turnstilelaw24_HealthRuns.j6 k y0 y1 y2 y3 y4 y5 y6 y7 y8 y9 y10 y11 y12 y13 y14 y15 y16) (turnstilelaw24_HealthRuns.j6 (k + 1) y0 y1 y2 y3 y4 y5 y6 y7 y8 y9 y10 y11 y12 y13 y14 y15 y16))
 | 0 => ⟨fun _ _ _ _ _ _ _ _ _ _ _ _ _ r h => by simp [turnstilelaw24_HealthRuns.j0] at h, fun _ _ _ _ _ _ _ _ _ _ _ _ _ _ _ _ r h => by simp [turnstilelaw24_HealthRuns.l0] at h, fun _ _ _ _ _ _ _ _ _ _ _ _ _ _ _ _ _ r h => by simp [turnstilelaw24_HealthRuns.j2] at h, fun _ _ _ _ _ _ _ _ _ _ _ _ _ _ _ _ _ r h => by simp [turnstilelaw24_HealthRuns.j3] at h, fun _ _ _ _ _ _ _ _ _ _ _ _ _ _ _ _ r h => by simp [turnstilelaw24_HealthRuns.j4] at h, fun _ _ _ _ _ _ _ _ _ _ _ _ _ _ _ _ r h => by simp [turnstilelaw24_HealthRuns.j5] at h, fun _ _ _ _ _ _ _ _ _ _ _ _ _ _ _ _ _ r h => by simp [turnstilelaw24_HealthRuns.j6] at h⟩
 | k + 1 => by
  obtain ⟨ih0, ih1, ih2, ih3, ih4, ih5, ih6⟩ := turnstilelaw24_HealthRuns.mono_l k
  refine ⟨?_, ?_, ?_, ?_, ?_, ?_, ?_⟩
  ·intro y0 y1 y2 y3 y4 y5 y6 y7 y8 y9 y10 y11 y12
   unfold turnstilelaw24_HealthRuns.j0
   repeat' first
   | (with_reducible exact ih0 _ _ _ _ _ _ _ _ _ _ _ _ _)
   | (with_reducible exact ih1 _ _ _ _ _ _ _ _ _ _ _ _ _ _ _ _)
   | (with_reducible exact ih2 _ _ _ _ _ _ _ _ _ _ _ _ _ _ _ _ _)
   | (with_reducible exact ih3 _ _ _ _ _ _ _ _ _ _ _ _ _ _ _ _ _)
   | (with_reducible exact ih4 _ _ _ _ _ _ _ _ _ _ _ _ _ _ _ _)
   | (with_reducible exact ih5 _ _ _ _ _ _ _ _ _ _ _ _ _ _ _ _)
   | (with_reducible exact ih6 _ _ _ _ _ _ _ _ _ _ _ _ _ _ _ _ _)
   | (with_reducible exact health_Due.mono _ _ _ _ _ _ _ _ _ _ _)
   | (with_reducible exact health_New.mono _ _ _ _ _ _ _)
   | (with_reducible exact health_Said.mono _ _ _ _ _ _ _ _ _ _ _ _)
   | (with_reducible exact health_Send.mono _ _ _ _ _ _ _ _ _ _ _)
   | (with_reducible exact turnstilelaw24_works.mono _)
   | (with_reducible exact LeO.refl _)
   | (with_reducible exact LeO.none _)
   | (with_reducible refine LeO.ite ?_ ?_)
   | (with_reducible refine LeO.bind ?_ (fun _ => ?_))
   | exact ih0 _ _ _ _ _ _ _ _ _ _ _ _ _
   | exact ih1 _ _ _ _ _ _ _ _ _ _ _ _ _ _ _ _
   | exact ih2 _ _ _ _ _ _ _ _ _ _ _ _ _ _ _ _ _
   | exact ih3 _ _ _ _ _ _ _ _ _ _ _ _ _ _ _ _ _
   | exact ih4 _ _ _ _ _ _ _ _ _ _ _ _ _ _ _ _
   | exact ih5 _ _ _ _ _ _ _ _ _ _ _ _ _ _ _ _
   | exact ih6 _ _ _ _ _ _ _ _ _ _ _ _ _ _ _ _ _
   | exact health_Due.mono _ _ _ _ _ _ _ _ _ _ _
   | exact health_New.mono _ _ _ _ _ _ _
   | exact health_Said.mono _ _ _ _ _ _ _ _ _ _ _ _
   | exact health_Send.mono _ _ _ _ _ _ _ _ _ _ _
   | exact turnstilelaw24_works.mono _
   | exact LeO.none _
   | refine LeO.ite ?_ ?_
   | refine LeO.bind ?_ (fun _ => ?_)
  ·intro y0 y1 y2 y3 y4 y5 y6 y7 y8 y9 y10 y11 y12 y13 y14 y15
   unfold turnstilelaw24_HealthRuns.l0
   repeat' first
   | (with_reducible exact ih0 _ _ _ _ _ _ _ _ _ _ _ _ _)
   | (with_reducible exact ih1 _ _ _ _ _ _ _ _ _ _ _ _ _ _ _ _)
   | (with_reducible exact ih2 _ _ _ _ _ _ _ _ _ _ _ _ _ _ _ _ _)
   | (with_reducible exact ih3 _ _ _ _ _ _ _ _ _ _ _ _ _ _ _ _ _)
   | (with_reducible exact ih4 _ _ _ _ _ _ _ _ _ _ _ _ _ _ _ _)
   | (with_reducible exact ih5 _ _ _ _ _ _ _ _ _ _ _ _ _ _ _ _)
   | (with_reducible exact ih6 _ _ _ _ _ _ _ _ _ _ _ _ _ _ _ _ _)
   | (with_reducible exact health_Due.mono _ _ _ _ _ _ _ _ _ _ _)
   | (with_reducible exact health_New.mono _ _ _ _ _ _ _)
   | (with_reducible exact health_Said.mono _ _ _ _ _ _ _ _ _ _ _ _)
   | (with_reducible exact health_Send.mono _ _ _ _ _ _ _ _ _ _ _)
   | (with_reducible exact turnstilelaw24_works.mono _)
   | (with_reducible exact LeO.refl _)
   | (with_reducible exact LeO.none _)
   | (with_reducible refine LeO.ite ?_ ?_)
   | (with_reducible refine LeO.bind ?_ (fun _ => ?_))
   | exact ih0 _ _ _ _ _ _ _ _ _ _ _ _ _
   | exact ih1 _ _ _ _ _ _ _ _ _ _ _ _ _ _ _ _
   | exact ih2 _ _ _ _ _ _ _ _ _ _ _ _ _ _ _ _ _
   | exact ih3 _ _ _ _ _ _ _ _ _ _ _ _ _ _ _ _ _
   | exact ih4 _ _ _ _ _ _ _ _ _ _ _ _ _ _ _ _
   | exact ih5 _ _ _ _ _ _ _ _ _ _ _ _ _ _ _ _
   | exact ih6 _ _ _ _ _ _ _ _ _ _ _ _ _ _ _ _ _
   | exact health_Due.mono _ _ _ _ _ _ _ _ _ _ _
   | exact health_New.mono _ _ _ _ _ _ _
   | exact health_Said.mono _ _ _ _ _ _ _ _ _ _ _ _
   | exact health_Send.mono _ _ _ _ _ _ _ _ _ _ _
   | exact turnstilelaw24_works.mono _
   | exact LeO.none _
   | refine LeO.ite ?_ ?_
   | refine LeO.bind ?_ (fun _ => ?_)
  ·intro y0 y1 y2 y3 y4 y5 y6 y7 y8 y9 y10 y11 y12 y13 y14 y15 y16
   unfold turnstilelaw24_HealthRuns.j2
   repeat' first
   | (with_reducible exact ih0 _ _ _ _ _ _ _ _ _ _ _ _ _)
   | (with_reducible exact ih1 _ _ _ _ _ _ _ _ _ _ _ _ _ _ _ _)
   | (with_reducible exact ih2 _ _ _ _ _ _ _ _ _ _ _ _ _ _ _ _ _)
   | (with_reducible exact ih3 _ _ _ _ _ _ _ _ _ _ _ _ _ _ _ _ _)
   | (with_reducible exact ih4 _ _ _ _ _ _ _ _ _ _ _ _ _ _ _ _)
   | (with_reducible exact ih5 _ _ _ _ _ _ _ _ _ _ _ _ _ _ _ _)
   | (with_reducible exact ih6 _ _ _ _ _ _ _ _ _ _ _ _ _ _ _ _ _)
   | (with_reducible exact health_Due.mono _ _ _ _ _ _ _ _ _ _ _)
   | (with_reducible exact health_New.mono _ _ _ _ _ _ _)
   | (with_reducible exact health_Said.mono _ _ _ _ _ _ _ _ _ _ _ _)
   | (with_reducible exact health_Send.mono _ _ _ _ _ _ _ _ _ _ _)
   | (with_reducible exact turnstilelaw24_works.mono _)
   | (with_reducible exact LeO.refl _)
   | (with_reducible exact LeO.none _)
   | (with_reducible refine LeO.ite ?_ ?_)
   | (with_reducible refine LeO.bind ?_ (fun _ => ?_))
   | exact ih0 _ _ _ _ _ _ _ _ _ _ _ _ _
   | exact ih1 _ _ _ _ _ _ _ _ _ _ _ _ _ _ _ _
   | exact ih2 _ _ _ _ _ _ _ _ _ _ _ _ _ _ _ _ _
   | exact ih3 _ _ _ _ _ _ _ _ _ _ _ _ _ _ _ _ _
   | exact ih4 _ _ _ _ _ _ _ _ _ _ _ _ _ _ _ _
   | exact ih5 _ _ _ _ _ _ _ _ _ _ _ _ _ _ _ _
   | exact ih6 _ _ _ _ _ _ _ _ _ _ _ _ _ _ _ _ _
   | exact health_Due.mono _ _ _ _ _ _ _ _ _ _ _
   | exact health_New.mono _ _ _ _ _ _ _
   | exact health_Said.mono _ _ _ _ _ _ _ _ _ _ _ _
   | exact health_Send.mono _ _ _ _ _ _ _ _ _ _ _
   | exact turnstilelaw24_works.mono _
   | exact LeO.none _
   | refine LeO.ite ?_ ?_
   | refine LeO.bind ?_ (fun _ => ?_)
  ·intro y0 y1 y2 y3 y4 y5 y6 y7 y8 y9 y10 y11 y12 y13 y14 y15 y16
   unfold turnstilelaw24_HealthRuns.j3
   repeat' first
   | (with_reducible exact ih0 _ _ _ _ _ _ _ _ _ _ _ _ _)
   | (with_reducible exact ih1 _ _ _ _ _ _ _ _ _ _ _ _ _ _ _ _)
   | (with_reducible exact ih2 _ _ _ _ _ _ _ _ _ _ _ _ _ _ _ _ _)
   | (with_reducible exact ih3 _ _ _ _ _ _ _ _ _ _ _ _ _ _ _ _ _)
   | (with_reducible exact ih4 _ _ _ _ _ _ _ _ _ _ _ _ _ _ _ _)
   | (with_reducible exact ih5 _ _ _ _ _ _ _ _ _ _ _ _ _ _ _ _)
   | (with_reducible exact ih6 _ _ _ _ _ _ _ _ _ _ _ _ _ _ _ _ _)
   | (with_reducible exact health_Due.mono _ _ _ _ _ _ _ _ _ _ _)
   | (with_reducible exact health_New.mono _ _ _ _ _ _ _)
   | (with_reducible exact health_Said.mono _ _ _ _ _ _ _ _ _ _ _ _)
   | (with_reducible exact health_Send.mono _ _ _ _ _ _ _ _ _ _ _)
   | (with_reducible exact turnstilelaw24_works.mono _)
   | (with_reducible exact LeO.refl _)
   | (with_reducible exact LeO.none _)
   | (with_reducible refine LeO.ite ?_ ?_)
   | (with_reducible refine LeO.bind ?_ (fun _ => ?_))
   | exact ih0 _ _ _ _ _ _ _ _ _ _ _ _ _
   | exact ih1 _ _ _ _ _ _ _ _ _ _ _ _ _ _ _ _
   | exact ih2 _ _ _ _ _ _ _ _ _ _ _ _ _ _ _ _ _
   | exact ih3 _ _ _ _ _ _ _ _ _ _ _ _ _ _ _ _ _
   | exact ih4 _ _ _ _ _ _ _ _ _ _ _ _ _ _ _ _
   | exact ih5 _ _ _ _ _ _ _ _ _ _ _ _ _ _ _ _
   | exact ih6 _ _ _ _ _ _ _ _ _ _ _ _ _ _ _ _ _
   | exact health_Due.mono _ _ _ _ _ _ _ _ _ _ _
   | exact health_New.mono _ _ _ _ _ _ _
   | exact health_Said.mono _ _ _ _ _ _ _ _ _ _ _ _
   | exact health_Send.mono _ _ _ _ _ _ _ _ _ _ _
   | exact turnstilelaw24_works.mono _
   | exact LeO.none _
   | refine LeO.ite ?_ ?_
   | refine LeO.bind ?_ (fun _ => ?_)
  ·intro y0 y1 y2 y3 y4 y5 y6 y7 y8 y9 y10 y11 y12 y13 y14 y15
   unfold turnstilelaw24_HealthRuns.j4
   repeat' first
   | (with_reducible exact ih0 _ _ _ _ _ _ _ _ _ _ _ _ _)
   | (with_reducible exact ih1 _ _ _ _ _ _ _ _ _ _ _ _ _ _ _ _)
   | (with_reducible exact ih2 _ _ _ _ _ _ _ _ _ _ _ _ _ _ _ _ _)
   | (with_reducible exact ih3 _ _ _ _ _ _ _ _ _ _ _ _ _ _ _ _ _)
   | (with_reducible exact ih4 _ _ _ _ _ _ _ _ _ _ _ _ _ _ _ _)
   | (with_reducible exact ih5 _ _ _ _ _ _ _ _ _ _ _ _ _ _ _ _)
   | (with_reducible exact ih6 _ _ _ _ _ _ _ _ _ _ _ _ _ _ _ _ _)
   | (with_reducible exact health_Due.mono _ _ _ _ _ _ _ _ _ _ _)
   | (with_reducible exact health_New.mono _ _ _ _ _ _ _)
   | (with_reducible exact health_Said.mono _ _ _ _ _ _ _ _ _ _ _ _)
   | (with_reducible exact health_Send.mono _ _ _ _ _ _ _ _ _ _ _)
   | (with_reducible exact turnstilelaw24_works.mono _)
   | (with_reducible exact LeO.refl _)
   | (with_reducible exact LeO.none _)
   | (with_reducible refine LeO.ite ?_ ?_)
   | (with_reducible refine LeO.bind ?_ (fun _ => ?_))
   | exact ih0 _ _ _ _ _ _ _ _ _ _ _ _ _
   | exact ih1 _ _ _ _ _ _ _ _ _ _ _ _ _ _ _ _
   | exact ih2 _ _ _ _ _ _ _ _ _ _ _ _ _ _ _ _ _
   | exact ih3 _ _ _ _ _ _ _ _ _ _ _ _ _ _ _ _ _
   | exact ih4 _ _ _ _ _ _ _ _ _ _ _ _ _ _ _ _
   | exact ih5 _ _ _ _ _ _ _ _ _ _ _ _ _ _ _ _
   | exact ih6 _ _ _ _ _ _ _ _ _ _ _ _ _ _ _ _ _
   | exact health_Due.mono _ _ _ _ _ _ _ _ _ _ _
   | exact health_New.mono _ _ _ _ _ _ _
   | exact health_Said.mono _ _ _ _ _ _ _ _ _ _ _ _
   | exact health_Send.mono _ _ _ _ _ _ _ _ _ _ _
   | exact turnstilelaw24_works.mono _
   | exact LeO.none _
   | refine LeO.ite ?_ ?_
   | refine LeO.bind ?_ (fun _ => ?_)
  ·intro y0 y1 y2 y3 y4 y5 y6 y7 y8 y9 y10 y11 y12 y13 y14 y15
   unfold turnstilelaw24_HealthRuns.j5
   repeat' first
   | (with_reducible exact ih0 _ _ _ _ _ _ _ _ _ _ _ _ _)
   | (with_reducible exact ih1 _ _ _ _ _ _ _ _ _ _ _ _ _ _ _ _)
   | (with_reducible exact ih2 _ _ _ _ _ _ _ _ _ _ _ _ _ _ _ _ _)
   | (with_reducible exact ih3 _ _ _ _ _ _ _ _ _ _ _ _ _ _ _ _ _)
   | (with_reducible exact ih4 _ _ _ _ _ _ _ _ _ _ _ _ _ _ _ _)
   | (with_reducible exact ih5 _ _ _ _ _ _ _ _ _ _ _ _ _ _ _ _)
   | (with_reducible exact ih6 _ _ _ _ _ _ _ _ _ _ _ _ _ _ _ _ _)
   | (with_reducible exact health_Due.mono _ _ _ _ _ _ _ _ _ _ _)
   | (with_reducible exact health_New.mono _ _ _ _ _ _ _)
   | (with_reducible exact health_Said.mono _ _ _ _ _ _ _ _ _ _ _ _)
   | (with_reducible exact health_Send.mono _ _ _ _ _ _ _ _ _ _ _)
   | (with_reducible exact turnstilelaw24_works.mono _)
   | (with_reducible exact LeO.refl _)
   | (with_reducible exact LeO.none _)
   | (with_reducible refine LeO.ite ?_ ?_)
   | (with_reducible refine LeO.bind ?_ (fun _ => ?_))
   | exact ih0 _ _ _ _ _ _ _ _ _ _ _ _ _
   | exact ih1 _ _ _ _ _ _ _ _ _ _ _ _ _ _ _ _
   | exact ih2 _ _ _ _ _ _ _ _ _ _ _ _ _ _ _ _ _
   | exact ih3 _ _ _ _ _ _ _ _ _ _ _ _ _ _ _ _ _
   | exact ih4 _ _ _ _ _ _ _ _ _ _ _ _ _ _ _ _
   | exact ih5 _ _ _ _ _ _ _ _ _ _ _ _ _ _ _ _
   | exact ih6 _ _ _ _ _ _ _ _ _ _ _ _ _ _ _ _ _
   | exact health_Due.mono _ _ _ _ _ _ _ _ _ _ _
   | exact health_New.mono _ _ _ _ _ _ _
   | exact health_Said.mono _ _ _ _ _ _ _ _ _ _ _ _
   | exact health_Send.mono _ _ _ _ _ _ _ _ _ _ _
   | exact turnstilelaw24_works.mono _
   | exact LeO.none _
   | refine LeO.ite ?_ ?_
   | refine LeO.bind ?_ (fun _ => ?_)
  ·intro y0 y1 y2 y3 y4 y5 y6 y7 y8 y9 y10 y11 y12 y13 y14 y15 y16
   unfold turnstilelaw24_HealthRuns.j6
   repeat' first
   | (with_reducible exact ih0 _ _ _ _ _ _ _ _ _ _ _ _ _)
   | (with_reducible exact ih1 _ _ _ _ _ _ _ _ _ _ _ _ _ _ _ _)
   | (with_reducible exact ih2 _ _ _ _ _ _ _ _ _ _ _ _ _ _ _ _ _)
   | (with_reducible exact ih3 _ _ _ _ _ _ _ _ _ _ _ _ _ _ _ _ _)
   | (with_reducible exact ih4 _ _ _ _ _ _ _ _ _ _ _ _ _ _ _ _)
   | (with_reducible exact ih5 _ _ _ _ _ _ _ _ _ _ _ _ _ _ _ _)
   | (with_reducible exact ih6 _ _ _ _ _ _ _ _ _ _ _ _ _ _ _ _ _)
   | (with_reducible exact health_Due.mono _ _ _ _ _ _ _ _ _ _ _)
   | (with_reducible exact health_New.mono _ _ _ _ _ _ _)
   | (with_reducible exact health_Said.mono _ _ _ _ _ _ _ _ _ _ _ _)
   | (with_reducible exact health_Send.mono _ _ _ _ _ _ _ _ _ _ _)
   | (with_reducible exact turnstilelaw24_works.mono _)
   | (with_reducible exact LeO.refl _)
   | (with_reducible exact LeO.none _)
   | (with_reducible refine LeO.ite ?_ ?_)
   | (with_reducible refine LeO.bind ?_ (fun _ => ?_))
   | exact ih0 _ _ _ _ _ _ _ _ _ _ _ _ _
   | exact ih1 _ _ _ _ _ _ _ _ _ _ _ _ _ _ _ _
   | exact ih2 _ _ _ _ _ _ _ _ _ _ _ _ _ _ _ _ _
   | exact ih3 _ _ _ _ _ _ _ _ _ _ _ _ _ _ _ _ _
   | exact ih4 _ _ _ _ _ _ _ _ _ _ _ _ _ _ _ _
   | exact ih5 _ _ _ _ _ _ _ _ _ _ _ _ _ _ _ _
   | exact ih6 _ _ _ _ _ _ _ _ _ _ _ _ _ _ _ _ _
   | exact health_Due.mono _ _ _ _ _ _ _ _ _ _ _
   | exact health_New.mono _ _ _ _ _ _ _
   | exact health_Said.mono _ _ _ _ _ _ _ _ _ _ _ _
   | exact health_Send.mono _ _ _ _ _ _ _ _ _ _ _
   | exact turnstilelaw24_works.mono _
   | exact LeO.none _
   | refine LeO.ite ?_ ?_
   | refine LeO.bind ?_ (fun _ => ?_)
theorem turnstilelaw24_HealthRuns.mono : ∀ a0 a1 a2 a3 a4 a5 a6 k, LeO (turnstilelaw24_HealthRuns.f k a0 a1 a2 a3 a4 a5 a6) (turnstilelaw24_HealthRuns.f (k + 1) a0 a1 a2 a3 a4 a5 a6) := by
 intro a0 a1 a2 a3 a4 a5 a6 k
 obtain ⟨ih0, ih1, ih2, ih3, ih4, ih5, ih6⟩ := turnstilelaw24_HealthRuns.mono_l k
 unfold turnstilelaw24_HealthRuns.f
 repeat' first
   | (with_reducible exact ih0 _ _ _ _ _ _ _ _ _ _ _ _ _)
   | (with_reducible exact ih1 _ _ _ _ _ _ _ _ _ _ _ _ _ _ _ _)
   | (with_reducible exact ih2 _ _ _ _ _ _ _ _ _ _ _ _ _ _ _ _ _)
   | (with_reducible exact ih3 _ _ _ _ _ _ _ _ _ _ _ _ _ _ _ _ _)
   | (with_reducible exact ih4 _ _ _ _ _ _ _ _ _ _ _ _ _ _ _ _)
   | (with_reducible exact ih5 _ _ _ _ _ _ _ _ _ _ _ _ _ _ _ _)
   | (with_reducible exact ih6 _ _ _ _ _ _ _ _ _ _ _ _ _ _ _ _ _)
   | (with_reducible exact health_Due.mono _ _ _ _ _ _ _ _ _ _ _)
   | (with_reducible exact health_New.mono _ _ _ _ _ _ _)
   | (with_reducible exact health_Said.mono _ _ _ _ _ _ _ _ _ _ _ _)
   | (with_reducible exact health_Send.mono _ _ _ _ _ _ _ _ _ _ _)
   | (with_reducible exact turnstilelaw24_works.mono _)
   | (with_reducible exact LeO.refl _)
   | (with_reducible exact LeO.none _)
   | (with_reducible refine LeO.ite ?_ ?_)
   | (with_reducible refine LeO.bind ?_ (fun _ => ?_))
   | exact ih0 _ _ _ _ _ _ _ _ _ _ _ _ _
   | exact ih1 _ _ _ _ _ _ _ _ _ _ _ _ _ _ _ _
   | exact ih2 _ _ _ _ _ _ _ _ _ _ _ _ _ _ _ _ _
   | exact ih3 _ _ _ _ _ _ _ _ _ _ _ _ _ _ _ _ _
   | exact ih4 _ _ _ _ _ _ _ _ _ _ _ _ _ _ _ _
   | exact ih5 _ _ _ _ _ _ _ _ _ _ _ _ _ _ _ _
   | exact ih6 _ _ _ _ _ _ _ _ _ _ _ _ _ _ _ _ _
   | exact health_Due.mono _ _ _ _ _ _ _ _ _ _ _
   | exact health_New.mono _ _ _ _ _ _ _
   | exact health_Said.mono _ _ _ _ _ _ _ _ _ _ _ _
   | exact health_Send.mono _ _ _ _ _ _ _ _ _ _ _
   | exact turnstilelaw24_works.mono _
   | exact LeO.none _
   | refine LeO.ite ?_ ?_
   | refine LeO.bind ?_ (fun _ => ?_)
def turnstilelaw24_HealthRuns.T19 : Bool × List (List Nat × List Nat) := (true, [([], []), ([], []), ([], []), ([], []), ([2, 3], [2, 3]), ([4], [4]), ([], []), ([0, 1, 5, 6], [0, 1, 5, 6]), ([7], [7]), ([8], [8]), ([8], [8]), ([], []), ([11, 9, 7, 0, 1, 2, 3, 4, 5, 6, 7, 8, 9, 11], [9, 11]), ([10, 12, 0, 1, 2, 3, 4, 5, 6, 7, 8, 9, 10, 11, 12], [10])])
def turnstilelaw24_HealthRuns.B19 : List Nat := [0, 0, 0, 0, 12, 28, 0, 127, 255, 511, 511, 0, 3071, 8191]
theorem turnstilelaw24_HealthRuns.tab19 : rtab .any (opsOf Tryd.f3 19) = turnstilelaw24_HealthRuns.T19 := by kernel_rfl
theorem turnstilelaw24_HealthRuns.bits19 : waitsOk turnstilelaw24_HealthRuns.T19.2 turnstilelaw24_HealthRuns.B19 = true := by kernel_rfl
set_option maxHeartbeats 8000000 in
set_option maxRecDepth 100000 in
theorem turnstilelaw24_HealthRuns.calls (k : Nat) (a0_0 : ByteArray) (a0_1 : Int) (a0_2 : Int) (a0_3 : Int) (a0_4 : Int) (A1 : Option Addr) (c1 : Nat) (l1 : List Bool) (A2 : Option Addr) (c2 : Nat) (l2 : List Int) (r : Bool) (w : World) (hG : Aside0 (GInv w)) (hr1 : Kd.C Kd.bool w A1 l1.length l1) (hc1 : l1.length ≤ c1) (hr2 : Kd.C (Kd.int .i64) w A2 l2.length l2) (hc2 : l2.length ≤ c2) (h : turnstilelaw24_HealthRuns.f k a0_0 a0_1 a0_2 a0_3 a0_4 l1 l2 = some r) :
  Calls Tryd.prog 3 #[.agg #[.string a0_0, .int .i64 a0_1, .int .i64 a0_2, .int .i64 a0_3, .int .i64 a0_4], .slice A1 l1.length c1, .slice A2 l2.length c2] w fun e w' => e = .returned (.bool r) ∧ Below w.heap.size w w' := by
 have hu23 := Tryd.underlying23
 have hu27 := Tryd.underlying27
 have hu29 := Tryd.underlying29
 have hu42 := Tryd.underlying42
 have HR1 := Aside0.mk hr1
 have HC1 := Aside0.mk hc1
 clear hr1 hc1
 have HR2 := Aside0.mk hr2
 have HC2 := Aside0.mk hc2
 clear hr2 hc2
 have HB := Aside0.mk (Below.refl w.heap.size w)
 have H : ((health_New.f k a0_0 a0_1 a0_2 a0_3 a0_4 0).bind fun bt193 => (if bt193.2.2.2.2.isNone = true then (if a0_1 = 0 then (turnstilelaw24_HealthRuns.j0 k l1 l2 none true a0_0 a0_1 a0_2 a0_3 a0_4 bt193.1 bt193.2.1 bt193.2.2.1 bt193.2.2.2.1) else (turnstilelaw24_HealthRuns.j0 k l1 l2 none (decide (a0_1 > 1048576)) a0_0 a0_1 a0_2 a0_3 a0_4 bt193.1 bt193.2.1 bt193.2.2.1 bt193.2.2.2.1)) else (turnstilelaw24_HealthRuns.j0 k l1 l2 (some (bt193.2.2.2.2.getD 0)) true a0_0 a0_1 a0_2 a0_3 a0_4 bt193.1 bt193.2.1 bt193.2.2.1 bt193.2.2.2.1))) = some r := h
 clear h
 replace H := Option.bind_eq_some_iff.mp H
 obtain ⟨⟨t193, t194, t195, t196, t197⟩, A40, H⟩ := H
 replace H : (if t197.isNone = true then (if a0_1 = 0 then (turnstilelaw24_HealthRuns.j0 k l1 l2 none true a0_0 a0_1 a0_2 a0_3 a0_4 t193 t194 t195 t196) else (turnstilelaw24_HealthRuns.j0 k l1 l2 none (decide (a0_1 > 1048576)) a0_0 a0_1 a0_2 a0_3 a0_4 t193 t194 t195 t196)) else (turnstilelaw24_HealthRuns.j0 k l1 l2 (some (t197.getD 0)) true a0_0 a0_1 a0_2 a0_3 a0_4 t193 t194 t195 t196)) = some r := H
 have A4 := Aside0.mk A40
 clear A40
 have HC5 := Aside0.mk H
 clear H
 go_enter Tryd.func3, Tryd.ntmps3
 go_upto_region 2 with (first | ((with_reducible refine gate_dst (N := 3) rfl ?_); refine box_event ?hg (N := 3) ?hd (cs := #[.string a0_0, .int .i64 a0_1, .int .i64 a0_2, .int .i64 a0_3, .int .i64 a0_4]) (t := 23) ?hr ?_; (case hd => rfl); (case hg => rfl); (case hr => first | (go_simp; done) | (go_simp; rfl)); intro gb192 hg w6 hbox hb; have n0_ := Aside0.mk (below_step tb hb); have n1_ := Aside0.mk (hbox); have n2_ := Aside0.mk ((by rw [hg]; exact (below_size tb) : w.heap.size ≤ gb192)); have n3_ := Aside0.mk ((by rw [hg]; exact (below_size tb) : w.heap.size ≤ gb192)); clear HB; have HB := n0_; have BK192 := n1_; have GW192 := n2_; have GE192 := n3_; clear n0_ n1_ n2_ n3_; clear hb hbox hg; have hcz7_0 : w6.cell? ⟨gb192, 0, none⟩ = some (.string a0_0) := (blk_cell BK192.out 0).trans rfl; have hcz7_1 : w6.cell? ⟨gb192, 1, none⟩ = some (.int .i64 a0_1) := (blk_cell BK192.out 1).trans rfl; have hcz7_2 : w6.cell? ⟨gb192, 2, none⟩ = some (.int .i64 a0_2) := (blk_cell BK192.out 2).trans rfl; have hcz7_3 : w6.cell? ⟨gb192, 3, none⟩ = some (.int .i64 a0_3) := (blk_cell BK192.out 3).trans rfl; have hcz7_4 : w6.cell? ⟨gb192, 4, none⟩ = some (.int .i64 a0_4) := (blk_cell BK192.out 4).trans rfl; have hfz7_0 := blk_frozen BK192.out 0; have hfz7_1 := blk_frozen BK192.out 1; have hfz7_2 := blk_frozen BK192.out 2; have hfz7_3 := blk_frozen BK192.out 3; have hfz7_4 := blk_frozen BK192.out 4) | ((with_reducible refine gate_callee (f := 5) rfl ?_); refine goesL_ (some 27) rfl rfl Tryd.func5 (by kernel_rfl) rfl #[.agg #[.string a0_0, .int .i64 a0_1, .int .i64 a0_2, .int .i64 a0_3, .int .i64 a0_4], .int .i64 0] rfl (by (try simp only [List.map_toArray, List.map_cons, List.map_nil]); first | done | rfl | (simp only [List.length_drop, List.length_take]; rfl)) ?_; (with_reducible refine (health_New.calls k a0_0 a0_1 a0_2 a0_3 a0_4 0 t193 t194 t195 t196 t197 _ ?side1 A4.out).mono ?_); (case side1 => first | exact hG | exact GInv.step hG tb); rintro e w8 ⟨rfl, hb⟩; refine ⟨_, rfl, ?_⟩; have n0_ := Aside0.mk (blk_below (tk BK192.out) hb); have n1_ := Aside0.mk (below_step tb hb); clear BK192; clear HB; have BK192 := n0_; have HB := n1_; clear n0_ n1_; (try clear hb); (try clear hb2); (try clear hk); (try clear hi); (try simp only [errW_none, errW_some])) | ((with_reducible refine gate_dst (N := 7) rfl ?_); refine box_event ?hg (N := 7) ?hd (cs := #[.bool false, .int .i64 0, .int .i64 0, .int .i64 0]) (t := 27) ?hr ?_; (case hd => rfl); (case hg => rfl); (case hr => first | (go_simp; done) | (go_simp; rfl)); intro gb198 hg w9 hbox hb; have n0_ := Aside0.mk (blk_below (tk BK192.out) hb); have n1_ := Aside0.mk (below_step tb hb); have n2_ := Aside0.mk (hbox); have n3_ := Aside0.mk ((by rw [hg]; exact (below_size tb) : w.heap.size ≤ gb198)); have n4_ := Aside0.mk ((by rw [hg]; exact (below_size tb) : w.heap.size ≤ gb198)); have n5_ := Aside0.mk ((by rw [hg]; exact Nat.ne_of_lt (blk_lt (tk BK192.out)) : gb192 ≠ gb198)); have n6_ := Aside0.mk ((by rw [hg]; exact Nat.ne_of_gt (blk_lt (tk BK192.out)) : gb198 ≠ gb192)); clear BK192; clear HB; have BK192 := n0_; have HB := n1_; have BK198 := n2_; have GW198 := n3_; have GE198 := n4_; have NB192_198 := n5_; have NB198_192 := n6_; clear n0_ n1_ n2_ n3_ n4_ n5_ n6_; clear hb hbox hg; have hnb10 := NB198_192.out; have hnc10 := NB192_198.out; have hcz11_0 : w9.cell? ⟨gb198, 0, none⟩ = some (.bool false) := (blk_cell BK198.out 0).trans rfl; have hcz11_1 : w9.cell? ⟨gb198, 1, none⟩ = some (.int .i64 0) := (blk_cell BK198.out 1).trans rfl; have hcz11_2 : w9.cell? ⟨gb198, 2, none⟩ = some (.int .i64 0) := (blk_cell BK198.out 2).trans rfl; have hcz11_3 : w9.cell? ⟨gb198, 3, none⟩ = some (.int .i64 0) := (blk_cell BK198.out 3).trans rfl; have hfz11_0 := blk_frozen BK198.out 0; have hfz11_1 := blk_frozen BK198.out 1; have hfz11_2 := blk_frozen BK198.out 2; have hfz11_3 := blk_frozen BK198.out 3))
 (try simp only [Act.put, List.setIfInBounds_toArray, List.set_cons_zero, List.set_cons_succ])
 go_cut [41] (fun v41 wc => ∃ (kq : Nat) (x41_4 : Bool), v41 = .bool x41_4 ∧ Aside0 (turnstilelaw24_HealthRuns.j0 kq l1 l2 t197 x41_4 a0_0 a0_1 a0_2 a0_3 a0_4 t193 t194 t195 t196 = some r) ∧ Aside0 (kq ≤ k) ∧ Aside0 (wc.heap[gb192]? = some (.cells #[.string a0_0, .int .i64 a0_1, .int .i64 a0_2, .int .i64 a0_3, .int .i64 a0_4] 23 (0, 0))) ∧ Aside0 (wc.heap[gb198]? = some (.cells #[.bool t193, .int .i64 t194, .int .i64 t195, .int .i64 t196] 27 (0, 0))) ∧ Aside0 (Below w.heap.size w wc))
 case first =>
  as_aux_lemma =>
  have H := HC5.out
  clear HC5
  rcases t197 with _ | q199
  ·have H1 : (if a0_1 = 0 then (turnstilelaw24_HealthRuns.j0 k l1 l2 none true a0_0 a0_1 a0_2 a0_3 a0_4 t193 t194 t195 t196) else (turnstilelaw24_HealthRuns.j0 k l1 l2 none (decide (a0_1 > 1048576)) a0_0 a0_1 a0_2 a0_3 a0_4 t193 t194 t195 t196)) = some r := by rw [if_pos (show (none : Option Int).isNone = true by rfl)] at H; exact H
   clear H
   have H := H1
   clear H1
   try simp only [errW_none, errW_some]
   by_cases c12 : a0_1 = 0
   ·rw [if_pos c12] at H
    have c12b0 : (a0_1 == 0) = true := beq_iff_eq.mpr c12
    have c12b1 : (a0_1 != 0) = false := bne_eq_false_iff_eq.mpr c12
    clear c12
    (first | rw [c12b0] | (simp only [i64_w, i32_w]; rw [c12b0]) | skip)
    have H' := Aside0.mk H
    clear H
    have hnb13 := NB192_198.out
    have hnc13 := NB198_192.out
    have hcz14_0 : w9.cell? ⟨gb192, 0, none⟩ = some (.string a0_0) := (blk_cell BK192.out 0).trans rfl
    have hcz14_1 : w9.cell? ⟨gb192, 1, none⟩ = some (.int .i64 a0_1) := (blk_cell BK192.out 1).trans rfl
    have hcz14_2 : w9.cell? ⟨gb192, 2, none⟩ = some (.int .i64 a0_2) := (blk_cell BK192.out 2).trans rfl
    have hcz14_3 : w9.cell? ⟨gb192, 3, none⟩ = some (.int .i64 a0_3) := (blk_cell BK192.out 3).trans rfl
    have hcz14_4 : w9.cell? ⟨gb192, 4, none⟩ = some (.int .i64 a0_4) := (blk_cell BK192.out 4).trans rfl
    have hfz14_0 := blk_frozen BK192.out 0
    have hfz14_1 := blk_frozen BK192.out 1
    have hfz14_2 := blk_frozen BK192.out 2
    have hfz14_3 := blk_frozen BK192.out 3
    have hfz14_4 := blk_frozen BK192.out 4
    go_wp2
    go_meet
    case rel => exact ⟨_, (true), (by first | rfl | (simp; done) | (simp [*]; done)), H', ⟨by first | omega | exact Nat.le_refl _⟩, ⟨by (with_reducible repeat (first | refine blk_drewN ?_ _ | refine blk_drew ?_ | refine blk_alloc ?_ _)); refine blk_far ?_ NB192_198.out _; (with_reducible repeat (first | refine blk_drewN ?_ _ | refine blk_drew ?_ | refine blk_alloc ?_ _)); refine blk_far ?_ NB192_198.out _; (with_reducible repeat (first | refine blk_drewN ?_ _ | refine blk_drew ?_ | refine blk_alloc ?_ _)); refine blk_far ?_ NB192_198.out _; (with_reducible repeat (first | refine blk_drewN ?_ _ | refine blk_drew ?_ | refine blk_alloc ?_ _)); refine blk_far ?_ NB192_198.out _; (with_reducible repeat (first | refine blk_drewN ?_ _ | refine blk_drew ?_ | refine blk_alloc ?_ _)); exact BK192.out⟩, ⟨by (with_reducible repeat (first | refine blk_drewN ?_ _ | refine blk_drew ?_ | refine blk_alloc ?_ _)); refine blk_put (cs := #[.bool t193, .int .i64 t194, .int .i64 t195, .int .i64 0]) ?_ 3 _ rfl; (with_reducible repeat (first | refine blk_drewN ?_ _ | refine blk_drew ?_ | refine blk_alloc ?_ _)); refine blk_put (cs := #[.bool t193, .int .i64 t194, .int .i64 0, .int .i64 0]) ?_ 2 _ rfl; (with_reducible repeat (first | refine blk_drewN ?_ _ | refine blk_drew ?_ | refine blk_alloc ?_ _)); refine blk_put (cs := #[.bool t193, .int .i64 0, .int .i64 0, .int .i64 0]) ?_ 1 _ rfl; (with_reducible repeat (first | refine blk_drewN ?_ _ | refine blk_drew ?_ | refine blk_alloc ?_ _)); refine blk_put (cs := #[.bool false, .int .i64 0, .int .i64 0, .int .i64 0]) ?_ 0 _ rfl; (with_reducible repeat (first | refine blk_drewN ?_ _ | refine blk_drew ?_ | refine blk_alloc ?_ _)); exact BK198.out⟩, ⟨tb⟩⟩
   ·rw [if_neg c12] at H
    have c12b0 : (a0_1 == 0) = false := beq_eq_false_iff_ne.mpr c12
    have c12b1 : (a0_1 != 0) = true := bne_iff_ne.mpr c12
    (first | rw [c12b0] | (simp only [i64_w, i32_w]; rw [c12b0]) | skip)
    have H' := Aside0.mk H
    clear H
    have hnb15 := NB192_198.out
    have hnc15 := NB198_192.out
    have hcz16_0 : w9.cell? ⟨gb192, 0, none⟩ = some (.string a0_0) := (blk_cell BK192.out 0).trans rfl
    have hcz16_1 : w9.cell? ⟨gb192, 1, none⟩ = some (.int .i64 a0_1) := (blk_cell BK192.out 1).trans rfl
    have hcz16_2 : w9.cell? ⟨gb192, 2, none⟩ = some (.int .i64 a0_2) := (blk_cell BK192.out 2).trans rfl
    have hcz16_3 : w9.cell? ⟨gb192, 3, none⟩ = some (.int .i64 a0_3) := (blk_cell BK192.out 3).trans rfl
    have hcz16_4 : w9.cell? ⟨gb192, 4, none⟩ = some (.int .i64 a0_4) := (blk_cell BK192.out 4).trans rfl
    have hfz16_0 := blk_frozen BK192.out 0
    have hfz16_1 := blk_frozen BK192.out 1
    have hfz16_2 := blk_frozen BK192.out 2
    have hfz16_3 := blk_frozen BK192.out 3
    have hfz16_4 := blk_frozen BK192.out 4
    go_wp2
    go_meet
    case rel => exact ⟨_, (decide (a0_1 > 1048576)), (by first | rfl | (simp; done) | (simp [*]; done)), H', ⟨by first | omega | exact Nat.le_refl _⟩, ⟨by (with_reducible repeat (first | refine blk_drewN ?_ _ | refine blk_drew ?_ | refine blk_alloc ?_ _)); refine blk_far ?_ NB192_198.out _; (with_reducible repeat (first | refine blk_drewN ?_ _ | refine blk_drew ?_ | refine blk_alloc ?_ _)); refine blk_far ?_ NB192_198.out _; (with_reducible repeat (first | refine blk_drewN ?_ _ | refine blk_drew ?_ | refine blk_alloc ?_ _)); refine blk_far ?_ NB192_198.out _; (with_reducible repeat (first | refine blk_drewN ?_ _ | refine blk_drew ?_ | refine blk_alloc ?_ _)); refine blk_far ?_ NB192_198.out _; (with_reducible repeat (first | refine blk_drewN ?_ _ | refine blk_drew ?_ | refine blk_alloc ?_ _)); exact BK192.out⟩, ⟨by (with_reducible repeat (first | refine blk_drewN ?_ _ | refine blk_drew ?_ | refine blk_alloc ?_ _)); refine blk_put (cs := #[.bool t193, .int .i64 t194, .int .i64 t195, .int .i64 0]) ?_ 3 _ rfl; (with_reducible repeat (first | refine blk_drewN ?_ _ | refine blk_drew ?_ | refine blk_alloc ?_ _)); refine blk_put (cs := #[.bool t193, .int .i64 t194, .int .i64 0, .int .i64 0]) ?_ 2 _ rfl; (with_reducible repeat (first | refine blk_drewN ?_ _ | refine blk_drew ?_ | refine blk_alloc ?_ _)); refine blk_put (cs := #[.bool t193, .int .i64 0, .int .i64 0, .int .i64 0]) ?_ 1 _ rfl; (with_reducible repeat (first | refine blk_drewN ?_ _ | refine blk_drew ?_ | refine blk_alloc ?_ _)); refine blk_put (cs := #[.bool false, .int .i64 0, .int .i64 0, .int .i64 0]) ?_ 0 _ rfl; (with_reducible repeat (first | refine blk_drewN ?_ _ | refine blk_drew ?_ | refine blk_alloc ?_ _)); exact BK198.out⟩, ⟨tb⟩⟩
  ·have H1 : (turnstilelaw24_HealthRuns.j0 k l1 l2 (some q199) true a0_0 a0_1 a0_2 a0_3 a0_4 t193 t194 t195 t196) = some r := by rw [if_neg (show ¬ (some q199).isNone = true by simp)] at H; exact H
   clear H
   have H := H1
   clear H1
   try simp only [errW_none, errW_some]
   have H' := Aside0.mk H
   clear H
   go_wp2
   go_meet
   case rel => exact ⟨_, (true), (by first | rfl | (simp; done) | (simp [*]; done)), H', ⟨by first | omega | exact Nat.le_refl _⟩, ⟨by (with_reducible repeat (first | refine blk_drewN ?_ _ | refine blk_drew ?_ | refine blk_alloc ?_ _)); refine blk_far ?_ NB192_198.out _; (with_reducible repeat (first | refine blk_drewN ?_ _ | refine blk_drew ?_ | refine blk_alloc ?_ _)); refine blk_far ?_ NB192_198.out _; (with_reducible repeat (first | refine blk_drewN ?_ _ | refine blk_drew ?_ | refine blk_alloc ?_ _)); refine blk_far ?_ NB192_198.out _; (with_reducible repeat (first | refine blk_drewN ?_ _ | refine blk_drew ?_ | refine blk_alloc ?_ _)); refine blk_far ?_ NB192_198.out _; (with_reducible repeat (first | refine blk_drewN ?_ _ | refine blk_drew ?_ | refine blk_alloc ?_ _)); exact BK192.out⟩, ⟨by (with_reducible repeat (first | refine blk_drewN ?_ _ | refine blk_drew ?_ | refine blk_alloc ?_ _)); refine blk_put (cs := #[.bool t193, .int .i64 t194, .int .i64 t195, .int .i64 0]) ?_ 3 _ rfl; (with_reducible repeat (first | refine blk_drewN ?_ _ | refine blk_drew ?_ | refine blk_alloc ?_ _)); refine blk_put (cs := #[.bool t193, .int .i64 t194, .int .i64 0, .int .i64 0]) ?_ 2 _ rfl; (with_reducible repeat (first | refine blk_drewN ?_ _ | refine blk_drew ?_ | refine blk_alloc ?_ _)); refine blk_put (cs := #[.bool t193, .int .i64 0, .int .i64 0, .int .i64 0]) ?_ 1 _ rfl; (with_reducible repeat (first | refine blk_drewN ?_ _ | refine blk_drew ?_ | refine blk_alloc ?_ _)); refine blk_put (cs := #[.bool false, .int .i64 0, .int .i64 0, .int .i64 0]) ?_ 0 _ rfl; (with_reducible repeat (first | refine blk_drewN ?_ _ | refine blk_drew ?_ | refine blk_alloc ?_ _)); exact BK198.out⟩, ⟨tb⟩⟩
 case rest =>
  as_aux_lemma =>
  clear HC5
  (try clear c1); (try clear q1); (try clear c2); (try clear p2); (try clear c3); (try clear c5); (try clear c10); (try clear c12); (try clear c12b0); (try clear c12b1); (try clear c13); (try clear c15); (try clear hcz11_0); (try clear hcz11_1); (try clear hcz11_2); (try clear hcz11_3); (try clear hcz14_0); (try clear hcz14_1); (try clear hcz14_2); (try clear hcz14_3); (try clear hcz14_4); (try clear hcz16_0); (try clear hcz16_1); (try clear hcz16_2); (try clear hcz16_3); (try clear hcz16_4); (try clear hcz7_0); (try clear hcz7_1); (try clear hcz7_2); (try clear hcz7_3); (try clear hcz7_4); (try clear hfz11_0); (try clear hfz11_1); (try clear hfz11_2); (try clear hfz11_3); (try clear hfz14_0); (try clear hfz14_1); (try clear hfz14_2); (try clear hfz14_3); (try clear hfz14_4); (try clear hfz16_0); (try clear hfz16_1); (try clear hfz16_2); (try clear hfz16_3); (try clear hfz16_4); (try clear hfz7_0); (try clear hfz7_1); (try clear hfz7_2); (try clear hfz7_3); (try clear hfz7_4); (try clear q199)
  obtain ⟨kq, x41_4, rfl, HA, HJ4, BK192, BK198, HB⟩ := hcut
  cases kq with
  | zero => exact absurd HA.out (by simp [turnstilelaw24_HealthRuns.j0])
  | succ kj4 =>
   have H := HA.out
   clear HA
   simp only [turnstilelaw24_HealthRuns.j0] at H
   by_cases c17 : x41_4 = true
   ·subst c17
    have H1 : (if t197.isNone = true then ((turnstilelaw24_works.f kj4).bind fun t201 => (some t201)) else (if (!t193 && (t194 == 0 && (t195 == 0 && (t196 == 0)))) = true then ((turnstilelaw24_works.f kj4).bind fun t202 => (some t202)) else (some false))) = some r := by rw [if_pos rfl] at H; exact H
    clear H
    have H := H1
    clear H1
    rcases t197 with _ | q200
    ·have H1 : ((turnstilelaw24_works.f kj4).bind fun t201 => (some t201)) = some r := by rw [if_pos (show (none : Option Int).isNone = true by rfl)] at H; exact H
     clear H
     have H := H1
     clear H1
     try simp only [errW_none, errW_some]
     replace H := Option.bind_eq_some_iff.mp H
     obtain ⟨t201, A180, H⟩ := H
     replace H : (some t201) = some r := H
     have A18 := Aside0.mk A180
     clear A180
     obtain rfl := Option.some.inj H
     go_wp2_with (first | (go_at_call 6; (with_reducible refine (turnstilelaw24_works.calls kj4  t201 _ ?side1 A18.out).mono ?_); (case side1 => first | exact hG | exact GInv.step hG tb); rintro e w19 ⟨rfl, hb⟩; have n0_ := Aside0.mk (blk_below (tk BK192.out) hb); have n1_ := Aside0.mk (blk_below (tk BK198.out) hb); have n2_ := Aside0.mk (below_step tb hb); clear BK192; clear BK198; clear HB; have BK192 := n0_; have BK198 := n1_; have HB := n2_; clear n0_ n1_ n2_; (try clear hb); (try clear hb2); (try clear hk); (try clear hi)))
     go_ret
     exact ⟨by first | rfl | (simp [errW_none, errW_some] <;> rfl) | (simp [*, errW_none, errW_some] <;> rfl), tb⟩
    ·have H1 : (if (!t193 && (t194 == 0 && (t195 == 0 && (t196 == 0)))) = true then ((turnstilelaw24_works.f kj4).bind fun t202 => (some t202)) else (some false)) = some r := by rw [if_neg (show ¬ (some q200).isNone = true by simp)] at H; exact H
     clear H
     have H := H1
     clear H1
     try simp only [errW_none, errW_some]
     by_cases c20 : (!t193 && (t194 == 0 && (t195 == 0 && (t196 == 0)))) = true
     ·rw [if_pos c20] at H
      have c20b0 : (!t193 && (t194 == 0 && (t195 == 0 && (t196 == 0)))) = true := c20
      (try (have c20b1 : (t193 = false ∧ t194 = 0 ∧ t195 = 0 ∧ t196 = 0) = True := eq_true (by simpa using c20)))
      clear c20
      replace H := Option.bind_eq_some_iff.mp H
      obtain ⟨t202, A210, H⟩ := H
      replace H : (some t202) = some r := H
      have A21 := Aside0.mk A210
      clear A210
      obtain rfl := Option.some.inj H
      have hnb22 := NB198_192.out
      have hnc22 := NB192_198.out
      have hcz23_0 : wc.cell? ⟨gb198, 0, none⟩ = some (.bool t193) := (blk_cell BK198.out 0).trans rfl
      have hcz23_1 : wc.cell? ⟨gb198, 1, none⟩ = some (.int .i64 t194) := (blk_cell BK198.out 1).trans rfl
      have hcz23_2 : wc.cell? ⟨gb198, 2, none⟩ = some (.int .i64 t195) := (blk_cell BK198.out 2).trans rfl
      have hcz23_3 : wc.cell? ⟨gb198, 3, none⟩ = some (.int .i64 t196) := (blk_cell BK198.out 3).trans rfl
      have hfz23_0 := blk_frozen BK198.out 0
      have hfz23_1 := blk_frozen BK198.out 1
      have hfz23_2 := blk_frozen BK198.out 2
      have hfz23_3 := blk_frozen BK198.out 3
      go_wp2_with (first | (go_at_call 6; (with_reducible refine (turnstilelaw24_works.calls kj4  t202 _ ?side1 A21.out).mono ?_); (case side1 => first | exact hG | exact GInv.step hG tb); rintro e w24 ⟨rfl, hb⟩; have n0_ := Aside0.mk (blk_below (tk BK192.out) hb); have n1_ := Aside0.mk (blk_below (tk BK198.out) hb); have n2_ := Aside0.mk (below_step tb hb); clear BK192; clear BK198; clear HB; have BK192 := n0_; have BK198 := n1_; have HB := n2_; clear n0_ n1_ n2_; (try clear hb); (try clear hb2); (try clear hk); (try clear hi)))
      go_ret
      exact ⟨by first | rfl | (simp [errW_none, errW_some] <;> rfl) | (simp [*, errW_none, errW_some] <;> rfl), tb⟩
     ·rw [if_neg c20] at H
      have c20b0 : (!t193 && (t194 == 0 && (t195 == 0 && (t196 == 0)))) = false := by simpa using c20
      (try (have c20b1 : ¬ (t193 = false ∧ t194 = 0 ∧ t195 = 0 ∧ t196 = 0) := by simpa using c20))
      clear c20
      obtain rfl := Option.some.inj H
      have hnb25 := NB198_192.out
      have hnc25 := NB192_198.out
      have hcz26_0 : wc.cell? ⟨gb198, 0, none⟩ = some (.bool t193) := (blk_cell BK198.out 0).trans rfl
      have hcz26_1 : wc.cell? ⟨gb198, 1, none⟩ = some (.int .i64 t194) := (blk_cell BK198.out 1).trans rfl
      have hcz26_2 : wc.cell? ⟨gb198, 2, none⟩ = some (.int .i64 t195) := (blk_cell BK198.out 2).trans rfl
      have hcz26_3 : wc.cell? ⟨gb198, 3, none⟩ = some (.int .i64 t196) := (blk_cell BK198.out 3).trans rfl
      have hfz26_0 := blk_frozen BK198.out 0
      have hfz26_1 := blk_frozen BK198.out 1
      have hfz26_2 := blk_frozen BK198.out 2
      have hfz26_3 := blk_frozen BK198.out 3
      go_wp2
      go_ret
      exact ⟨by first | rfl | (simp [errW_none, errW_some] <;> rfl) | (simp [*, errW_none, errW_some] <;> rfl), tb⟩
   ·replace c17 := Bool.eq_false_iff.mpr c17
    subst c17
    have H1 : (turnstilelaw24_HealthRuns.l0 kj4 l1 l2 true 0 (-1) 0 0 a0_0 a0_1 a0_2 a0_3 a0_4 t193 t194 t195 t196) = some r := by rw [if_neg (show ¬ (false = true) by decide)] at H; exact H
    clear H
    have H := H1
    clear H1
    have H' := Aside0.mk H
    clear H
    go_wp2
    go_loopg [9, 10, 11, 12, 13] kj4 (fun kq v9 v10 v11 v12 v13 w' => ∃ (x9_2 : Bool) (x10_2 : Int) (x11_2 : Int) (x12_2 : Int) (x13_2 : Int) (x199000_2 : Bool) (x199001_2 : Int) (x199002_2 : Int) (x199003_2 : Int), v9 = .bool x9_2 ∧ v10 = .int .i64 x10_2 ∧ v11 = .int .i64 x11_2 ∧ v12 = .int .i64 x12_2 ∧ v13 = .int .i64 x13_2 ∧ Aside0 (turnstilelaw24_HealthRuns.l0 kq l1 l2 x9_2 x10_2 x11_2 x12_2 x13_2 a0_0 a0_1 a0_2 a0_3 a0_4 x199000_2 x199001_2 x199002_2 x199003_2 = some r) ∧ Aside0 (kq ≤ kj4) ∧ Aside0 (w'.heap[gb192]? = some (.cells #[.string a0_0, .int .i64 a0_1, .int .i64 a0_2, .int .i64 a0_3, .int .i64 a0_4] 23 (0, 0))) ∧ Aside0 (w'.heap[gb198]? = some (.cells #[.bool x199000_2, .int .i64 x199001_2, .int .i64 x199002_2, .int .i64 x199003_2] 27 (0, 0))) ∧ Aside0 (Below w.heap.size w w'))
    case atStart => exact ⟨(true), (0), ((-1)), (0), (0), (t193), (t194), (t195), (t196), (by first | rfl | (simp; done) | (simp [*]; done)), (by first | rfl | (simp; done) | (simp [*]; done)), (by first | rfl | (simp; done) | (simp [*]; done)), (by first | rfl | (simp; done) | (simp [*]; done)), (by first | rfl | (simp; done) | (simp [*]; done)), H', ⟨Nat.le_refl _⟩, ⟨tk BK192.out⟩, ⟨tk BK198.out⟩, ⟨tb⟩⟩
    case round =>
     clear H'
     (try clear c1); (try clear q1); (try clear c2); (try clear p2); (try clear q2); (try clear c3); (try clear c5); (try clear c10); (try clear c12); (try clear c12b0); (try clear c12b1); (try clear c13); (try clear c15); (try clear c17); (try clear q19); (try clear c20); (try clear c20b0); (try clear c20b1); (try clear q20); (try clear c22); (try clear c25); (try clear hcz11_0); (try clear hcz11_1); (try clear hcz11_2); (try clear hcz11_3); (try clear hcz14_0); (try clear hcz14_1); (try clear hcz14_2); (try clear hcz14_3); (try clear hcz14_4); (try clear hcz16_0); (try clear hcz16_1); (try clear hcz16_2); (try clear hcz16_3); (try clear hcz16_4); (try clear hcz23_0); (try clear hcz23_1); (try clear hcz23_2); (try clear hcz23_3); (try clear hcz26_0); (try clear hcz26_1); (try clear hcz26_2); (try clear hcz26_3); (try clear hcz7_0); (try clear hcz7_1); (try clear hcz7_2); (try clear hcz7_3); (try clear hcz7_4); (try clear hfz11_0); (try clear hfz11_1); (try clear hfz11_2); (try clear hfz11_3); (try clear hfz14_0); (try clear hfz14_1); (try clear hfz14_2); (try clear hfz14_3); (try clear hfz14_4); (try clear hfz16_0); (try clear hfz16_1); (try clear hfz16_2); (try clear hfz16_3); (try clear hfz16_4); (try clear hfz23_0); (try clear hfz23_1); (try clear hfz23_2); (try clear hfz23_3); (try clear hfz26_0); (try clear hfz26_1); (try clear hfz26_2); (try clear hfz26_3); (try clear hfz7_0); (try clear hfz7_1); (try clear hfz7_2); (try clear hfz7_3); (try clear hfz7_4); (try clear p2); (try clear q1); (try clear q199); (try clear q200)
     obtain ⟨x9_2, x10_2, x11_2, x12_2, x13_2, x199000_2, x199001_2, x199002_2, x199003_2, rfl, rfl, rfl, rfl, rfl, HA, HK2, BK192, BK198, HB⟩ := hrel
     cases gk with
     | zero => exact absurd HA.out (by simp [turnstilelaw24_HealthRuns.l0])
     | succ k2 =>
      have H := HA.out
      clear HA
      simp only [turnstilelaw24_HealthRuns.l0] at H
      have HC27 := Aside0.mk H
      clear H
      go_upto_region 6 with (fail)
      go_cut [59] (fun v59 wc => ∃ (kq : Nat) (x59_26 : Bool), v59 = .bool x59_26 ∧ Aside0 (turnstilelaw24_HealthRuns.j2 kq l1 l2 x9_2 x10_2 x11_2 x12_2 x13_2 x59_26 a0_0 a0_1 a0_2 a0_3 a0_4 x199000_2 x199001_2 x199002_2 x199003_2 = some r) ∧ Aside0 (kq ≤ k2) ∧ Aside0 (wc.heap[gb192]? = some (.cells #[.string a0_0, .int .i64 a0_1, .int .i64 a0_2, .int .i64 a0_3, .int .i64 a0_4] 23 (0, 0))) ∧ Aside0 (wc.heap[gb198]? = some (.cells #[.bool x199000_2, .int .i64 x199001_2, .int .i64 x199002_2, .int .i64 x199003_2] 27 (0, 0))) ∧ Aside0 (Below w.heap.size w wc))
      case first =>
       as_aux_lemma =>
       have H := HC27.out
       clear HC27
       by_cases c28 : x13_2 < (l1.length : Int)
       ·rw [if_pos c28] at H
        have c28b0 : decide (x13_2 < (l1.length : Int)) = true := decide_eq_true c28
        clear c28
        (first | rw [c28b0] | (simp only [i64_w, i32_w]; rw [c28b0]) | skip)
        have H' := Aside0.mk H
        clear H
        go_wp2
        go_meet
        case rel => exact ⟨_, (decide (x13_2 < 200)), (by first | rfl | (simp; done) | (simp [*]; done)), H', ⟨by have := HJ4.out; have := HK2.out; first | omega | exact Nat.le_refl _⟩, ⟨tk BK192.out⟩, ⟨tk BK198.out⟩, ⟨tb⟩⟩
       ·rw [if_neg c28] at H
        have c28b0 : decide (x13_2 < (l1.length : Int)) = false := decide_eq_false c28
        clear c28
        (first | rw [c28b0] | (simp only [i64_w, i32_w]; rw [c28b0]) | skip)
        have H' := Aside0.mk H
        clear H
        go_wp2
        go_meet
        case rel => exact ⟨_, (false), (by first | rfl | (simp; done) | (simp [*]; done)), H', ⟨by have := HJ4.out; have := HK2.out; first | omega | exact Nat.le_refl _⟩, ⟨tk BK192.out⟩, ⟨tk BK198.out⟩, ⟨tb⟩⟩
      case rest =>
       as_aux_lemma =>
       clear HC27
       (try clear c1); (try clear q1); (try clear c2); (try clear p2); (try clear q2); (try clear c3); (try clear c5); (try clear c10); (try clear c12); (try clear c12b0); (try clear c12b1); (try clear c13); (try clear c15); (try clear c17); (try clear q19); (try clear c20); (try clear c20b0); (try clear c20b1); (try clear q20); (try clear c22); (try clear c25); (try clear c28); (try clear c28b0); (try clear hcz11_0); (try clear hcz11_1); (try clear hcz11_2); (try clear hcz11_3); (try clear hcz14_0); (try clear hcz14_1); (try clear hcz14_2); (try clear hcz14_3); (try clear hcz14_4); (try clear hcz16_0); (try clear hcz16_1); (try clear hcz16_2); (try clear hcz16_3); (try clear hcz16_4); (try clear hcz23_0); (try clear hcz23_1); (try clear hcz23_2); (try clear hcz23_3); (try clear hcz26_0); (try clear hcz26_1); (try clear hcz26_2); (try clear hcz26_3); (try clear hcz7_0); (try clear hcz7_1); (try clear hcz7_2); (try clear hcz7_3); (try clear hcz7_4); (try clear hfz11_0); (try clear hfz11_1); (try clear hfz11_2); (try clear hfz11_3); (try clear hfz14_0); (try clear hfz14_1); (try clear hfz14_2); (try clear hfz14_3); (try clear hfz14_4); (try clear hfz16_0); (try clear hfz16_1); (try clear hfz16_2); (try clear hfz16_3); (try clear hfz16_4); (try clear hfz23_0); (try clear hfz23_1); (try clear hfz23_2); (try clear hfz23_3); (try clear hfz26_0); (try clear hfz26_1); (try clear hfz26_2); (try clear hfz26_3); (try clear hfz7_0); (try clear hfz7_1); (try clear hfz7_2); (try clear hfz7_3); (try clear hfz7_4); (try clear p2); (try clear q1); (try clear q19); (try clear q199); (try clear q2); (try clear q20); (try clear q200)
       obtain ⟨kq, x59_26, rfl, HA, HJ26, BK192, BK198, HB⟩ := hcut
       cases kq with
       | zero => exact absurd HA.out (by simp [turnstilelaw24_HealthRuns.j2])
       | succ kj26 =>
        have H := HA.out
        clear HA
        simp only [turnstilelaw24_HealthRuns.j2] at H
        by_cases c29 : x59_26 = true
        ·subst c29
         have H1 : (if x13_2 < (l2.length : Int) then (if 0 ≤ x13_2 then (turnstilelaw24_HealthRuns.j3 kj26 l1 l2 x9_2 x10_2 x11_2 x12_2 x13_2 (Int.tmod (wrap64 ((Int.tmod (rd l2 x13_2) 9) + 9)) 9) a0_0 a0_1 a0_2 a0_3 a0_4 x199000_2 x199001_2 x199002_2 x199003_2) else (none)) else (turnstilelaw24_HealthRuns.j3 kj26 l1 l2 x9_2 x10_2 x11_2 x12_2 x13_2 0 a0_0 a0_1 a0_2 a0_3 a0_4 x199000_2 x199001_2 x199002_2 x199003_2)) = some r := by rw [if_pos rfl] at H; exact H
         clear H
         have H := H1
         clear H1
         have HC30 := Aside0.mk H
         clear H
         go_upto_if 65 with (fail)
         go_cut [14] (fun v14 wc => ∃ (kq : Nat) (x14_29 : Int), v14 = .int .i64 x14_29 ∧ Aside0 (turnstilelaw24_HealthRuns.j3 kq l1 l2 x9_2 x10_2 x11_2 x12_2 x13_2 x14_29 a0_0 a0_1 a0_2 a0_3 a0_4 x199000_2 x199001_2 x199002_2 x199003_2 = some r) ∧ Aside0 (kq ≤ kj26) ∧ Aside0 (wc.heap[gb192]? = some (.cells #[.string a0_0, .int .i64 a0_1, .int .i64 a0_2, .int .i64 a0_3, .int .i64 a0_4] 23 (0, 0))) ∧ Aside0 (wc.heap[gb198]? = some (.cells #[.bool x199000_2, .int .i64 x199001_2, .int .i64 x199002_2, .int .i64 x199003_2] 27 (0, 0))) ∧ Aside0 (Below w.heap.size w wc))
         case first =>
          as_aux_lemma =>
          have H := HC30.out
          clear HC30
          by_cases c31 : x13_2 < (l2.length : Int)
          ·rw [if_pos c31] at H
           have c31b0 : decide (x13_2 < (l2.length : Int)) = true := decide_eq_true c31
           clear c31
           (first | rw [c31b0] | (simp only [i64_w, i32_w]; rw [c31b0]) | skip)
           by_cases c32 : 0 ≤ x13_2
           ·rw [if_pos c32] at H
            have c32b0 : decide (0 ≤ x13_2) = true := decide_eq_true c32
            clear c32
            have H' := Aside0.mk H
            clear H
            have p204 : 0 ≤ (x13_2 : Int) := of_decide_eq_true (by first | (with_reducible assumption) | assumption)
            have q204 : x13_2 < (l2.length : Int) := of_decide_eq_true (by first | (with_reducible assumption) | assumption)
            obtain ⟨ad204, e204, hx204_0⟩ := Kd.at_int HR2.out x13_2 p204 q204
            cases e204
            replace hx204_0 := (HB.out.cell (World.block_lt_of_cell? w _ hx204_0)).trans hx204_0
            replace p204 := eq_true p204
            replace q204 := eq_true q204
            go_wp2
            go_meet
            case rel => exact ⟨_, (Int.tmod (wrap64 ((Int.tmod (rd l2 x13_2) 9) + 9)) 9), (by first | rfl | (simp; done) | (simp [*]; done)), H', ⟨by have := HJ4.out; have := HK2.out; have := HJ26.out; first | omega | exact Nat.le_refl _⟩, ⟨tk BK192.out⟩, ⟨tk BK198.out⟩, ⟨tb⟩⟩
           ·rw [if_neg c32] at H
            exact absurd H (by simp)
          ·rw [if_neg c31] at H
           have c31b0 : decide (x13_2 < (l2.length : Int)) = false := decide_eq_false c31
           clear c31
           (first | rw [c31b0] | (simp only [i64_w, i32_w]; rw [c31b0]) | skip)
           have H' := Aside0.mk H
           clear H
           go_wp2
           go_meet
           case rel => exact ⟨_, (0), (by first | rfl | (simp; done) | (simp [*]; done)), H', ⟨by have := HJ4.out; have := HK2.out; have := HJ26.out; first | omega | exact Nat.le_refl _⟩, ⟨tk BK192.out⟩, ⟨tk BK198.out⟩, ⟨tb⟩⟩
         case rest =>
          as_aux_lemma =>
          clear HC30
          (try clear c1); (try clear q1); (try clear c2); (try clear p2); (try clear q2); (try clear hx2); (try clear c3); (try clear c5); (try clear p6); (try clear c10); (try clear c12); (try clear c12b0); (try clear c12b1); (try clear c13); (try clear c15); (try clear c17); (try clear q19); (try clear c20); (try clear c20b0); (try clear c20b1); (try clear p20); (try clear q20); (try clear hx20); (try clear c22); (try clear c25); (try clear c28); (try clear c28b0); (try clear c29); (try clear c31); (try clear c31b0); (try clear c32); (try clear c32b0); (try clear hcz11_0); (try clear hcz11_1); (try clear hcz11_2); (try clear hcz11_3); (try clear hcz14_0); (try clear hcz14_1); (try clear hcz14_2); (try clear hcz14_3); (try clear hcz14_4); (try clear hcz16_0); (try clear hcz16_1); (try clear hcz16_2); (try clear hcz16_3); (try clear hcz16_4); (try clear hcz23_0); (try clear hcz23_1); (try clear hcz23_2); (try clear hcz23_3); (try clear hcz26_0); (try clear hcz26_1); (try clear hcz26_2); (try clear hcz26_3); (try clear hcz7_0); (try clear hcz7_1); (try clear hcz7_2); (try clear hcz7_3); (try clear hcz7_4); (try clear hfz11_0); (try clear hfz11_1); (try clear hfz11_2); (try clear hfz11_3); (try clear hfz14_0); (try clear hfz14_1); (try clear hfz14_2); (try clear hfz14_3); (try clear hfz14_4); (try clear hfz16_0); (try clear hfz16_1); (try clear hfz16_2); (try clear hfz16_3); (try clear hfz16_4); (try clear hfz23_0); (try clear hfz23_1); (try clear hfz23_2); (try clear hfz23_3); (try clear hfz26_0); (try clear hfz26_1); (try clear hfz26_2); (try clear hfz26_3); (try clear hfz7_0); (try clear hfz7_1); (try clear hfz7_2); (try clear hfz7_3); (try clear hfz7_4); (try clear hx204_0); (try clear p2); (try clear p204); (try clear q1); (try clear q19); (try clear q199); (try clear q2); (try clear q20); (try clear q200); (try clear q204)
          obtain ⟨kq, x14_29, rfl, HA, HJ29, BK192, BK198, HB⟩ := hcut
          cases kq with
          | zero => exact absurd HA.out (by simp [turnstilelaw24_HealthRuns.j3])
          | succ kj29 =>
           have H := HA.out
           clear HA
           simp only [turnstilelaw24_HealthRuns.j3] at H
           obtain ⟨ji33, hji33⟩ : ∃ j_ : Int, (mx x12_2 x199002_2) = j_ := ⟨_, rfl⟩
           replace H : ((health_Due.f kj29 x199000_2 x199001_2 x199002_2 x199003_2 a0_0 a0_1 a0_2 a0_3 a0_4 (wrap64 ((ji33) + x14_29))).bind fun bt205 => ((health_Send.f kj29 x199000_2 x199001_2 x199002_2 x199003_2 a0_0 a0_1 a0_2 a0_3 a0_4 (wrap64 ((ji33) + x14_29))).bind fun bt207 => ((health_Due.f kj29 bt207.1 bt207.2.1 bt207.2.2.1 bt207.2.2.2.1 a0_0 a0_1 a0_2 a0_3 a0_4 (wrap64 ((ji33) + x14_29))).bind fun bt213 => ((health_Send.f kj29 bt207.1 bt207.2.1 bt207.2.2.1 bt207.2.2.2.1 a0_0 a0_1 a0_2 a0_3 a0_4 (wrap64 ((ji33) + x14_29))).bind fun bt215 => (if bt205.1 = true then (if bt205.2.isNone = true then (if bt207.2.2.2.2.isNone = true then (if bt213.1 = true then (turnstilelaw24_HealthRuns.j4 kj29 l1 l2 x9_2 x10_2 (wrap64 ((ji33) + x14_29)) x13_2 true a0_0 a0_1 a0_2 a0_3 a0_4 bt207.1 bt207.2.1 bt207.2.2.1 bt207.2.2.2.1) else (if bt213.2.isNone = true then ((turnstilelaw24_num.f bt215.2.2.2.2).bind fun t224 => (if t224 = 1 then (if x11_2 ≥ 0 then (if (wrap64 ((wrap64 ((ji33) + x14_29)) - x11_2)) < a0_1 then (turnstilelaw24_HealthRuns.j4 kj29 l1 l2 x9_2 x10_2 (wrap64 ((ji33) + x14_29)) x13_2 true a0_0 a0_1 a0_2 a0_3 a0_4 bt207.1 bt207.2.1 bt207.2.2.1 bt207.2.2.2.1) else (turnstilelaw24_HealthRuns.j4 kj29 l1 l2 x9_2 x10_2 (wrap64 ((ji33) + x14_29)) x13_2 (bt207.1 != x9_2) a0_0 a0_1 a0_2 a0_3 a0_4 bt207.1 bt207.2.1 bt207.2.2.1 bt207.2.2.2.1)) else (turnstilelaw24_HealthRuns.j4 kj29 l1 l2 x9_2 x10_2 (wrap64 ((ji33) + x14_29)) x13_2 (bt207.1 != x9_2) a0_0 a0_1 a0_2 a0_3 a0_4 bt207.1 bt207.2.1 bt207.2.2.1 bt207.2.2.2.1)) else (turnstilelaw24_HealthRuns.j4 kj29 l1 l2 x9_2 x10_2 (wrap64 ((ji33) + x14_29)) x13_2 true a0_0 a0_1 a0_2 a0_3 a0_4 bt207.1 bt207.2.1 bt207.2.2.1 bt207.2.2.2.1))) else (turnstilelaw24_HealthRuns.j4 kj29 l1 l2 x9_2 x10_2 (wrap64 ((ji33) + x14_29)) x13_2 true a0_0 a0_1 a0_2 a0_3 a0_4 bt207.1 bt207.2.1 bt207.2.2.1 bt207.2.2.2.1))) else (turnstilelaw24_HealthRuns.j4 kj29 l1 l2 x9_2 x10_2 (wrap64 ((ji33) + x14_29)) x13_2 true a0_0 a0_1 a0_2 a0_3 a0_4 bt207.1 bt207.2.1 bt207.2.2.1 bt207.2.2.2.1)) else (turnstilelaw24_HealthRuns.j4 kj29 l1 l2 x9_2 x10_2 (wrap64 ((ji33) + x14_29)) x13_2 true a0_0 a0_1 a0_2 a0_3 a0_4 bt207.1 bt207.2.1 bt207.2.2.1 bt207.2.2.2.1)) else (turnstilelaw24_HealthRuns.j4 kj29 l1 l2 x9_2 x10_2 (wrap64 ((ji33) + x14_29)) x13_2 true a0_0 a0_1 a0_2 a0_3 a0_4 bt207.1 bt207.2.1 bt207.2.2.1 bt207.2.2.2.1)))))) = some r := by first | (rw [hji33] at H; exact H) | (simp only [hji33] at H ⊢; exact H)
           have hji33_ : (if x12_2 < x199002_2 then x199002_2 else x12_2) = ji33 := hji33
           replace H := Option.bind_eq_some_iff.mp H
           obtain ⟨⟨t205, t206⟩, A340, H⟩ := H
           replace H : ((health_Send.f kj29 x199000_2 x199001_2 x199002_2 x199003_2 a0_0 a0_1 a0_2 a0_3 a0_4 (wrap64 ((ji33) + x14_29))).bind fun bt207 => ((health_Due.f kj29 bt207.1 bt207.2.1 bt207.2.2.1 bt207.2.2.2.1 a0_0 a0_1 a0_2 a0_3 a0_4 (wrap64 ((ji33) + x14_29))).bind fun bt213 => ((health_Send.f kj29 bt207.1 bt207.2.1 bt207.2.2.1 bt207.2.2.2.1 a0_0 a0_1 a0_2 a0_3 a0_4 (wrap64 ((ji33) + x14_29))).bind fun bt215 => (if t205 = true then (if t206.isNone = true then (if bt207.2.2.2.2.isNone = true then (if bt213.1 = true then (turnstilelaw24_HealthRuns.j4 kj29 l1 l2 x9_2 x10_2 (wrap64 ((ji33) + x14_29)) x13_2 true a0_0 a0_1 a0_2 a0_3 a0_4 bt207.1 bt207.2.1 bt207.2.2.1 bt207.2.2.2.1) else (if bt213.2.isNone = true then ((turnstilelaw24_num.f bt215.2.2.2.2).bind fun t224 => (if t224 = 1 then (if x11_2 ≥ 0 then (if (wrap64 ((wrap64 ((ji33) + x14_29)) - x11_2)) < a0_1 then (turnstilelaw24_HealthRuns.j4 kj29 l1 l2 x9_2 x10_2 (wrap64 ((ji33) + x14_29)) x13_2 true a0_0 a0_1 a0_2 a0_3 a0_4 bt207.1 bt207.2.1 bt207.2.2.1 bt207.2.2.2.1) else (turnstilelaw24_HealthRuns.j4 kj29 l1 l2 x9_2 x10_2 (wrap64 ((ji33) + x14_29)) x13_2 (bt207.1 != x9_2) a0_0 a0_1 a0_2 a0_3 a0_4 bt207.1 bt207.2.1 bt207.2.2.1 bt207.2.2.2.1)) else (turnstilelaw24_HealthRuns.j4 kj29 l1 l2 x9_2 x10_2 (wrap64 ((ji33) + x14_29)) x13_2 (bt207.1 != x9_2) a0_0 a0_1 a0_2 a0_3 a0_4 bt207.1 bt207.2.1 bt207.2.2.1 bt207.2.2.2.1)) else (turnstilelaw24_HealthRuns.j4 kj29 l1 l2 x9_2 x10_2 (wrap64 ((ji33) + x14_29)) x13_2 true a0_0 a0_1 a0_2 a0_3 a0_4 bt207.1 bt207.2.1 bt207.2.2.1 bt207.2.2.2.1))) else (turnstilelaw24_HealthRuns.j4 kj29 l1 l2 x9_2 x10_2 (wrap64 ((ji33) + x14_29)) x13_2 true a0_0 a0_1 a0_2 a0_3 a0_4 bt207.1 bt207.2.1 bt207.2.2.1 bt207.2.2.2.1))) else (turnstilelaw24_HealthRuns.j4 kj29 l1 l2 x9_2 x10_2 (wrap64 ((ji33) + x14_29)) x13_2 true a0_0 a0_1 a0_2 a0_3 a0_4 bt207.1 bt207.2.1 bt207.2.2.1 bt207.2.2.2.1)) else (turnstilelaw24_HealthRuns.j4 kj29 l1 l2 x9_2 x10_2 (wrap64 ((ji33) + x14_29)) x13_2 true a0_0 a0_1 a0_2 a0_3 a0_4 bt207.1 bt207.2.1 bt207.2.2.1 bt207.2.2.2.1)) else (turnstilelaw24_HealthRuns.j4 kj29 l1 l2 x9_2 x10_2 (wrap64 ((ji33) + x14_29)) x13_2 true a0_0 a0_1 a0_2 a0_3 a0_4 bt207.1 bt207.2.1 bt207.2.2.1 bt207.2.2.2.1))))) = some r := H
           have A34 := Aside0.mk A340
           clear A340
           replace H := Option.bind_eq_some_iff.mp H
           obtain ⟨⟨t207, t208, t209, t210, t211⟩, A350, H⟩ := H
           replace H : ((health_Due.f kj29 t207 t208 t209 t210 a0_0 a0_1 a0_2 a0_3 a0_4 (wrap64 ((ji33) + x14_29))).bind fun bt213 => ((health_Send.f kj29 t207 t208 t209 t210 a0_0 a0_1 a0_2 a0_3 a0_4 (wrap64 ((ji33) + x14_29))).bind fun bt215 => (if t205 = true then (if t206.isNone = true then (if t211.isNone = true then (if bt213.1 = true then (turnstilelaw24_HealthRuns.j4 kj29 l1 l2 x9_2 x10_2 (wrap64 ((ji33) + x14_29)) x13_2 true a0_0 a0_1 a0_2 a0_3 a0_4 t207 t208 t209 t210) else (if bt213.2.isNone = true then ((turnstilelaw24_num.f bt215.2.2.2.2).bind fun t224 => (if t224 = 1 then (if x11_2 ≥ 0 then (if (wrap64 ((wrap64 ((ji33) + x14_29)) - x11_2)) < a0_1 then (turnstilelaw24_HealthRuns.j4 kj29 l1 l2 x9_2 x10_2 (wrap64 ((ji33) + x14_29)) x13_2 true a0_0 a0_1 a0_2 a0_3 a0_4 t207 t208 t209 t210) else (turnstilelaw24_HealthRuns.j4 kj29 l1 l2 x9_2 x10_2 (wrap64 ((ji33) + x14_29)) x13_2 (t207 != x9_2) a0_0 a0_1 a0_2 a0_3 a0_4 t207 t208 t209 t210)) else (turnstilelaw24_HealthRuns.j4 kj29 l1 l2 x9_2 x10_2 (wrap64 ((ji33) + x14_29)) x13_2 (t207 != x9_2) a0_0 a0_1 a0_2 a0_3 a0_4 t207 t208 t209 t210)) else (turnstilelaw24_HealthRuns.j4 kj29 l1 l2 x9_2 x10_2 (wrap64 ((ji33) + x14_29)) x13_2 true a0_0 a0_1 a0_2 a0_3 a0_4 t207 t208 t209 t210))) else (turnstilelaw24_HealthRuns.j4 kj29 l1 l2 x9_2 x10_2 (wrap64 ((ji33) + x14_29)) x13_2 true a0_0 a0_1 a0_2 a0_3 a0_4 t207 t208 t209 t210))) else (turnstilelaw24_HealthRuns.j4 kj29 l1 l2 x9_2 x10_2 (wrap64 ((ji33) + x14_29)) x13_2 true a0_0 a0_1 a0_2 a0_3 a0_4 t207 t208 t209 t210)) else (turnstilelaw24_HealthRuns.j4 kj29 l1 l2 x9_2 x10_2 (wrap64 ((ji33) + x14_29)) x13_2 true a0_0 a0_1 a0_2 a0_3 a0_4 t207 t208 t209 t210)) else (turnstilelaw24_HealthRuns.j4 kj29 l1 l2 x9_2 x10_2 (wrap64 ((ji33) + x14_29)) x13_2 true a0_0 a0_1 a0_2 a0_3 a0_4 t207 t208 t209 t210)))) = some r := H
           have A35 := Aside0.mk A350
           clear A350
           replace H := Option.bind_eq_some_iff.mp H
           obtain ⟨⟨t213, t214⟩, A360, H⟩ := H
           replace H : ((health_Send.f kj29 t207 t208 t209 t210 a0_0 a0_1 a0_2 a0_3 a0_4 (wrap64 ((ji33) + x14_29))).bind fun bt215 => (if t205 = true then (if t206.isNone = true then (if t211.isNone = true then (if t213 = true then (turnstilelaw24_HealthRuns.j4 kj29 l1 l2 x9_2 x10_2 (wrap64 ((ji33) + x14_29)) x13_2 true a0_0 a0_1 a0_2 a0_3 a0_4 t207 t208 t209 t210) else (if t214.isNone = true then ((turnstilelaw24_num.f bt215.2.2.2.2).bind fun t224 => (if t224 = 1 then (if x11_2 ≥ 0 then (if (wrap64 ((wrap64 ((ji33) + x14_29)) - x11_2)) < a0_1 then (turnstilelaw24_HealthRuns.j4 kj29 l1 l2 x9_2 x10_2 (wrap64 ((ji33) + x14_29)) x13_2 true a0_0 a0_1 a0_2 a0_3 a0_4 t207 t208 t209 t210) else (turnstilelaw24_HealthRuns.j4 kj29 l1 l2 x9_2 x10_2 (wrap64 ((ji33) + x14_29)) x13_2 (t207 != x9_2) a0_0 a0_1 a0_2 a0_3 a0_4 t207 t208 t209 t210)) else (turnstilelaw24_HealthRuns.j4 kj29 l1 l2 x9_2 x10_2 (wrap64 ((ji33) + x14_29)) x13_2 (t207 != x9_2) a0_0 a0_1 a0_2 a0_3 a0_4 t207 t208 t209 t210)) else (turnstilelaw24_HealthRuns.j4 kj29 l1 l2 x9_2 x10_2 (wrap64 ((ji33) + x14_29)) x13_2 true a0_0 a0_1 a0_2 a0_3 a0_4 t207 t208 t209 t210))) else (turnstilelaw24_HealthRuns.j4 kj29 l1 l2 x9_2 x10_2 (wrap64 ((ji33) + x14_29)) x13_2 true a0_0 a0_1 a0_2 a0_3 a0_4 t207 t208 t209 t210))) else (turnstilelaw24_HealthRuns.j4 kj29 l1 l2 x9_2 x10_2 (wrap64 ((ji33) + x14_29)) x13_2 true a0_0 a0_1 a0_2 a0_3 a0_4 t207 t208 t209 t210)) else (turnstilelaw24_HealthRuns.j4 kj29 l1 l2 x9_2 x10_2 (wrap64 ((ji33) + x14_29)) x13_2 true a0_0 a0_1 a0_2 a0_3 a0_4 t207 t208 t209 t210)) else (turnstilelaw24_HealthRuns.j4 kj29 l1 l2 x9_2 x10_2 (wrap64 ((ji33) + x14_29)) x13_2 true a0_0 a0_1 a0_2 a0_3 a0_4 t207 t208 t209 t210))) = some r := H
           have A36 := Aside0.mk A360
           clear A360
           replace H := Option.bind_eq_some_iff.mp H
           obtain ⟨⟨t215, t216, t217, t218, t219⟩, A370, H⟩ := H
           replace H : (if t205 = true then (if t206.isNone = true then (if t211.isNone = true then (if t213 = true then (turnstilelaw24_HealthRuns.j4 kj29 l1 l2 x9_2 x10_2 (wrap64 ((ji33) + x14_29)) x13_2 true a0_0 a0_1 a0_2 a0_3 a0_4 t207 t208 t209 t210) else (if t214.isNone = true then ((turnstilelaw24_num.f t219).bind fun t224 => (if t224 = 1 then (if x11_2 ≥ 0 then (if (wrap64 ((wrap64 ((ji33) + x14_29)) - x11_2)) < a0_1 then (turnstilelaw24_HealthRuns.j4 kj29 l1 l2 x9_2 x10_2 (wrap64 ((ji33) + x14_29)) x13_2 true a0_0 a0_1 a0_2 a0_3 a0_4 t207 t208 t209 t210) else (turnstilelaw24_HealthRuns.j4 kj29 l1 l2 x9_2 x10_2 (wrap64 ((ji33) + x14_29)) x13_2 (t207 != x9_2) a0_0 a0_1 a0_2 a0_3 a0_4 t207 t208 t209 t210)) else (turnstilelaw24_HealthRuns.j4 kj29 l1 l2 x9_2 x10_2 (wrap64 ((ji33) + x14_29)) x13_2 (t207 != x9_2) a0_0 a0_1 a0_2 a0_3 a0_4 t207 t208 t209 t210)) else (turnstilelaw24_HealthRuns.j4 kj29 l1 l2 x9_2 x10_2 (wrap64 ((ji33) + x14_29)) x13_2 true a0_0 a0_1 a0_2 a0_3 a0_4 t207 t208 t209 t210))) else (turnstilelaw24_HealthRuns.j4 kj29 l1 l2 x9_2 x10_2 (wrap64 ((ji33) + x14_29)) x13_2 true a0_0 a0_1 a0_2 a0_3 a0_4 t207 t208 t209 t210))) else (turnstilelaw24_HealthRuns.j4 kj29 l1 l2 x9_2 x10_2 (wrap64 ((ji33) + x14_29)) x13_2 true a0_0 a0_1 a0_2 a0_3 a0_4 t207 t208 t209 t210)) else (turnstilelaw24_HealthRuns.j4 kj29 l1 l2 x9_2 x10_2 (wrap64 ((ji33) + x14_29)) x13_2 true a0_0 a0_1 a0_2 a0_3 a0_4 t207 t208 t209 t210)) else (turnstilelaw24_HealthRuns.j4 kj29 l1 l2 x9_2 x10_2 (wrap64 ((ji33) + x14_29)) x13_2 true a0_0 a0_1 a0_2 a0_3 a0_4 t207 t208 t209 t210)) = some r := H
           have A37 := Aside0.mk A370
           clear A370
           have HC38 := Aside0.mk H
           clear H
           have hnb39 := NB198_192.out
           have hnc39 := NB192_198.out
           have hcz40_0 : wc.cell? ⟨gb198, 0, none⟩ = some (.bool x199000_2) := (blk_cell BK198.out 0).trans rfl
           have hcz40_1 : wc.cell? ⟨gb198, 1, none⟩ = some (.int .i64 x199001_2) := (blk_cell BK198.out 1).trans rfl
           have hcz40_2 : wc.cell? ⟨gb198, 2, none⟩ = some (.int .i64 x199002_2) := (blk_cell BK198.out 2).trans rfl
           have hcz40_3 : wc.cell? ⟨gb198, 3, none⟩ = some (.int .i64 x199003_2) := (blk_cell BK198.out 3).trans rfl
           have hfz40_0 := blk_frozen BK198.out 0
           have hfz40_1 := blk_frozen BK198.out 1
           have hfz40_2 := blk_frozen BK198.out 2
           have hfz40_3 := blk_frozen BK198.out 3
           have hcz41_0 : wc.cell? ⟨gb192, 0, none⟩ = some (.string a0_0) := (blk_cell BK192.out 0).trans rfl
           have hcz41_1 : wc.cell? ⟨gb192, 1, none⟩ = some (.int .i64 a0_1) := (blk_cell BK192.out 1).trans rfl
           have hcz41_2 : wc.cell? ⟨gb192, 2, none⟩ = some (.int .i64 a0_2) := (blk_cell BK192.out 2).trans rfl
           have hcz41_3 : wc.cell? ⟨gb192, 3, none⟩ = some (.int .i64 a0_3) := (blk_cell BK192.out 3).trans rfl
           have hcz41_4 : wc.cell? ⟨gb192, 4, none⟩ = some (.int .i64 a0_4) := (blk_cell BK192.out 4).trans rfl
           have hfz41_0 := blk_frozen BK192.out 0
           have hfz41_1 := blk_frozen BK192.out 1
           have hfz41_2 := blk_frozen BK192.out 2
           have hfz41_3 := blk_frozen BK192.out 3
           have hfz41_4 := blk_frozen BK192.out 4
           go_upto_region 16 with (first | ((with_reducible refine gate_callee (f := 7) rfl ?_); refine goesL_ (some 83) rfl rfl Tryd.func7 (by kernel_rfl) rfl #[.agg #[.bool x199000_2, .int .i64 x199001_2, .int .i64 x199002_2, .int .i64 x199003_2], .agg #[.string a0_0, .int .i64 a0_1, .int .i64 a0_2, .int .i64 a0_3, .int .i64 a0_4], .int .i64 (wrap64 ((ji33) + x14_29))] rfl (by (try simp only [List.map_toArray, List.map_cons, List.map_nil]); first | done | (simp only [hji33]; rfl) | rfl | (simp only [List.length_drop, List.length_take]; rfl)) ?_; (with_reducible refine (health_Due.calls kj29 x199000_2 x199001_2 x199002_2 x199003_2 a0_0 a0_1 a0_2 a0_3 a0_4 (wrap64 ((ji33) + x14_29)) t205 t206 _ ?side1 A34.out).mono ?_); (case side1 => first | exact hG | exact GInv.step hG tb); rintro e w42 ⟨rfl, hb⟩; refine ⟨_, rfl, ?_⟩; have n0_ := Aside0.mk (blk_below (tk BK192.out) hb); have n1_ := Aside0.mk (blk_below (tk BK198.out) hb); have n2_ := Aside0.mk (below_step tb hb); clear BK192; clear BK198; clear HB; have BK192 := n0_; have BK198 := n1_; have HB := n2_; clear n0_ n1_ n2_; (try clear hb); (try clear hb2); (try clear hk); (try clear hi); (try simp only [errW_none, errW_some]); have hcz43_0 : w42.cell? ⟨gb198, 0, none⟩ = some (.bool x199000_2) := (blk_cell BK198.out 0).trans rfl; have hcz43_1 : w42.cell? ⟨gb198, 1, none⟩ = some (.int .i64 x199001_2) := (blk_cell BK198.out 1).trans rfl; have hcz43_2 : w42.cell? ⟨gb198, 2, none⟩ = some (.int .i64 x199002_2) := (blk_cell BK198.out 2).trans rfl; have hcz43_3 : w42.cell? ⟨gb198, 3, none⟩ = some (.int .i64 x199003_2) := (blk_cell BK198.out 3).trans rfl; have hfz43_0 := blk_frozen BK198.out 0; have hfz43_1 := blk_frozen BK198.out 1; have hfz43_2 := blk_frozen BK198.out 2; have hfz43_3 := blk_frozen BK198.out 3; have hcz44_0 : w42.cell? ⟨gb192, 0, none⟩ = some (.string a0_0) := (blk_cell BK192.out 0).trans rfl; have hcz44_1 : w42.cell? ⟨gb192, 1, none⟩ = some (.int .i64 a0_1) := (blk_cell BK192.out 1).trans rfl; have hcz44_2 : w42.cell? ⟨gb192, 2, none⟩ = some (.int .i64 a0_2) := (blk_cell BK192.out 2).trans rfl; have hcz44_3 : w42.cell? ⟨gb192, 3, none⟩ = some (.int .i64 a0_3) := (blk_cell BK192.out 3).trans rfl; have hcz44_4 : w42.cell? ⟨gb192, 4, none⟩ = some (.int .i64 a0_4) := (blk_cell BK192.out 4).trans rfl; have hfz44_0 := blk_frozen BK192.out 0; have hfz44_1 := blk_frozen BK192.out 1; have hfz44_2 := blk_frozen BK192.out 2; have hfz44_3 := blk_frozen BK192.out 3; have hfz44_4 := blk_frozen BK192.out 4) | ((with_reducible refine gate_callee (f := 8) rfl ?_); refine goesL_ (some 90) rfl rfl Tryd.func8 (by kernel_rfl) rfl #[.agg #[.bool x199000_2, .int .i64 x199001_2, .int .i64 x199002_2, .int .i64 x199003_2], .agg #[.string a0_0, .int .i64 a0_1, .int .i64 a0_2, .int .i64 a0_3, .int .i64 a0_4], .int .i64 (wrap64 ((ji33) + x14_29))] rfl (by (try simp only [List.map_toArray, List.map_cons, List.map_nil]); first | done | (simp only [hji33]; rfl) | rfl | (simp only [List.length_drop, List.length_take]; rfl)) ?_; (with_reducible refine (health_Send.calls kj29 x199000_2 x199001_2 x199002_2 x199003_2 a0_0 a0_1 a0_2 a0_3 a0_4 (wrap64 ((ji33) + x14_29)) t207 t208 t209 t210 t211 _ ?side1 A35.out).mono ?_); (case side1 => first | exact hG | exact GInv.step hG tb); rintro e w45 ⟨rfl, hb⟩; refine ⟨_, rfl, ?_⟩; have n0_ := Aside0.mk (blk_below (tk BK192.out) hb); have n1_ := Aside0.mk (blk_below (tk BK198.out) hb); have n2_ := Aside0.mk (below_step tb hb); clear BK192; clear BK198; clear HB; have BK192 := n0_; have BK198 := n1_; have HB := n2_; clear n0_ n1_ n2_; (try clear hb); (try clear hb2); (try clear hk); (try clear hi); (try simp only [errW_none, errW_some])) | ((with_reducible refine gate_dst (N := 17) rfl ?_); refine box_event ?hg (N := 17) ?hd (cs := #[.bool false, .int .i64 0, .int .i64 0, .int .i64 0]) (t := 27) ?hr ?_; (case hd => rfl); (case hg => rfl); (case hr => first | (go_simp; done) | (go_simp; rfl)); intro gb212 hg w46 hbox hb; have n0_ := Aside0.mk (blk_below (tk BK192.out) hb); have n1_ := Aside0.mk (blk_below (tk BK198.out) hb); have n2_ := Aside0.mk (below_step tb hb); have n3_ := Aside0.mk (hbox); have n4_ := Aside0.mk ((by rw [hg]; exact (below_size tb) : w.heap.size ≤ gb212)); have n5_ := Aside0.mk ((by rw [hg]; exact (below_size tb) : w.heap.size ≤ gb212)); have n6_ := Aside0.mk ((by rw [hg]; exact Nat.ne_of_lt (blk_lt (tk BK192.out)) : gb192 ≠ gb212)); have n7_ := Aside0.mk ((by rw [hg]; exact Nat.ne_of_gt (blk_lt (tk BK192.out)) : gb212 ≠ gb192)); have n8_ := Aside0.mk ((by rw [hg]; exact Nat.ne_of_lt (blk_lt (tk BK198.out)) : gb198 ≠ gb212)); have n9_ := Aside0.mk ((by rw [hg]; exact Nat.ne_of_gt (blk_lt (tk BK198.out)) : gb212 ≠ gb198)); clear BK192; clear BK198; clear HB; have BK192 := n0_; have BK198 := n1_; have HB := n2_; have BK212 := n3_; have GW212 := n4_; have GE212 := n5_; have NB192_212 := n6_; have NB212_192 := n7_; have NB198_212 := n8_; have NB212_198 := n9_; clear n0_ n1_ n2_ n3_ n4_ n5_ n6_ n7_ n8_ n9_; clear hb hbox hg; have hnb47 := NB212_192.out; have hnc47 := NB192_212.out; have hnb48 := NB212_198.out; have hnc48 := NB198_212.out; have hcz49_0 : w46.cell? ⟨gb212, 0, none⟩ = some (.bool false) := (blk_cell BK212.out 0).trans rfl; have hcz49_1 : w46.cell? ⟨gb212, 1, none⟩ = some (.int .i64 0) := (blk_cell BK212.out 1).trans rfl; have hcz49_2 : w46.cell? ⟨gb212, 2, none⟩ = some (.int .i64 0) := (blk_cell BK212.out 2).trans rfl; have hcz49_3 : w46.cell? ⟨gb212, 3, none⟩ = some (.int .i64 0) := (blk_cell BK212.out 3).trans rfl; have hfz49_0 := blk_frozen BK212.out 0; have hfz49_1 := blk_frozen BK212.out 1; have hfz49_2 := blk_frozen BK212.out 2; have hfz49_3 := blk_frozen BK212.out 3; have hcz50_0 : w46.cell? ⟨gb192, 0, none⟩ = some (.string a0_0) := (blk_cell BK192.out 0).trans rfl; have hcz50_1 : w46.cell? ⟨gb192, 1, none⟩ = some (.int .i64 a0_1) := (blk_cell BK192.out 1).trans rfl; have hcz50_2 : w46.cell? ⟨gb192, 2, none⟩ = some (.int .i64 a0_2) := (blk_cell BK192.out 2).trans rfl; have hcz50_3 : w46.cell? ⟨gb192, 3, none⟩ = some (.int .i64 a0_3) := (blk_cell BK192.out 3).trans rfl; have hcz50_4 : w46.cell? ⟨gb192, 4, none⟩ = some (.int .i64 a0_4) := (blk_cell BK192.out 4).trans rfl; have hfz50_0 := blk_frozen BK192.out 0; have hfz50_1 := blk_frozen BK192.out 1; have hfz50_2 := blk_frozen BK192.out 2; have hfz50_3 := blk_frozen BK192.out 3; have hfz50_4 := blk_frozen BK192.out 4) | ((with_reducible refine gate_callee (f := 7) rfl ?_); refine goesL_ (some 97) rfl rfl Tryd.func7 (by kernel_rfl) rfl #[.agg #[.bool t207, .int .i64 t208, .int .i64 t209, .int .i64 t210], .agg #[.string a0_0, .int .i64 a0_1, .int .i64 a0_2, .int .i64 a0_3, .int .i64 a0_4], .int .i64 (wrap64 ((ji33) + x14_29))] rfl (by (try simp only [List.map_toArray, List.map_cons, List.map_nil]); first | done | (simp only [hji33]; rfl) | rfl | (simp only [List.length_drop, List.length_take]; rfl)) ?_; (with_reducible refine (health_Due.calls kj29 t207 t208 t209 t210 a0_0 a0_1 a0_2 a0_3 a0_4 (wrap64 ((ji33) + x14_29)) t213 t214 _ ?side1 A36.out).mono ?_); (case side1 => first | exact hG | exact GInv.step hG tb); rintro e w51 ⟨rfl, hb⟩; refine ⟨_, rfl, ?_⟩; have n0_ := Aside0.mk (blk_below (g := gb192) (o := .cells #[.string a0_0, .int .i64 a0_1, .int .i64 a0_2, .int .i64 a0_3, .int .i64 a0_4] 23 (0, 0)) (by (with_reducible repeat (first | refine blk_drewN ?_ _ | refine blk_drew ?_ | refine blk_alloc ?_ _)); refine blk_far ?_ NB192_212.out _; (with_reducible repeat (first | refine blk_drewN ?_ _ | refine blk_drew ?_ | refine blk_alloc ?_ _)); refine blk_far ?_ NB192_212.out _; (with_reducible repeat (first | refine blk_drewN ?_ _ | refine blk_drew ?_ | refine blk_alloc ?_ _)); refine blk_far ?_ NB192_212.out _; (with_reducible repeat (first | refine blk_drewN ?_ _ | refine blk_drew ?_ | refine blk_alloc ?_ _)); refine blk_far ?_ NB192_212.out _; (with_reducible repeat (first | refine blk_drewN ?_ _ | refine blk_drew ?_ | refine blk_alloc ?_ _)); exact BK192.out) hb); have n1_ := Aside0.mk (blk_below (g := gb198) (o := .cells #[.bool x199000_2, .int .i64 x199001_2, .int .i64 x199002_2, .int .i64 x199003_2] 27 (0, 0)) (by (with_reducible repeat (first | refine blk_drewN ?_ _ | refine blk_drew ?_ | refine blk_alloc ?_ _)); refine blk_far ?_ NB198_212.out _; (with_reducible repeat (first | refine blk_drewN ?_ _ | refine blk_drew ?_ | refine blk_alloc ?_ _)); refine blk_far ?_ NB198_212.out _; (with_reducible repeat (first | refine blk_drewN ?_ _ | refine blk_drew ?_ | refine blk_alloc ?_ _)); refine blk_far ?_ NB198_212.out _; (with_reducible repeat (first | refine blk_drewN ?_ _ | refine blk_drew ?_ | refine blk_alloc ?_ _)); refine blk_far ?_ NB198_212.out _; (with_reducible repeat (first | refine blk_drewN ?_ _ | refine blk_drew ?_ | refine blk_alloc ?_ _)); exact BK198.out) hb); have n2_ := Aside0.mk (blk_below (g := gb212) (o := .cells #[.bool t207, .int .i64 t208, .int .i64 t209, .int .i64 t210] 27 (0, 0)) (by (with_reducible repeat (first | refine blk_drewN ?_ _ | refine blk_drew ?_ | refine blk_alloc ?_ _)); refine blk_put (cs := #[.bool t207, .int .i64 t208, .int .i64 t209, .int .i64 0]) ?_ 3 _ rfl; (with_reducible repeat (first | refine blk_drewN ?_ _ | refine blk_drew ?_ | refine blk_alloc ?_ _)); refine blk_put (cs := #[.bool t207, .int .i64 t208, .int .i64 0, .int .i64 0]) ?_ 2 _ rfl; (with_reducible repeat (first | refine blk_drewN ?_ _ | refine blk_drew ?_ | refine blk_alloc ?_ _)); refine blk_put (cs := #[.bool t207, .int .i64 0, .int .i64 0, .int .i64 0]) ?_ 1 _ rfl; (with_reducible repeat (first | refine blk_drewN ?_ _ | refine blk_drew ?_ | refine blk_alloc ?_ _)); refine blk_put (cs := #[.bool false, .int .i64 0, .int .i64 0, .int .i64 0]) ?_ 0 _ rfl; (with_reducible repeat (first | refine blk_drewN ?_ _ | refine blk_drew ?_ | refine blk_alloc ?_ _)); exact BK212.out) hb); have n3_ := Aside0.mk (below_step tb hb); clear BK192; clear BK198; clear BK212; clear HB; have BK192 := n0_; have BK198 := n1_; have BK212 := n2_; have HB := n3_; clear n0_ n1_ n2_ n3_; (try clear hb); (try clear hb2); (try clear hk); (try clear hi); (try simp only [errW_none, errW_some]); have hcz52_0 : w51.cell? ⟨gb212, 0, none⟩ = some (.bool t207) := (blk_cell BK212.out 0).trans rfl; have hcz52_1 : w51.cell? ⟨gb212, 1, none⟩ = some (.int .i64 t208) := (blk_cell BK212.out 1).trans rfl; have hcz52_2 : w51.cell? ⟨gb212, 2, none⟩ = some (.int .i64 t209) := (blk_cell BK212.out 2).trans rfl; have hcz52_3 : w51.cell? ⟨gb212, 3, none⟩ = some (.int .i64 t210) := (blk_cell BK212.out 3).trans rfl; have hfz52_0 := blk_frozen BK212.out 0; have hfz52_1 := blk_frozen BK212.out 1; have hfz52_2 := blk_frozen BK212.out 2; have hfz52_3 := blk_frozen BK212.out 3; have hcz53_0 : w51.cell? ⟨gb192, 0, none⟩ = some (.string a0_0) := (blk_cell BK192.out 0).trans rfl; have hcz53_1 : w51.cell? ⟨gb192, 1, none⟩ = some (.int .i64 a0_1) := (blk_cell BK192.out 1).trans rfl; have hcz53_2 : w51.cell? ⟨gb192, 2, none⟩ = some (.int .i64 a0_2) := (blk_cell BK192.out 2).trans rfl; have hcz53_3 : w51.cell? ⟨gb192, 3, none⟩ = some (.int .i64 a0_3) := (blk_cell BK192.out 3).trans rfl; have hcz53_4 : w51.cell? ⟨gb192, 4, none⟩ = some (.int .i64 a0_4) := (blk_cell BK192.out 4).trans rfl; have hfz53_0 := blk_frozen BK192.out 0; have hfz53_1 := blk_frozen BK192.out 1; have hfz53_2 := blk_frozen BK192.out 2; have hfz53_3 := blk_frozen BK192.out 3; have hfz53_4 := blk_frozen BK192.out 4) | ((with_reducible refine gate_callee (f := 8) rfl ?_); refine goesL_ (some 104) rfl rfl Tryd.func8 (by kernel_rfl) rfl #[.agg #[.bool t207, .int .i64 t208, .int .i64 t209, .int .i64 t210], .agg #[.string a0_0, .int .i64 a0_1, .int .i64 a0_2, .int .i64 a0_3, .int .i64 a0_4], .int .i64 (wrap64 ((ji33) + x14_29))] rfl (by (try simp only [List.map_toArray, List.map_cons, List.map_nil]); first | done | (simp only [hji33]; rfl) | rfl | (simp only [List.length_drop, List.length_take]; rfl)) ?_; (with_reducible refine (health_Send.calls kj29 t207 t208 t209 t210 a0_0 a0_1 a0_2 a0_3 a0_4 (wrap64 ((ji33) + x14_29)) t215 t216 t217 t218 t219 _ ?side1 A37.out).mono ?_); (case side1 => first | exact hG | exact GInv.step hG tb); rintro e w54 ⟨rfl, hb⟩; refine ⟨_, rfl, ?_⟩; have n0_ := Aside0.mk (blk_below (tk BK192.out) hb); have n1_ := Aside0.mk (blk_below (tk BK198.out) hb); have n2_ := Aside0.mk (blk_below (tk BK212.out) hb); have n3_ := Aside0.mk (below_step tb hb); clear BK192; clear BK198; clear BK212; clear HB; have BK192 := n0_; have BK198 := n1_; have BK212 := n2_; have HB := n3_; clear n0_ n1_ n2_ n3_; (try clear hb); (try clear hb2); (try clear hk); (try clear hi); (try simp only [errW_none, errW_some])) | ((with_reducible refine gate_dst (N := 21) rfl ?_); refine box_event ?hg (N := 21) ?hd (cs := #[.bool false, .int .i64 0, .int .i64 0, .int .i64 0]) (t := 27) ?hr ?_; (case hd => rfl); (case hg => rfl); (case hr => first | (go_simp; done) | (go_simp; rfl)); intro gb220 hg w55 hbox hb; have n0_ := Aside0.mk (blk_below (tk BK192.out) hb); have n1_ := Aside0.mk (blk_below (tk BK198.out) hb); have n2_ := Aside0.mk (blk_below (tk BK212.out) hb); have n3_ := Aside0.mk (below_step tb hb); have n4_ := Aside0.mk (hbox); have n5_ := Aside0.mk ((by rw [hg]; exact (below_size tb) : w.heap.size ≤ gb220)); have n6_ := Aside0.mk ((by rw [hg]; exact (below_size tb) : w.heap.size ≤ gb220)); have n7_ := Aside0.mk ((by rw [hg]; exact Nat.ne_of_lt (blk_lt (tk BK192.out)) : gb192 ≠ gb220)); have n8_ := Aside0.mk ((by rw [hg]; exact Nat.ne_of_gt (blk_lt (tk BK192.out)) : gb220 ≠ gb192)); have n9_ := Aside0.mk ((by rw [hg]; exact Nat.ne_of_lt (blk_lt (tk BK198.out)) : gb198 ≠ gb220)); have n10_ := Aside0.mk ((by rw [hg]; exact Nat.ne_of_gt (blk_lt (tk BK198.out)) : gb220 ≠ gb198)); have n11_ := Aside0.mk ((by rw [hg]; exact Nat.ne_of_lt (blk_lt (tk BK212.out)) : gb212 ≠ gb220)); have n12_ := Aside0.mk ((by rw [hg]; exact Nat.ne_of_gt (blk_lt (tk BK212.out)) : gb220 ≠ gb212)); clear BK192; clear BK198; clear BK212; clear HB; have BK192 := n0_; have BK198 := n1_; have BK212 := n2_; have HB := n3_; have BK220 := n4_; have GW220 := n5_; have GE220 := n6_; have NB192_220 := n7_; have NB220_192 := n8_; have NB198_220 := n9_; have NB220_198 := n10_; have NB212_220 := n11_; have NB220_212 := n12_; clear n0_ n1_ n2_ n3_ n4_ n5_ n6_ n7_ n8_ n9_ n10_ n11_ n12_; clear hb hbox hg; have hnb56 := NB220_192.out; have hnc56 := NB192_220.out; have hnb57 := NB220_198.out; have hnc57 := NB198_220.out; have hnb58 := NB220_212.out; have hnc58 := NB212_220.out; have hcz59_0 : w55.cell? ⟨gb220, 0, none⟩ = some (.bool false) := (blk_cell BK220.out 0).trans rfl; have hcz59_1 : w55.cell? ⟨gb220, 1, none⟩ = some (.int .i64 0) := (blk_cell BK220.out 1).trans rfl; have hcz59_2 : w55.cell? ⟨gb220, 2, none⟩ = some (.int .i64 0) := (blk_cell BK220.out 2).trans rfl; have hcz59_3 : w55.cell? ⟨gb220, 3, none⟩ = some (.int .i64 0) := (blk_cell BK220.out 3).trans rfl; have hfz59_0 := blk_frozen BK220.out 0; have hfz59_1 := blk_frozen BK220.out 1; have hfz59_2 := blk_frozen BK220.out 2; have hfz59_3 := blk_frozen BK220.out 3))
           (try simp only [Act.put, List.setIfInBounds_toArray, List.set_cons_zero, List.set_cons_succ])
           go_cut [146] (fun v146 wc => ∃ (kq : Nat) (x146_37 : Bool), v146 = .bool x146_37 ∧ Aside0 (turnstilelaw24_HealthRuns.j4 kq l1 l2 x9_2 x10_2 (wrap64 ((ji33) + x14_29)) x13_2 x146_37 a0_0 a0_1 a0_2 a0_3 a0_4 t207 t208 t209 t210 = some r) ∧ Aside0 (kq ≤ kj29) ∧ Aside0 (wc.heap[gb192]? = some (.cells #[.string a0_0, .int .i64 a0_1, .int .i64 a0_2, .int .i64 a0_3, .int .i64 a0_4] 23 (0, 0))) ∧ Aside0 (wc.heap[gb198]? = some (.cells #[.bool x199000_2, .int .i64 x199001_2, .int .i64 x199002_2, .int .i64 x199003_2] 27 (0, 0))) ∧ Aside0 (wc.heap[gb212]? = some (.cells #[.bool t207, .int .i64 t208, .int .i64 t209, .int .i64 t210] 27 (0, 0))) ∧ Aside0 (wc.heap[gb220]? = some (.cells #[.bool t215, .int .i64 t216, .int .i64 t217, .int .i64 t218] 27 (0, 0))) ∧ Aside0 (Below w.heap.size w wc))
           case first =>
            as_aux_lemma =>
            have H := HC38.out
            clear HC38
            by_cases c60 : t205 = true
            ·subst c60
             have H1 : (if t206.isNone = true then (if t211.isNone = true then (if t213 = true then (turnstilelaw24_HealthRuns.j4 kj29 l1 l2 x9_2 x10_2 (wrap64 ((ji33) + x14_29)) x13_2 true a0_0 a0_1 a0_2 a0_3 a0_4 t207 t208 t209 t210) else (if t214.isNone = true then ((turnstilelaw24_num.f t219).bind fun t224 => (if t224 = 1 then (if x11_2 ≥ 0 then (if (wrap64 ((wrap64 ((ji33) + x14_29)) - x11_2)) < a0_1 then (turnstilelaw24_HealthRuns.j4 kj29 l1 l2 x9_2 x10_2 (wrap64 ((ji33) + x14_29)) x13_2 true a0_0 a0_1 a0_2 a0_3 a0_4 t207 t208 t209 t210) else (turnstilelaw24_HealthRuns.j4 kj29 l1 l2 x9_2 x10_2 (wrap64 ((ji33) + x14_29)) x13_2 (t207 != x9_2) a0_0 a0_1 a0_2 a0_3 a0_4 t207 t208 t209 t210)) else (turnstilelaw24_HealthRuns.j4 kj29 l1 l2 x9_2 x10_2 (wrap64 ((ji33) + x14_29)) x13_2 (t207 != x9_2) a0_0 a0_1 a0_2 a0_3 a0_4 t207 t208 t209 t210)) else (turnstilelaw24_HealthRuns.j4 kj29 l1 l2 x9_2 x10_2 (wrap64 ((ji33) + x14_29)) x13_2 true a0_0 a0_1 a0_2 a0_3 a0_4 t207 t208 t209 t210))) else (turnstilelaw24_HealthRuns.j4 kj29 l1 l2 x9_2 x10_2 (wrap64 ((ji33) + x14_29)) x13_2 true a0_0 a0_1 a0_2 a0_3 a0_4 t207 t208 t209 t210))) else (turnstilelaw24_HealthRuns.j4 kj29 l1 l2 x9_2 x10_2 (wrap64 ((ji33) + x14_29)) x13_2 true a0_0 a0_1 a0_2 a0_3 a0_4 t207 t208 t209 t210)) else (turnstilelaw24_HealthRuns.j4 kj29 l1 l2 x9_2 x10_2 (wrap64 ((ji33) + x14_29)) x13_2 true a0_0 a0_1 a0_2 a0_3 a0_4 t207 t208 t209 t210)) = some r := by rw [if_pos rfl] at H; exact H
             clear H
             have H := H1
             clear H1
             rcases t206 with _ | q221
             ·have H1 : (if t211.isNone = true then (if t213 = true then (turnstilelaw24_HealthRuns.j4 kj29 l1 l2 x9_2 x10_2 (wrap64 ((ji33) + x14_29)) x13_2 true a0_0 a0_1 a0_2 a0_3 a0_4 t207 t208 t209 t210) else (if t214.isNone = true then ((turnstilelaw24_num.f t219).bind fun t224 => (if t224 = 1 then (if x11_2 ≥ 0 then (if (wrap64 ((wrap64 ((ji33) + x14_29)) - x11_2)) < a0_1 then (turnstilelaw24_HealthRuns.j4 kj29 l1 l2 x9_2 x10_2 (wrap64 ((ji33) + x14_29)) x13_2 true a0_0 a0_1 a0_2 a0_3 a0_4 t207 t208 t209 t210) else (turnstilelaw24_HealthRuns.j4 kj29 l1 l2 x9_2 x10_2 (wrap64 ((ji33) + x14_29)) x13_2 (t207 != x9_2) a0_0 a0_1 a0_2 a0_3 a0_4 t207 t208 t209 t210)) else (turnstilelaw24_HealthRuns.j4 kj29 l1 l2 x9_2 x10_2 (wrap64 ((ji33) + x14_29)) x13_2 (t207 != x9_2) a0_0 a0_1 a0_2 a0_3 a0_4 t207 t208 t209 t210)) else (turnstilelaw24_HealthRuns.j4 kj29 l1 l2 x9_2 x10_2 (wrap64 ((ji33) + x14_29)) x13_2 true a0_0 a0_1 a0_2 a0_3 a0_4 t207 t208 t209 t210))) else (turnstilelaw24_HealthRuns.j4 kj29 l1 l2 x9_2 x10_2 (wrap64 ((ji33) + x14_29)) x13_2 true a0_0 a0_1 a0_2 a0_3 a0_4 t207 t208 t209 t210))) else (turnstilelaw24_HealthRuns.j4 kj29 l1 l2 x9_2 x10_2 (wrap64 ((ji33) + x14_29)) x13_2 true a0_0 a0_1 a0_2 a0_3 a0_4 t207 t208 t209 t210)) = some r := by rw [if_pos (show (none : Option Int).isNone = true by rfl)] at H; exact H
              clear H
              have H := H1
              clear H1
              try simp only [errW_none, errW_some]
              rcases t211 with _ | q222
              ·have H1 : (if t213 = true then (turnstilelaw24_HealthRuns.j4 kj29 l1 l2 x9_2 x10_2 (wrap64 ((ji33) + x14_29)) x13_2 true a0_0 a0_1 a0_2 a0_3 a0_4 t207 t208 t209 t210) else (if t214.isNone = true then ((turnstilelaw24_num.f t219).bind fun t224 => (if t224 = 1 then (if x11_2 ≥ 0 then (if (wrap64 ((wrap64 ((ji33) + x14_29)) - x11_2)) < a0_1 then (turnstilelaw24_HealthRuns.j4 kj29 l1 l2 x9_2 x10_2 (wrap64 ((ji33) + x14_29)) x13_2 true a0_0 a0_1 a0_2 a0_3 a0_4 t207 t208 t209 t210) else (turnstilelaw24_HealthRuns.j4 kj29 l1 l2 x9_2 x10_2 (wrap64 ((ji33) + x14_29)) x13_2 (t207 != x9_2) a0_0 a0_1 a0_2 a0_3 a0_4 t207 t208 t209 t210)) else (turnstilelaw24_HealthRuns.j4 kj29 l1 l2 x9_2 x10_2 (wrap64 ((ji33) + x14_29)) x13_2 (t207 != x9_2) a0_0 a0_1 a0_2 a0_3 a0_4 t207 t208 t209 t210)) else (turnstilelaw24_HealthRuns.j4 kj29 l1 l2 x9_2 x10_2 (wrap64 ((ji33) + x14_29)) x13_2 true a0_0 a0_1 a0_2 a0_3 a0_4 t207 t208 t209 t210))) else (turnstilelaw24_HealthRuns.j4 kj29 l1 l2 x9_2 x10_2 (wrap64 ((ji33) + x14_29)) x13_2 true a0_0 a0_1 a0_2 a0_3 a0_4 t207 t208 t209 t210))) = some r := by rw [if_pos (show (none : Option Int).isNone = true by rfl)] at H; exact H
               clear H
               have H := H1
               clear H1
               try simp only [errW_none, errW_some]
               by_cases c61 : t213 = true
               ·subst c61
                have H1 : (turnstilelaw24_HealthRuns.j4 kj29 l1 l2 x9_2 x10_2 (wrap64 ((ji33) + x14_29)) x13_2 true a0_0 a0_1 a0_2 a0_3 a0_4 t207 t208 t209 t210) = some r := by rw [if_pos rfl] at H; exact H
                clear H
                have H := H1
                clear H1
                have H' := Aside0.mk H
                clear H
                go_wp2
                go_meet
                case rel => exact ⟨_, (true), (by first | rfl | (simp; done) | (simp [*]; done)), H', ⟨by have := HJ4.out; have := HK2.out; have := HJ26.out; have := HJ29.out; first | omega | exact Nat.le_refl _⟩, ⟨by (with_reducible repeat (first | refine blk_drewN ?_ _ | refine blk_drew ?_ | refine blk_alloc ?_ _)); refine blk_far ?_ NB192_220.out _; (with_reducible repeat (first | refine blk_drewN ?_ _ | refine blk_drew ?_ | refine blk_alloc ?_ _)); refine blk_far ?_ NB192_220.out _; (with_reducible repeat (first | refine blk_drewN ?_ _ | refine blk_drew ?_ | refine blk_alloc ?_ _)); refine blk_far ?_ NB192_220.out _; (with_reducible repeat (first | refine blk_drewN ?_ _ | refine blk_drew ?_ | refine blk_alloc ?_ _)); refine blk_far ?_ NB192_220.out _; (with_reducible repeat (first | refine blk_drewN ?_ _ | refine blk_drew ?_ | refine blk_alloc ?_ _)); exact BK192.out⟩, ⟨by (with_reducible repeat (first | refine blk_drewN ?_ _ | refine blk_drew ?_ | refine blk_alloc ?_ _)); refine blk_far ?_ NB198_220.out _; (with_reducible repeat (first | refine blk_drewN ?_ _ | refine blk_drew ?_ | refine blk_alloc ?_ _)); refine blk_far ?_ NB198_220.out _; (with_reducible repeat (first | refine blk_drewN ?_ _ | refine blk_drew ?_ | refine blk_alloc ?_ _)); refine blk_far ?_ NB198_220.out _; (with_reducible repeat (first | refine blk_drewN ?_ _ | refine blk_drew ?_ | refine blk_alloc ?_ _)); refine blk_far ?_ NB198_220.out _; (with_reducible repeat (first | refine blk_drewN ?_ _ | refine blk_drew ?_ | refine blk_alloc ?_ _)); exact BK198.out⟩, ⟨by (with_reducible repeat (first | refine blk_drewN ?_ _ | refine blk_drew ?_ | refine blk_alloc ?_ _)); refine blk_far ?_ NB212_220.out _; (with_reducible repeat (first | refine blk_drewN ?_ _ | refine blk_drew ?_ | refine blk_alloc ?_ _)); refine blk_far ?_ NB212_220.out _; (with_reducible repeat (first | refine blk_drewN ?_ _ | refine blk_drew ?_ | refine blk_alloc ?_ _)); refine blk_far ?_ NB212_220.out _; (with_reducible repeat (first | refine blk_drewN ?_ _ | refine blk_drew ?_ | refine blk_alloc ?_ _)); refine blk_far ?_ NB212_220.out _; (with_reducible repeat (first | refine blk_drewN ?_ _ | refine blk_drew ?_ | refine blk_alloc ?_ _)); exact BK212.out⟩, ⟨by (with_reducible repeat (first | refine blk_drewN ?_ _ | refine blk_drew ?_ | refine blk_alloc ?_ _)); refine blk_put (cs := #[.bool t215, .int .i64 t216, .int .i64 t217, .int .i64 0]) ?_ 3 _ rfl; (with_reducible repeat (first | refine blk_drewN ?_ _ | refine blk_drew ?_ | refine blk_alloc ?_ _)); refine blk_put (cs := #[.bool t215, .int .i64 t216, .int .i64 0, .int .i64 0]) ?_ 2 _ rfl; (with_reducible repeat (first | refine blk_drewN ?_ _ | refine blk_drew ?_ | refine blk_alloc ?_ _)); refine blk_put (cs := #[.bool t215, .int .i64 0, .int .i64 0, .int .i64 0]) ?_ 1 _ rfl; (with_reducible repeat (first | refine blk_drewN ?_ _ | refine blk_drew ?_ | refine blk_alloc ?_ _)); refine blk_put (cs := #[.bool false, .int .i64 0, .int .i64 0, .int .i64 0]) ?_ 0 _ rfl; (with_reducible repeat (first | refine blk_drewN ?_ _ | refine blk_drew ?_ | refine blk_alloc ?_ _)); exact BK220.out⟩, ⟨tb⟩⟩
               ·replace c61 := Bool.eq_false_iff.mpr c61
                subst c61
                have H1 : (if t214.isNone = true then ((turnstilelaw24_num.f t219).bind fun t224 => (if t224 = 1 then (if x11_2 ≥ 0 then (if (wrap64 ((wrap64 ((ji33) + x14_29)) - x11_2)) < a0_1 then (turnstilelaw24_HealthRuns.j4 kj29 l1 l2 x9_2 x10_2 (wrap64 ((ji33) + x14_29)) x13_2 true a0_0 a0_1 a0_2 a0_3 a0_4 t207 t208 t209 t210) else (turnstilelaw24_HealthRuns.j4 kj29 l1 l2 x9_2 x10_2 (wrap64 ((ji33) + x14_29)) x13_2 (t207 != x9_2) a0_0 a0_1 a0_2 a0_3 a0_4 t207 t208 t209 t210)) else (turnstilelaw24_HealthRuns.j4 kj29 l1 l2 x9_2 x10_2 (wrap64 ((ji33) + x14_29)) x13_2 (t207 != x9_2) a0_0 a0_1 a0_2 a0_3 a0_4 t207 t208 t209 t210)) else (turnstilelaw24_HealthRuns.j4 kj29 l1 l2 x9_2 x10_2 (wrap64 ((ji33) + x14_29)) x13_2 true a0_0 a0_1 a0_2 a0_3 a0_4 t207 t208 t209 t210))) else (turnstilelaw24_HealthRuns.j4 kj29 l1 l2 x9_2 x10_2 (wrap64 ((ji33) + x14_29)) x13_2 true a0_0 a0_1 a0_2 a0_3 a0_4 t207 t208 t209 t210)) = some r := by rw [if_neg (show ¬ (false = true) by decide)] at H; exact H
                clear H
                have H := H1
                clear H1
                rcases t214 with _ | q223
                ·have H1 : ((turnstilelaw24_num.f t219).bind fun t224 => (if t224 = 1 then (if x11_2 ≥ 0 then (if (wrap64 ((wrap64 ((ji33) + x14_29)) - x11_2)) < a0_1 then (turnstilelaw24_HealthRuns.j4 kj29 l1 l2 x9_2 x10_2 (wrap64 ((ji33) + x14_29)) x13_2 true a0_0 a0_1 a0_2 a0_3 a0_4 t207 t208 t209 t210) else (turnstilelaw24_HealthRuns.j4 kj29 l1 l2 x9_2 x10_2 (wrap64 ((ji33) + x14_29)) x13_2 (t207 != x9_2) a0_0 a0_1 a0_2 a0_3 a0_4 t207 t208 t209 t210)) else (turnstilelaw24_HealthRuns.j4 kj29 l1 l2 x9_2 x10_2 (wrap64 ((ji33) + x14_29)) x13_2 (t207 != x9_2) a0_0 a0_1 a0_2 a0_3 a0_4 t207 t208 t209 t210)) else (turnstilelaw24_HealthRuns.j4 kj29 l1 l2 x9_2 x10_2 (wrap64 ((ji33) + x14_29)) x13_2 true a0_0 a0_1 a0_2 a0_3 a0_4 t207 t208 t209 t210))) = some r := by rw [if_pos (show (none : Option Int).isNone = true by rfl)] at H; exact H
                 clear H
                 have H := H1
                 clear H1
                 try simp only [errW_none, errW_some]
                 replace H := Option.bind_eq_some_iff.mp H
                 obtain ⟨t224, A620, H⟩ := H
                 replace H : (if t224 = 1 then (if x11_2 ≥ 0 then (if (wrap64 ((wrap64 ((ji33) + x14_29)) - x11_2)) < a0_1 then (turnstilelaw24_HealthRuns.j4 kj29 l1 l2 x9_2 x10_2 (wrap64 ((ji33) + x14_29)) x13_2 true a0_0 a0_1 a0_2 a0_3 a0_4 t207 t208 t209 t210) else (turnstilelaw24_HealthRuns.j4 kj29 l1 l2 x9_2 x10_2 (wrap64 ((ji33) + x14_29)) x13_2 (t207 != x9_2) a0_0 a0_1 a0_2 a0_3 a0_4 t207 t208 t209 t210)) else (turnstilelaw24_HealthRuns.j4 kj29 l1 l2 x9_2 x10_2 (wrap64 ((ji33) + x14_29)) x13_2 (t207 != x9_2) a0_0 a0_1 a0_2 a0_3 a0_4 t207 t208 t209 t210)) else (turnstilelaw24_HealthRuns.j4 kj29 l1 l2 x9_2 x10_2 (wrap64 ((ji33) + x14_29)) x13_2 true a0_0 a0_1 a0_2 a0_3 a0_4 t207 t208 t209 t210)) = some r := H
                 have A62 := Aside0.mk A620
                 clear A620
                 by_cases c63 : t224 = 1
                 ·rw [if_pos c63] at H
                  have c63b0 : (t224 == 1) = true := beq_iff_eq.mpr c63
                  have c63b1 : (t224 != 1) = false := bne_eq_false_iff_eq.mpr c63
                  clear c63
                  (first | rw [c63b0] | (simp only [i64_w, i32_w]; rw [c63b0]) | skip)
                  by_cases c64 : x11_2 ≥ 0
                  ·rw [if_pos c64] at H
                   have c64b0 : decide (0 ≤ x11_2) = true := decide_eq_true c64
                   clear c64
                   by_cases c65 : (wrap64 ((wrap64 ((ji33) + x14_29)) - x11_2)) < a0_1
                   ·rw [if_pos c65] at H
                    have c65b0 : decide ((wrap64 ((wrap64 ((ji33) + x14_29)) - x11_2)) < a0_1) = true := decide_eq_true c65
                    clear c65
                    have H' := Aside0.mk H
                    clear H
                    have CA62 := fun W => turnstilelaw24_num.calls t219 t224 W A62.out
                    try simp only [errW_none, errW_some] at CA62
                    go_wp2_with (first | (go_at_call 9; (with_reducible refine (CA62 _).mono ?_); rintro e w' ⟨rfl, ⟨nd, rfl⟩⟩; have hnb66 := NB192_198.out; have hnc66 := NB198_192.out; have hnb67 := NB192_212.out; have hnc67 := NB212_192.out; have hnb68 := NB192_220.out; have hnc68 := NB220_192.out; have hcz69_0 : w55.cell? ⟨gb192, 0, none⟩ = some (.string a0_0) := (blk_cell BK192.out 0).trans rfl; have hcz69_1 : w55.cell? ⟨gb192, 1, none⟩ = some (.int .i64 a0_1) := (blk_cell BK192.out 1).trans rfl; have hcz69_2 : w55.cell? ⟨gb192, 2, none⟩ = some (.int .i64 a0_2) := (blk_cell BK192.out 2).trans rfl; have hcz69_3 : w55.cell? ⟨gb192, 3, none⟩ = some (.int .i64 a0_3) := (blk_cell BK192.out 3).trans rfl; have hcz69_4 : w55.cell? ⟨gb192, 4, none⟩ = some (.int .i64 a0_4) := (blk_cell BK192.out 4).trans rfl; have hfz69_0 := blk_frozen BK192.out 0; have hfz69_1 := blk_frozen BK192.out 1; have hfz69_2 := blk_frozen BK192.out 2; have hfz69_3 := blk_frozen BK192.out 3; have hfz69_4 := blk_frozen BK192.out 4))
                    go_meet
                    case rel => exact ⟨_, (true), (by first | rfl | (simp; done) | (simp [*]; done)), H', ⟨by have := HJ4.out; have := HK2.out; have := HJ26.out; have := HJ29.out; first | omega | exact Nat.le_refl _⟩, ⟨by (with_reducible repeat (first | refine blk_drewN ?_ _ | refine blk_drew ?_ | refine blk_alloc ?_ _)); refine blk_far ?_ NB192_220.out _; (with_reducible repeat (first | refine blk_drewN ?_ _ | refine blk_drew ?_ | refine blk_alloc ?_ _)); refine blk_far ?_ NB192_220.out _; (with_reducible repeat (first | refine blk_drewN ?_ _ | refine blk_drew ?_ | refine blk_alloc ?_ _)); refine blk_far ?_ NB192_220.out _; (with_reducible repeat (first | refine blk_drewN ?_ _ | refine blk_drew ?_ | refine blk_alloc ?_ _)); refine blk_far ?_ NB192_220.out _; (with_reducible repeat (first | refine blk_drewN ?_ _ | refine blk_drew ?_ | refine blk_alloc ?_ _)); exact BK192.out⟩, ⟨by (with_reducible repeat (first | refine blk_drewN ?_ _ | refine blk_drew ?_ | refine blk_alloc ?_ _)); refine blk_far ?_ NB198_220.out _; (with_reducible repeat (first | refine blk_drewN ?_ _ | refine blk_drew ?_ | refine blk_alloc ?_ _)); refine blk_far ?_ NB198_220.out _; (with_reducible repeat (first | refine blk_drewN ?_ _ | refine blk_drew ?_ | refine blk_alloc ?_ _)); refine blk_far ?_ NB198_220.out _; (with_reducible repeat (first | refine blk_drewN ?_ _ | refine blk_drew ?_ | refine blk_alloc ?_ _)); refine blk_far ?_ NB198_220.out _; (with_reducible repeat (first | refine blk_drewN ?_ _ | refine blk_drew ?_ | refine blk_alloc ?_ _)); exact BK198.out⟩, ⟨by (with_reducible repeat (first | refine blk_drewN ?_ _ | refine blk_drew ?_ | refine blk_alloc ?_ _)); refine blk_far ?_ NB212_220.out _; (with_reducible repeat (first | refine blk_drewN ?_ _ | refine blk_drew ?_ | refine blk_alloc ?_ _)); refine blk_far ?_ NB212_220.out _; (with_reducible repeat (first | refine blk_drewN ?_ _ | refine blk_drew ?_ | refine blk_alloc ?_ _)); refine blk_far ?_ NB212_220.out _; (with_reducible repeat (first | refine blk_drewN ?_ _ | refine blk_drew ?_ | refine blk_alloc ?_ _)); refine blk_far ?_ NB212_220.out _; (with_reducible repeat (first | refine blk_drewN ?_ _ | refine blk_drew ?_ | refine blk_alloc ?_ _)); exact BK212.out⟩, ⟨by (with_reducible repeat (first | refine blk_drewN ?_ _ | refine blk_drew ?_ | refine blk_alloc ?_ _)); refine blk_put (cs := #[.bool t215, .int .i64 t216, .int .i64 t217, .int .i64 0]) ?_ 3 _ rfl; (with_reducible repeat (first | refine blk_drewN ?_ _ | refine blk_drew ?_ | refine blk_alloc ?_ _)); refine blk_put (cs := #[.bool t215, .int .i64 t216, .int .i64 0, .int .i64 0]) ?_ 2 _ rfl; (with_reducible repeat (first | refine blk_drewN ?_ _ | refine blk_drew ?_ | refine blk_alloc ?_ _)); refine blk_put (cs := #[.bool t215, .int .i64 0, .int .i64 0, .int .i64 0]) ?_ 1 _ rfl; (with_reducible repeat (first | refine blk_drewN ?_ _ | refine blk_drew ?_ | refine blk_alloc ?_ _)); refine blk_put (cs := #[.bool false, .int .i64 0, .int .i64 0, .int .i64 0]) ?_ 0 _ rfl; (with_reducible repeat (first | refine blk_drewN ?_ _ | refine blk_drew ?_ | refine blk_alloc ?_ _)); exact BK220.out⟩, ⟨tb⟩⟩
                   ·rw [if_neg c65] at H
                    have c65b0 : decide ((wrap64 ((wrap64 ((ji33) + x14_29)) - x11_2)) < a0_1) = false := decide_eq_false c65
                    clear c65
                    have H' := Aside0.mk H
                    clear H
                    have CA62 := fun W => turnstilelaw24_num.calls t219 t224 W A62.out
                    try simp only [errW_none, errW_some] at CA62
                    go_wp2_with (first | (go_at_call 9; (with_reducible refine (CA62 _).mono ?_); rintro e w' ⟨rfl, ⟨nd, rfl⟩⟩; have hnb70 := NB192_198.out; have hnc70 := NB198_192.out; have hnb71 := NB192_212.out; have hnc71 := NB212_192.out; have hnb72 := NB192_220.out; have hnc72 := NB220_192.out; have hcz73_0 : w55.cell? ⟨gb192, 0, none⟩ = some (.string a0_0) := (blk_cell BK192.out 0).trans rfl; have hcz73_1 : w55.cell? ⟨gb192, 1, none⟩ = some (.int .i64 a0_1) := (blk_cell BK192.out 1).trans rfl; have hcz73_2 : w55.cell? ⟨gb192, 2, none⟩ = some (.int .i64 a0_2) := (blk_cell BK192.out 2).trans rfl; have hcz73_3 : w55.cell? ⟨gb192, 3, none⟩ = some (.int .i64 a0_3) := (blk_cell BK192.out 3).trans rfl; have hcz73_4 : w55.cell? ⟨gb192, 4, none⟩ = some (.int .i64 a0_4) := (blk_cell BK192.out 4).trans rfl; have hfz73_0 := blk_frozen BK192.out 0; have hfz73_1 := blk_frozen BK192.out 1; have hfz73_2 := blk_frozen BK192.out 2; have hfz73_3 := blk_frozen BK192.out 3; have hfz73_4 := blk_frozen BK192.out 4; have hnb74 := NB212_198.out; have hnc74 := NB198_212.out; have hnb75 := NB212_220.out; have hnc75 := NB220_212.out; have hcz76_0 : w55.cell? ⟨gb212, 0, none⟩ = some (.bool t207) := (blk_cell BK212.out 0).trans rfl; have hcz76_1 : w55.cell? ⟨gb212, 1, none⟩ = some (.int .i64 t208) := (blk_cell BK212.out 1).trans rfl; have hcz76_2 : w55.cell? ⟨gb212, 2, none⟩ = some (.int .i64 t209) := (blk_cell BK212.out 2).trans rfl; have hcz76_3 : w55.cell? ⟨gb212, 3, none⟩ = some (.int .i64 t210) := (blk_cell BK212.out 3).trans rfl; have hfz76_0 := blk_frozen BK212.out 0; have hfz76_1 := blk_frozen BK212.out 1; have hfz76_2 := blk_frozen BK212.out 2; have hfz76_3 := blk_frozen BK212.out 3))
                    go_meet
                    case rel => exact ⟨_, ((t207 != x9_2)), (by first | rfl | (simp; done) | (simp [*]; done)), H', ⟨by have := HJ4.out; have := HK2.out; have := HJ26.out; have := HJ29.out; first | omega | exact Nat.le_refl _⟩, ⟨by (with_reducible repeat (first | refine blk_drewN ?_ _ | refine blk_drew ?_ | refine blk_alloc ?_ _)); refine blk_far ?_ NB192_220.out _; (with_reducible repeat (first | refine blk_drewN ?_ _ | refine blk_drew ?_ | refine blk_alloc ?_ _)); refine blk_far ?_ NB192_220.out _; (with_reducible repeat (first | refine blk_drewN ?_ _ | refine blk_drew ?_ | refine blk_alloc ?_ _)); refine blk_far ?_ NB192_220.out _; (with_reducible repeat (first | refine blk_drewN ?_ _ | refine blk_drew ?_ | refine blk_alloc ?_ _)); refine blk_far ?_ NB192_220.out _; (with_reducible repeat (first | refine blk_drewN ?_ _ | refine blk_drew ?_ | refine blk_alloc ?_ _)); exact BK192.out⟩, ⟨by (with_reducible repeat (first | refine blk_drewN ?_ _ | refine blk_drew ?_ | refine blk_alloc ?_ _)); refine blk_far ?_ NB198_220.out _; (with_reducible repeat (first | refine blk_drewN ?_ _ | refine blk_drew ?_ | refine blk_alloc ?_ _)); refine blk_far ?_ NB198_220.out _; (with_reducible repeat (first | refine blk_drewN ?_ _ | refine blk_drew ?_ | refine blk_alloc ?_ _)); refine blk_far ?_ NB198_220.out _; (with_reducible repeat (first | refine blk_drewN ?_ _ | refine blk_drew ?_ | refine blk_alloc ?_ _)); refine blk_far ?_ NB198_220.out _; (with_reducible repeat (first | refine blk_drewN ?_ _ | refine blk_drew ?_ | refine blk_alloc ?_ _)); exact BK198.out⟩, ⟨by (with_reducible repeat (first | refine blk_drewN ?_ _ | refine blk_drew ?_ | refine blk_alloc ?_ _)); refine blk_far ?_ NB212_220.out _; (with_reducible repeat (first | refine blk_drewN ?_ _ | refine blk_drew ?_ | refine blk_alloc ?_ _)); refine blk_far ?_ NB212_220.out _; (with_reducible repeat (first | refine blk_drewN ?_ _ | refine blk_drew ?_ | refine blk_alloc ?_ _)); refine blk_far ?_ NB212_220.out _; (with_reducible repeat (first | refine blk_drewN ?_ _ | refine blk_drew ?_ | refine blk_alloc ?_ _)); refine blk_far ?_ NB212_220.out _; (with_reducible repeat (first | refine blk_drewN ?_ _ | refine blk_drew ?_ | refine blk_alloc ?_ _)); exact BK212.out⟩, ⟨by (with_reducible repeat (first | refine blk_drewN ?_ _ | refine blk_drew ?_ | refine blk_alloc ?_ _)); refine blk_put (cs := #[.bool t215, .int .i64 t216, .int .i64 t217, .int .i64 0]) ?_ 3 _ rfl; (with_reducible repeat (first | refine blk_drewN ?_ _ | refine blk_drew ?_ | refine blk_alloc ?_ _)); refine blk_put (cs := #[.bool t215, .int .i64 t216, .int .i64 0, .int .i64 0]) ?_ 2 _ rfl; (with_reducible repeat (first | refine blk_drewN ?_ _ | refine blk_drew ?_ | refine blk_alloc ?_ _)); refine blk_put (cs := #[.bool t215, .int .i64 0, .int .i64 0, .int .i64 0]) ?_ 1 _ rfl; (with_reducible repeat (first | refine blk_drewN ?_ _ | refine blk_drew ?_ | refine blk_alloc ?_ _)); refine blk_put (cs := #[.bool false, .int .i64 0, .int .i64 0, .int .i64 0]) ?_ 0 _ rfl; (with_reducible repeat (first | refine blk_drewN ?_ _ | refine blk_drew ?_ | refine blk_alloc ?_ _)); exact BK220.out⟩, ⟨tb⟩⟩
                  ·rw [if_neg c64] at H
                   have c64b0 : decide (0 ≤ x11_2) = false := decide_eq_false c64
                   clear c64
                   have H' := Aside0.mk H
                   clear H
                   have CA62 := fun W => turnstilelaw24_num.calls t219 t224 W A62.out
                   try simp only [errW_none, errW_some] at CA62
                   go_wp2_with (first | (go_at_call 9; (with_reducible refine (CA62 _).mono ?_); rintro e w' ⟨rfl, ⟨nd, rfl⟩⟩; have hnb77 := NB212_192.out; have hnc77 := NB192_212.out; have hnb78 := NB212_198.out; have hnc78 := NB198_212.out; have hnb79 := NB212_220.out; have hnc79 := NB220_212.out; have hcz80_0 : w55.cell? ⟨gb212, 0, none⟩ = some (.bool t207) := (blk_cell BK212.out 0).trans rfl; have hcz80_1 : w55.cell? ⟨gb212, 1, none⟩ = some (.int .i64 t208) := (blk_cell BK212.out 1).trans rfl; have hcz80_2 : w55.cell? ⟨gb212, 2, none⟩ = some (.int .i64 t209) := (blk_cell BK212.out 2).trans rfl; have hcz80_3 : w55.cell? ⟨gb212, 3, none⟩ = some (.int .i64 t210) := (blk_cell BK212.out 3).trans rfl; have hfz80_0 := blk_frozen BK212.out 0; have hfz80_1 := blk_frozen BK212.out 1; have hfz80_2 := blk_frozen BK212.out 2; have hfz80_3 := blk_frozen BK212.out 3))
                   go_meet
                   case rel => exact ⟨_, ((t207 != x9_2)), (by first | rfl | (simp; done) | (simp [*]; done)), H', ⟨by have := HJ4.out; have := HK2.out; have := HJ26.out; have := HJ29.out; first | omega | exact Nat.le_refl _⟩, ⟨by (with_reducible repeat (first | refine blk_drewN ?_ _ | refine blk_drew ?_ | refine blk_alloc ?_ _)); refine blk_far ?_ NB192_220.out _; (with_reducible repeat (first | refine blk_drewN ?_ _ | refine blk_drew ?_ | refine blk_alloc ?_ _)); refine blk_far ?_ NB192_220.out _; (with_reducible repeat (first | refine blk_drewN ?_ _ | refine blk_drew ?_ | refine blk_alloc ?_ _)); refine blk_far ?_ NB192_220.out _; (with_reducible repeat (first | refine blk_drewN ?_ _ | refine blk_drew ?_ | refine blk_alloc ?_ _)); refine blk_far ?_ NB192_220.out _; (with_reducible repeat (first | refine blk_drewN ?_ _ | refine blk_drew ?_ | refine blk_alloc ?_ _)); exact BK192.out⟩, ⟨by (with_reducible repeat (first | refine blk_drewN ?_ _ | refine blk_drew ?_ | refine blk_alloc ?_ _)); refine blk_far ?_ NB198_220.out _; (with_reducible repeat (first | refine blk_drewN ?_ _ | refine blk_drew ?_ | refine blk_alloc ?_ _)); refine blk_far ?_ NB198_220.out _; (with_reducible repeat (first | refine blk_drewN ?_ _ | refine blk_drew ?_ | refine blk_alloc ?_ _)); refine blk_far ?_ NB198_220.out _; (with_reducible repeat (first | refine blk_drewN ?_ _ | refine blk_drew ?_ | refine blk_alloc ?_ _)); refine blk_far ?_ NB198_220.out _; (with_reducible repeat (first | refine blk_drewN ?_ _ | refine blk_drew ?_ | refine blk_alloc ?_ _)); exact BK198.out⟩, ⟨by (with_reducible repeat (first | refine blk_drewN ?_ _ | refine blk_drew ?_ | refine blk_alloc ?_ _)); refine blk_far ?_ NB212_220.out _; (with_reducible repeat (first | refine blk_drewN ?_ _ | refine blk_drew ?_ | refine blk_alloc ?_ _)); refine blk_far ?_ NB212_220.out _; (with_reducible repeat (first | refine blk_drewN ?_ _ | refine blk_drew ?_ | refine blk_alloc ?_ _)); refine blk_far ?_ NB212_220.out _; (with_reducible repeat (first | refine blk_drewN ?_ _ | refine blk_drew ?_ | refine blk_alloc ?_ _)); refine blk_far ?_ NB212_220.out _; (with_reducible repeat (first | refine blk_drewN ?_ _ | refine blk_drew ?_ | refine blk_alloc ?_ _)); exact BK212.out⟩, ⟨by (with_reducible repeat (first | refine blk_drewN ?_ _ | refine blk_drew ?_ | refine blk_alloc ?_ _)); refine blk_put (cs := #[.bool t215, .int .i64 t216, .int .i64 t217, .int .i64 0]) ?_ 3 _ rfl; (with_reducible repeat (first | refine blk_drewN ?_ _ | refine blk_drew ?_ | refine blk_alloc ?_ _)); refine blk_put (cs := #[.bool t215, .int .i64 t216, .int .i64 0, .int .i64 0]) ?_ 2 _ rfl; (with_reducible repeat (first | refine blk_drewN ?_ _ | refine blk_drew ?_ | refine blk_alloc ?_ _)); refine blk_put (cs := #[.bool t215, .int .i64 0, .int .i64 0, .int .i64 0]) ?_ 1 _ rfl; (with_reducible repeat (first | refine blk_drewN ?_ _ | refine blk_drew ?_ | refine blk_alloc ?_ _)); refine blk_put (cs := #[.bool false, .int .i64 0, .int .i64 0, .int .i64 0]) ?_ 0 _ rfl; (with_reducible repeat (first | refine blk_drewN ?_ _ | refine blk_drew ?_ | refine blk_alloc ?_ _)); exact BK220.out⟩, ⟨tb⟩⟩
                 ·rw [if_neg c63] at H
                  have c63b0 : (t224 == 1) = false := beq_eq_false_iff_ne.mpr c63
                  have c63b1 : (t224 != 1) = true := bne_iff_ne.mpr c63
                  (first | rw [c63b0] | (simp only [i64_w, i32_w]; rw [c63b0]) | skip)
                  have H' := Aside0.mk H
                  clear H
                  have CA62 := fun W => turnstilelaw24_num.calls t219 t224 W A62.out
                  try simp only [errW_none, errW_some] at CA62
                  go_wp2_with (first | (go_at_call 9; (with_reducible refine (CA62 _).mono ?_); rintro e w' ⟨rfl, ⟨nd, rfl⟩⟩))
                  go_meet
                  case rel => exact ⟨_, (true), (by first | rfl | (simp; done) | (simp [*]; done)), H', ⟨by have := HJ4.out; have := HK2.out; have := HJ26.out; have := HJ29.out; first | omega | exact Nat.le_refl _⟩, ⟨by (with_reducible repeat (first | refine blk_drewN ?_ _ | refine blk_drew ?_ | refine blk_alloc ?_ _)); refine blk_far ?_ NB192_220.out _; (with_reducible repeat (first | refine blk_drewN ?_ _ | refine blk_drew ?_ | refine blk_alloc ?_ _)); refine blk_far ?_ NB192_220.out _; (with_reducible repeat (first | refine blk_drewN ?_ _ | refine blk_drew ?_ | refine blk_alloc ?_ _)); refine blk_far ?_ NB192_220.out _; (with_reducible repeat (first | refine blk_drewN ?_ _ | refine blk_drew ?_ | refine blk_alloc ?_ _)); refine blk_far ?_ NB192_220.out _; (with_reducible repeat (first | refine blk_drewN ?_ _ | refine blk_drew ?_ | refine blk_alloc ?_ _)); exact BK192.out⟩, ⟨by (with_reducible repeat (first | refine blk_drewN ?_ _ | refine blk_drew ?_ | refine blk_alloc ?_ _)); refine blk_far ?_ NB198_220.out _; (with_reducible repeat (first | refine blk_drewN ?_ _ | refine blk_drew ?_ | refine blk_alloc ?_ _)); refine blk_far ?_ NB198_220.out _; (with_reducible repeat (first | refine blk_drewN ?_ _ | refine blk_drew ?_ | refine blk_alloc ?_ _)); refine blk_far ?_ NB198_220.out _; (with_reducible repeat (first | refine blk_drewN ?_ _ | refine blk_drew ?_ | refine blk_alloc ?_ _)); refine blk_far ?_ NB198_220.out _; (with_reducible repeat (first | refine blk_drewN ?_ _ | refine blk_drew ?_ | refine blk_alloc ?_ _)); exact BK198.out⟩, ⟨by (with_reducible repeat (first | refine blk_drewN ?_ _ | refine blk_drew ?_ | refine blk_alloc ?_ _)); refine blk_far ?_ NB212_220.out _; (with_reducible repeat (first | refine blk_drewN ?_ _ | refine blk_drew ?_ | refine blk_alloc ?_ _)); refine blk_far ?_ NB212_220.out _; (with_reducible repeat (first | refine blk_drewN ?_ _ | refine blk_drew ?_ | refine blk_alloc ?_ _)); refine blk_far ?_ NB212_220.out _; (with_reducible repeat (first | refine blk_drewN ?_ _ | refine blk_drew ?_ | refine blk_alloc ?_ _)); refine blk_far ?_ NB212_220.out _; (with_reducible repeat (first | refine blk_drewN ?_ _ | refine blk_drew ?_ | refine blk_alloc ?_ _)); exact BK212.out⟩, ⟨by (with_reducible repeat (first | refine blk_drewN ?_ _ | refine blk_drew ?_ | refine blk_alloc ?_ _)); refine blk_put (cs := #[.bool t215, .int .i64 t216, .int .i64 t217, .int .i64 0]) ?_ 3 _ rfl; (with_reducible repeat (first | refine blk_drewN ?_ _ | refine blk_drew ?_ | refine blk_alloc ?_ _)); refine blk_put (cs := #[.bool t215, .int .i64 t216, .int .i64 0, .int .i64 0]) ?_ 2 _ rfl; (with_reducible repeat (first | refine blk_drewN ?_ _ | refine blk_drew ?_ | refine blk_alloc ?_ _)); refine blk_put (cs := #[.bool t215, .int .i64 0, .int .i64 0, .int .i64 0]) ?_ 1 _ rfl; (with_reducible repeat (first | refine blk_drewN ?_ _ | refine blk_drew ?_ | refine blk_alloc ?_ _)); refine blk_put (cs := #[.bool false, .int .i64 0, .int .i64 0, .int .i64 0]) ?_ 0 _ rfl; (with_reducible repeat (first | refine blk_drewN ?_ _ | refine blk_drew ?_ | refine blk_alloc ?_ _)); exact BK220.out⟩, ⟨tb⟩⟩
                ·have H1 : (turnstilelaw24_HealthRuns.j4 kj29 l1 l2 x9_2 x10_2 (wrap64 ((ji33) + x14_29)) x13_2 true a0_0 a0_1 a0_2 a0_3 a0_4 t207 t208 t209 t210) = some r := by rw [if_neg (show ¬ (some q223).isNone = true by simp)] at H; exact H
                 clear H
                 have H := H1
                 clear H1
                 try simp only [errW_none, errW_some]
                 have H' := Aside0.mk H
                 clear H
                 go_wp2
                 go_meet
                 case rel => exact ⟨_, (true), (by first | rfl | (simp; done) | (simp [*]; done)), H', ⟨by have := HJ4.out; have := HK2.out; have := HJ26.out; have := HJ29.out; first | omega | exact Nat.le_refl _⟩, ⟨by (with_reducible repeat (first | refine blk_drewN ?_ _ | refine blk_drew ?_ | refine blk_alloc ?_ _)); refine blk_far ?_ NB192_220.out _; (with_reducible repeat (first | refine blk_drewN ?_ _ | refine blk_drew ?_ | refine blk_alloc ?_ _)); refine blk_far ?_ NB192_220.out _; (with_reducible repeat (first | refine blk_drewN ?_ _ | refine blk_drew ?_ | refine blk_alloc ?_ _)); refine blk_far ?_ NB192_220.out _; (with_reducible repeat (first | refine blk_drewN ?_ _ | refine blk_drew ?_ | refine blk_alloc ?_ _)); refine blk_far ?_ NB192_220.out _; (with_reducible repeat (first | refine blk_drewN ?_ _ | refine blk_drew ?_ | refine blk_alloc ?_ _)); exact BK192.out⟩, ⟨by (with_reducible repeat (first | refine blk_drewN ?_ _ | refine blk_drew ?_ | refine blk_alloc ?_ _)); refine blk_far ?_ NB198_220.out _; (with_reducible repeat (first | refine blk_drewN ?_ _ | refine blk_drew ?_ | refine blk_alloc ?_ _)); refine blk_far ?_ NB198_220.out _; (with_reducible repeat (first | refine blk_drewN ?_ _ | refine blk_drew ?_ | refine blk_alloc ?_ _)); refine blk_far ?_ NB198_220.out _; (with_reducible repeat (first | refine blk_drewN ?_ _ | refine blk_drew ?_ | refine blk_alloc ?_ _)); refine blk_far ?_ NB198_220.out _; (with_reducible repeat (first | refine blk_drewN ?_ _ | refine blk_drew ?_ | refine blk_alloc ?_ _)); exact BK198.out⟩, ⟨by (with_reducible repeat (first | refine blk_drewN ?_ _ | refine blk_drew ?_ | refine blk_alloc ?_ _)); refine blk_far ?_ NB212_220.out _; (with_reducible repeat (first | refine blk_drewN ?_ _ | refine blk_drew ?_ | refine blk_alloc ?_ _)); refine blk_far ?_ NB212_220.out _; (with_reducible repeat (first | refine blk_drewN ?_ _ | refine blk_drew ?_ | refine blk_alloc ?_ _)); refine blk_far ?_ NB212_220.out _; (with_reducible repeat (first | refine blk_drewN ?_ _ | refine blk_drew ?_ | refine blk_alloc ?_ _)); refine blk_far ?_ NB212_220.out _; (with_reducible repeat (first | refine blk_drewN ?_ _ | refine blk_drew ?_ | refine blk_alloc ?_ _)); exact BK212.out⟩, ⟨by (with_reducible repeat (first | refine blk_drewN ?_ _ | refine blk_drew ?_ | refine blk_alloc ?_ _)); refine blk_put (cs := #[.bool t215, .int .i64 t216, .int .i64 t217, .int .i64 0]) ?_ 3 _ rfl; (with_reducible repeat (first | refine blk_drewN ?_ _ | refine blk_drew ?_ | refine blk_alloc ?_ _)); refine blk_put (cs := #[.bool t215, .int .i64 t216, .int .i64 0, .int .i64 0]) ?_ 2 _ rfl; (with_reducible repeat (first | refine blk_drewN ?_ _ | refine blk_drew ?_ | refine blk_alloc ?_ _)); refine blk_put (cs := #[.bool t215, .int .i64 0, .int .i64 0, .int .i64 0]) ?_ 1 _ rfl; (with_reducible repeat (first | refine blk_drewN ?_ _ | refine blk_drew ?_ | refine blk_alloc ?_ _)); refine blk_put (cs := #[.bool false, .int .i64 0, .int .i64 0, .int .i64 0]) ?_ 0 _ rfl; (with_reducible repeat (first | refine blk_drewN ?_ _ | refine blk_drew ?_ | refine blk_alloc ?_ _)); exact BK220.out⟩, ⟨tb⟩⟩
              ·have H1 : (turnstilelaw24_HealthRuns.j4 kj29 l1 l2 x9_2 x10_2 (wrap64 ((ji33) + x14_29)) x13_2 true a0_0 a0_1 a0_2 a0_3 a0_4 t207 t208 t209 t210) = some r := by rw [if_neg (show ¬ (some q222).isNone = true by simp)] at H; exact H
               clear H
               have H := H1
               clear H1
               try simp only [errW_none, errW_some]
               have H' := Aside0.mk H
               clear H
               go_wp2
               go_meet
               case rel => exact ⟨_, (true), (by first | rfl | (simp; done) | (simp [*]; done)), H', ⟨by have := HJ4.out; have := HK2.out; have := HJ26.out; have := HJ29.out; first | omega | exact Nat.le_refl _⟩, ⟨by (with_reducible repeat (first | refine blk_drewN ?_ _ | refine blk_drew ?_ | refine blk_alloc ?_ _)); refine blk_far ?_ NB192_220.out _; (with_reducible repeat (first | refine blk_drewN ?_ _ | refine blk_drew ?_ | refine blk_alloc ?_ _)); refine blk_far ?_ NB192_220.out _; (with_reducible repeat (first | refine blk_drewN ?_ _ | refine blk_drew ?_ | refine blk_alloc ?_ _)); refine blk_far ?_ NB192_220.out _; (with_reducible repeat (first | refine blk_drewN ?_ _ | refine blk_drew ?_ | refine blk_alloc ?_ _)); refine blk_far ?_ NB192_220.out _; (with_reducible repeat (first | refine blk_drewN ?_ _ | refine blk_drew ?_ | refine blk_alloc ?_ _)); exact BK192.out⟩, ⟨by (with_reducible repeat (first | refine blk_drewN ?_ _ | refine blk_drew ?_ | refine blk_alloc ?_ _)); refine blk_far ?_ NB198_220.out _; (with_reducible repeat (first | refine blk_drewN ?_ _ | refine blk_drew ?_ | refine blk_alloc ?_ _)); refine blk_far ?_ NB198_220.out _; (with_reducible repeat (first | refine blk_drewN ?_ _ | refine blk_drew ?_ | refine blk_alloc ?_ _)); refine blk_far ?_ NB198_220.out _; (with_reducible repeat (first | refine blk_drewN ?_ _ | refine blk_drew ?_ | refine blk_alloc ?_ _)); refine blk_far ?_ NB198_220.out _; (with_reducible repeat (first | refine blk_drewN ?_ _ | refine blk_drew ?_ | refine blk_alloc ?_ _)); exact BK198.out⟩, ⟨by (with_reducible repeat (first | refine blk_drewN ?_ _ | refine blk_drew ?_ | refine blk_alloc ?_ _)); refine blk_far ?_ NB212_220.out _; (with_reducible repeat (first | refine blk_drewN ?_ _ | refine blk_drew ?_ | refine blk_alloc ?_ _)); refine blk_far ?_ NB212_220.out _; (with_reducible repeat (first | refine blk_drewN ?_ _ | refine blk_drew ?_ | refine blk_alloc ?_ _)); refine blk_far ?_ NB212_220.out _; (with_reducible repeat (first | refine blk_drewN ?_ _ | refine blk_drew ?_ | refine blk_alloc ?_ _)); refine blk_far ?_ NB212_220.out _; (with_reducible repeat (first | refine blk_drewN ?_ _ | refine blk_drew ?_ | refine blk_alloc ?_ _)); exact BK212.out⟩, ⟨by (with_reducible repeat (first | refine blk_drewN ?_ _ | refine blk_drew ?_ | refine blk_alloc ?_ _)); refine blk_put (cs := #[.bool t215, .int .i64 t216, .int .i64 t217, .int .i64 0]) ?_ 3 _ rfl; (with_reducible repeat (first | refine blk_drewN ?_ _ | refine blk_drew ?_ | refine blk_alloc ?_ _)); refine blk_put (cs := #[.bool t215, .int .i64 t216, .int .i64 0, .int .i64 0]) ?_ 2 _ rfl; (with_reducible repeat (first | refine blk_drewN ?_ _ | refine blk_drew ?_ | refine blk_alloc ?_ _)); refine blk_put (cs := #[.bool t215, .int .i64 0, .int .i64 0, .int .i64 0]) ?_ 1 _ rfl; (with_reducible repeat (first | refine blk_drewN ?_ _ | refine blk_drew ?_ | refine blk_alloc ?_ _)); refine blk_put (cs := #[.bool false, .int .i64 0, .int .i64 0, .int .i64 0]) ?_ 0 _ rfl; (with_reducible repeat (first | refine blk_drewN ?_ _ | refine blk_drew ?_ | refine blk_alloc ?_ _)); exact BK220.out⟩, ⟨tb⟩⟩
             ·have H1 : (turnstilelaw24_HealthRuns.j4 kj29 l1 l2 x9_2 x10_2 (wrap64 ((ji33) + x14_29)) x13_2 true a0_0 a0_1 a0_2 a0_3 a0_4 t207 t208 t209 t210) = some r := by rw [if_neg (show ¬ (some q221).isNone = true by simp)] at H; exact H
              clear H
              have H := H1
              clear H1
              try simp only [errW_none, errW_some]
              have H' := Aside0.mk H
              clear H
              go_wp2
              go_meet
              case rel => exact ⟨_, (true), (by first | rfl | (simp; done) | (simp [*]; done)), H', ⟨by have := HJ4.out; have := HK2.out; have := HJ26.out; have := HJ29.out; first | omega | exact Nat.le_refl _⟩, ⟨by (with_reducible repeat (first | refine blk_drewN ?_ _ | refine blk_drew ?_ | refine blk_alloc ?_ _)); refine blk_far ?_ NB192_220.out _; (with_reducible repeat (first | refine blk_drewN ?_ _ | refine blk_drew ?_ | refine blk_alloc ?_ _)); refine blk_far ?_ NB192_220.out _; (with_reducible repeat (first | refine blk_drewN ?_ _ | refine blk_drew ?_ | refine blk_alloc ?_ _)); refine blk_far ?_ NB192_220.out _; (with_reducible repeat (first | refine blk_drewN ?_ _ | refine blk_drew ?_ | refine blk_alloc ?_ _)); refine blk_far ?_ NB192_220.out _; (with_reducible repeat (first | refine blk_drewN ?_ _ | refine blk_drew ?_ | refine blk_alloc ?_ _)); exact BK192.out⟩, ⟨by (with_reducible repeat (first | refine blk_drewN ?_ _ | refine blk_drew ?_ | refine blk_alloc ?_ _)); refine blk_far ?_ NB198_220.out _; (with_reducible repeat (first | refine blk_drewN ?_ _ | refine blk_drew ?_ | refine blk_alloc ?_ _)); refine blk_far ?_ NB198_220.out _; (with_reducible repeat (first | refine blk_drewN ?_ _ | refine blk_drew ?_ | refine blk_alloc ?_ _)); refine blk_far ?_ NB198_220.out _; (with_reducible repeat (first | refine blk_drewN ?_ _ | refine blk_drew ?_ | refine blk_alloc ?_ _)); refine blk_far ?_ NB198_220.out _; (with_reducible repeat (first | refine blk_drewN ?_ _ | refine blk_drew ?_ | refine blk_alloc ?_ _)); exact BK198.out⟩, ⟨by (with_reducible repeat (first | refine blk_drewN ?_ _ | refine blk_drew ?_ | refine blk_alloc ?_ _)); refine blk_far ?_ NB212_220.out _; (with_reducible repeat (first | refine blk_drewN ?_ _ | refine blk_drew ?_ | refine blk_alloc ?_ _)); refine blk_far ?_ NB212_220.out _; (with_reducible repeat (first | refine blk_drewN ?_ _ | refine blk_drew ?_ | refine blk_alloc ?_ _)); refine blk_far ?_ NB212_220.out _; (with_reducible repeat (first | refine blk_drewN ?_ _ | refine blk_drew ?_ | refine blk_alloc ?_ _)); refine blk_far ?_ NB212_220.out _; (with_reducible repeat (first | refine blk_drewN ?_ _ | refine blk_drew ?_ | refine blk_alloc ?_ _)); exact BK212.out⟩, ⟨by (with_reducible repeat (first | refine blk_drewN ?_ _ | refine blk_drew ?_ | refine blk_alloc ?_ _)); refine blk_put (cs := #[.bool t215, .int .i64 t216, .int .i64 t217, .int .i64 0]) ?_ 3 _ rfl; (with_reducible repeat (first | refine blk_drewN ?_ _ | refine blk_drew ?_ | refine blk_alloc ?_ _)); refine blk_put (cs := #[.bool t215, .int .i64 t216, .int .i64 0, .int .i64 0]) ?_ 2 _ rfl; (with_reducible repeat (first | refine blk_drewN ?_ _ | refine blk_drew ?_ | refine blk_alloc ?_ _)); refine blk_put (cs := #[.bool t215, .int .i64 0, .int .i64 0, .int .i64 0]) ?_ 1 _ rfl; (with_reducible repeat (first | refine blk_drewN ?_ _ | refine blk_drew ?_ | refine blk_alloc ?_ _)); refine blk_put (cs := #[.bool false, .int .i64 0, .int .i64 0, .int .i64 0]) ?_ 0 _ rfl; (with_reducible repeat (first | refine blk_drewN ?_ _ | refine blk_drew ?_ | refine blk_alloc ?_ _)); exact BK220.out⟩, ⟨tb⟩⟩
            ·replace c60 := Bool.eq_false_iff.mpr c60
             subst c60
             have H1 : (turnstilelaw24_HealthRuns.j4 kj29 l1 l2 x9_2 x10_2 (wrap64 ((ji33) + x14_29)) x13_2 true a0_0 a0_1 a0_2 a0_3 a0_4 t207 t208 t209 t210) = some r := by rw [if_neg (show ¬ (false = true) by decide)] at H; exact H
             clear H
             have H := H1
             clear H1
             have H' := Aside0.mk H
             clear H
             go_wp2
             go_meet
             case rel => exact ⟨_, (true), (by first | rfl | (simp; done) | (simp [*]; done)), H', ⟨by have := HJ4.out; have := HK2.out; have := HJ26.out; have := HJ29.out; first | omega | exact Nat.le_refl _⟩, ⟨by (with_reducible repeat (first | refine blk_drewN ?_ _ | refine blk_drew ?_ | refine blk_alloc ?_ _)); refine blk_far ?_ NB192_220.out _; (with_reducible repeat (first | refine blk_drewN ?_ _ | refine blk_drew ?_ | refine blk_alloc ?_ _)); refine blk_far ?_ NB192_220.out _; (with_reducible repeat (first | refine blk_drewN ?_ _ | refine blk_drew ?_ | refine blk_alloc ?_ _)); refine blk_far ?_ NB192_220.out _; (with_reducible repeat (first | refine blk_drewN ?_ _ | refine blk_drew ?_ | refine blk_alloc ?_ _)); refine blk_far ?_ NB192_220.out _; (with_reducible repeat (first | refine blk_drewN ?_ _ | refine blk_drew ?_ | refine blk_alloc ?_ _)); exact BK192.out⟩, ⟨by (with_reducible repeat (first | refine blk_drewN ?_ _ | refine blk_drew ?_ | refine blk_alloc ?_ _)); refine blk_far ?_ NB198_220.out _; (with_reducible repeat (first | refine blk_drewN ?_ _ | refine blk_drew ?_ | refine blk_alloc ?_ _)); refine blk_far ?_ NB198_220.out _; (with_reducible repeat (first | refine blk_drewN ?_ _ | refine blk_drew ?_ | refine blk_alloc ?_ _)); refine blk_far ?_ NB198_220.out _; (with_reducible repeat (first | refine blk_drewN ?_ _ | refine blk_drew ?_ | refine blk_alloc ?_ _)); refine blk_far ?_ NB198_220.out _; (with_reducible repeat (first | refine blk_drewN ?_ _ | refine blk_drew ?_ | refine blk_alloc ?_ _)); exact BK198.out⟩, ⟨by (with_reducible repeat (first | refine blk_drewN ?_ _ | refine blk_drew ?_ | refine blk_alloc ?_ _)); refine blk_far ?_ NB212_220.out _; (with_reducible repeat (first | refine blk_drewN ?_ _ | refine blk_drew ?_ | refine blk_alloc ?_ _)); refine blk_far ?_ NB212_220.out _; (with_reducible repeat (first | refine blk_drewN ?_ _ | refine blk_drew ?_ | refine blk_alloc ?_ _)); refine blk_far ?_ NB212_220.out _; (with_reducible repeat (first | refine blk_drewN ?_ _ | refine blk_drew ?_ | refine blk_alloc ?_ _)); refine blk_far ?_ NB212_220.out _; (with_reducible repeat (first | refine blk_drewN ?_ _ | refine blk_drew ?_ | refine blk_alloc ?_ _)); exact BK212.out⟩, ⟨by (with_reducible repeat (first | refine blk_drewN ?_ _ | refine blk_drew ?_ | refine blk_alloc ?_ _)); refine blk_put (cs := #[.bool t215, .int .i64 t216, .int .i64 t217, .int .i64 0]) ?_ 3 _ rfl; (with_reducible repeat (first | refine blk_drewN ?_ _ | refine blk_drew ?_ | refine blk_alloc ?_ _)); refine blk_put (cs := #[.bool t215, .int .i64 t216, .int .i64 0, .int .i64 0]) ?_ 2 _ rfl; (with_reducible repeat (first | refine blk_drewN ?_ _ | refine blk_drew ?_ | refine blk_alloc ?_ _)); refine blk_put (cs := #[.bool t215, .int .i64 0, .int .i64 0, .int .i64 0]) ?_ 1 _ rfl; (with_reducible repeat (first | refine blk_drewN ?_ _ | refine blk_drew ?_ | refine blk_alloc ?_ _)); refine blk_put (cs := #[.bool false, .int .i64 0, .int .i64 0, .int .i64 0]) ?_ 0 _ rfl; (with_reducible repeat (first | refine blk_drewN ?_ _ | refine blk_drew ?_ | refine blk_alloc ?_ _)); exact BK220.out⟩, ⟨tb⟩⟩
           case rest =>
            as_aux_lemma =>
            clear HC38
            (try clear c1); (try clear q1); (try clear c2); (try clear p2); (try clear q2); (try clear hx2); (try clear c3); (try clear c4); (try clear c5); (try clear c6); (try clear p6); (try clear c7); (try clear c8); (try clear c10); (try clear c12); (try clear c12b0); (try clear c12b1); (try clear c13); (try clear c15); (try clear c17); (try clear q19); (try clear c20); (try clear c20b0); (try clear c20b1); (try clear p20); (try clear q20); (try clear hx20); (try clear c22); (try clear q22); (try clear c25); (try clear c28); (try clear c28b0); (try clear c29); (try clear c31); (try clear c31b0); (try clear c32); (try clear c32b0); (try clear c39); (try clear c47); (try clear c48); (try clear c56); (try clear c57); (try clear c58); (try clear c60); (try clear c61); (try clear c63); (try clear c63b0); (try clear c63b1); (try clear c64); (try clear c64b0); (try clear p64); (try clear c65); (try clear c65b0); (try clear c66); (try clear c67); (try clear c68); (try clear c70); (try clear c71); (try clear c72); (try clear c74); (try clear c75); (try clear c77); (try clear c78); (try clear c79); (try clear hcz11_0); (try clear hcz11_1); (try clear hcz11_2); (try clear hcz11_3); (try clear hcz14_0); (try clear hcz14_1); (try clear hcz14_2); (try clear hcz14_3); (try clear hcz14_4); (try clear hcz16_0); (try clear hcz16_1); (try clear hcz16_2); (try clear hcz16_3); (try clear hcz16_4); (try clear hcz23_0); (try clear hcz23_1); (try clear hcz23_2); (try clear hcz23_3); (try clear hcz26_0); (try clear hcz26_1); (try clear hcz26_2); (try clear hcz26_3); (try clear hcz40_0); (try clear hcz40_1); (try clear hcz40_2); (try clear hcz40_3); (try clear hcz41_0); (try clear hcz41_1); (try clear hcz41_2); (try clear hcz41_3); (try clear hcz41_4); (try clear hcz43_0); (try clear hcz43_1); (try clear hcz43_2); (try clear hcz43_3); (try clear hcz44_0); (try clear hcz44_1); (try clear hcz44_2); (try clear hcz44_3); (try clear hcz44_4); (try clear hcz49_0); (try clear hcz49_1); (try clear hcz49_2); (try clear hcz49_3); (try clear hcz50_0); (try clear hcz50_1); (try clear hcz50_2); (try clear hcz50_3); (try clear hcz50_4); (try clear hcz52_0); (try clear hcz52_1); (try clear hcz52_2); (try clear hcz52_3); (try clear hcz53_0); (try clear hcz53_1); (try clear hcz53_2); (try clear hcz53_3); (try clear hcz53_4); (try clear hcz59_0); (try clear hcz59_1); (try clear hcz59_2); (try clear hcz59_3); (try clear hcz69_0); (try clear hcz69_1); (try clear hcz69_2); (try clear hcz69_3); (try clear hcz69_4); (try clear hcz73_0); (try clear hcz73_1); (try clear hcz73_2); (try clear hcz73_3); (try clear hcz73_4); (try clear hcz76_0); (try clear hcz76_1); (try clear hcz76_2); (try clear hcz76_3); (try clear hcz7_0); (try clear hcz7_1); (try clear hcz7_2); (try clear hcz7_3); (try clear hcz7_4); (try clear hcz80_0); (try clear hcz80_1); (try clear hcz80_2); (try clear hcz80_3); (try clear hfz11_0); (try clear hfz11_1); (try clear hfz11_2); (try clear hfz11_3); (try clear hfz14_0); (try clear hfz14_1); (try clear hfz14_2); (try clear hfz14_3); (try clear hfz14_4); (try clear hfz16_0); (try clear hfz16_1); (try clear hfz16_2); (try clear hfz16_3); (try clear hfz16_4); (try clear hfz23_0); (try clear hfz23_1); (try clear hfz23_2); (try clear hfz23_3); (try clear hfz26_0); (try clear hfz26_1); (try clear hfz26_2); (try clear hfz26_3); (try clear hfz40_0); (try clear hfz40_1); (try clear hfz40_2); (try clear hfz40_3); (try clear hfz41_0); (try clear hfz41_1); (try clear hfz41_2); (try clear hfz41_3); (try clear hfz41_4); (try clear hfz43_0); (try clear hfz43_1); (try clear hfz43_2); (try clear hfz43_3); (try clear hfz44_0); (try clear hfz44_1); (try clear hfz44_2); (try clear hfz44_3); (try clear hfz44_4); (try clear hfz49_0); (try clear hfz49_1); (try clear hfz49_2); (try clear hfz49_3); (try clear hfz50_0); (try clear hfz50_1); (try clear hfz50_2); (try clear hfz50_3); (try clear hfz50_4); (try clear hfz52_0); (try clear hfz52_1); (try clear hfz52_2); (try clear hfz52_3); (try clear hfz53_0); (try clear hfz53_1); (try clear hfz53_2); (try clear hfz53_3); (try clear hfz53_4); (try clear hfz59_0); (try clear hfz59_1); (try clear hfz59_2); (try clear hfz59_3); (try clear hfz69_0); (try clear hfz69_1); (try clear hfz69_2); (try clear hfz69_3); (try clear hfz69_4); (try clear hfz73_0); (try clear hfz73_1); (try clear hfz73_2); (try clear hfz73_3); (try clear hfz73_4); (try clear hfz76_0); (try clear hfz76_1); (try clear hfz76_2); (try clear hfz76_3); (try clear hfz7_0); (try clear hfz7_1); (try clear hfz7_2); (try clear hfz7_3); (try clear hfz7_4); (try clear hfz80_0); (try clear hfz80_1); (try clear hfz80_2); (try clear hfz80_3); (try clear hx204_0); (try clear p2); (try clear p20); (try clear p204); (try clear p6); (try clear q1); (try clear q19); (try clear q199); (try clear q2); (try clear q20); (try clear q200); (try clear q204); (try clear q221); (try clear q222); (try clear q223)
            obtain ⟨kq, x146_37, rfl, HA, HJ37, BK192, BK198, BK212, BK220, HB⟩ := hcut
            cases kq with
            | zero => exact absurd HA.out (by simp [turnstilelaw24_HealthRuns.j4])
            | succ kj37 =>
             have H := HA.out
             clear HA
             simp only [turnstilelaw24_HealthRuns.j4] at H
             by_cases c81 : x146_37 = true
             ·subst c81
              have H1 : (some false) = some r := by rw [if_pos rfl] at H; exact H
              clear H
              have H := H1
              clear H1
              obtain rfl := Option.some.inj H
              go_wp2
              go_ret
              exact ⟨by first | rfl | (simp [errW_none, errW_some] <;> rfl) | (simp only [← hji33]; first | rfl | (simp [errW_none, errW_some] <;> rfl)) | (simp [*, errW_none, errW_some] <;> rfl), tb⟩
             ·replace c81 := Bool.eq_false_iff.mpr c81
              subst c81
              have H1 : (if 0 ≤ x13_2 then (if x13_2 < (l1.length : Int) then ((health_Said.f kj37 t207 t208 t209 t210 a0_0 a0_1 a0_2 a0_3 a0_4 (rdOf false l1 x13_2) (wrap64 ((ji33) + x14_29))).bind fun bt226 => (if bt226.2.2.2.2.isNone = true then (if ((rdOf false l1 x13_2) == x9_2) = true then (turnstilelaw24_HealthRuns.j5 kj37 l1 l2 x9_2 0 (wrap64 ((ji33) + x14_29)) (wrap64 ((ji33) + x14_29)) x13_2 a0_0 a0_1 a0_2 a0_3 a0_4 bt226.1 bt226.2.1 bt226.2.2.1 bt226.2.2.2.1) else (turnstilelaw24_HealthRuns.j5 kj37 l1 l2 x9_2 (wrap64 (x10_2 + 1)) (wrap64 ((ji33) + x14_29)) (wrap64 ((ji33) + x14_29)) x13_2 a0_0 a0_1 a0_2 a0_3 a0_4 bt226.1 bt226.2.1 bt226.2.2.1 bt226.2.2.2.1)) else (some false))) else (none)) else (none)) = some r := by rw [if_neg (show ¬ (false = true) by decide)] at H; exact H
              clear H
              have H := H1
              clear H1
              by_cases c82 : 0 ≤ x13_2
              ·rw [if_pos c82] at H
               have c82b0 : decide (0 ≤ x13_2) = true := decide_eq_true c82
               clear c82
               by_cases c83 : x13_2 < (l1.length : Int)
               ·rw [if_pos c83] at H
                have c83b0 : decide (x13_2 < (l1.length : Int)) = true := decide_eq_true c83
                clear c83
                replace H := Option.bind_eq_some_iff.mp H
                obtain ⟨⟨t226, t227, t228, t229, t230⟩, A840, H⟩ := H
                replace H : (if t230.isNone = true then (if ((rdOf false l1 x13_2) == x9_2) = true then (turnstilelaw24_HealthRuns.j5 kj37 l1 l2 x9_2 0 (wrap64 ((ji33) + x14_29)) (wrap64 ((ji33) + x14_29)) x13_2 a0_0 a0_1 a0_2 a0_3 a0_4 t226 t227 t228 t229) else (turnstilelaw24_HealthRuns.j5 kj37 l1 l2 x9_2 (wrap64 (x10_2 + 1)) (wrap64 ((ji33) + x14_29)) (wrap64 ((ji33) + x14_29)) x13_2 a0_0 a0_1 a0_2 a0_3 a0_4 t226 t227 t228 t229)) else (some false)) = some r := H
                have A84 := Aside0.mk A840
                clear A840
                rcases t230 with _ | q232
                ·have H1 : (if ((rdOf false l1 x13_2) == x9_2) = true then (turnstilelaw24_HealthRuns.j5 kj37 l1 l2 x9_2 0 (wrap64 ((ji33) + x14_29)) (wrap64 ((ji33) + x14_29)) x13_2 a0_0 a0_1 a0_2 a0_3 a0_4 t226 t227 t228 t229) else (turnstilelaw24_HealthRuns.j5 kj37 l1 l2 x9_2 (wrap64 (x10_2 + 1)) (wrap64 ((ji33) + x14_29)) (wrap64 ((ji33) + x14_29)) x13_2 a0_0 a0_1 a0_2 a0_3 a0_4 t226 t227 t228 t229)) = some r := by rw [if_pos (show (none : Option Int).isNone = true by rfl)] at H; exact H
                 clear H
                 have H := H1
                 clear H1
                 try simp only [errW_none, errW_some]
                 have HC85 := Aside0.mk H
                 clear H
                 try go_wp2
                 have n0_ := Aside0.mk (blk_drew BK192.out)
                 have n1_ := Aside0.mk (blk_drew BK198.out)
                 have n2_ := Aside0.mk (blk_drew BK212.out)
                 have n3_ := Aside0.mk (blk_drew BK220.out)
                 have n4_ := Aside0.mk (below_drew1 HB.out)
                 clear BK192
                 clear BK198
                 clear BK212
                 clear BK220
                 clear HB
                 have BK192 := n0_
                 have BK198 := n1_
                 have BK212 := n2_
                 have BK220 := n3_
                 have HB := n4_
                 clear n0_ n1_ n2_ n3_ n4_
                 have p225 : 0 ≤ (x13_2 : Int) := of_decide_eq_true (by first | (with_reducible assumption) | assumption)
                 have q225 : x13_2 < (l1.length : Int) := of_decide_eq_true (by first | (with_reducible assumption) | assumption)
                 obtain ⟨ad225, e225, hx225_0⟩ := Kd.at_bool HR1.out x13_2 p225 q225
                 have hw225_0 := hx225_0
                 cases e225
                 replace hx225_0 := (HB.out.cell (World.block_lt_of_cell? w _ hx225_0)).trans hx225_0
                 replace p225 := eq_true p225
                 replace q225 := eq_true q225
                 refine start_ (n := 14) (S := fun w' => w'.cell? ⟨gb212, 0, none⟩ = some (.bool t207) ∧ w'.cell? ⟨gb212, 1, none⟩ = some (.int .i64 t208) ∧ w'.cell? ⟨gb212, 2, none⟩ = some (.int .i64 t209) ∧ w'.cell? ⟨gb212, 3, none⟩ = some (.int .i64 t210) ∧ w'.cell? ⟨gb192, 0, none⟩ = some (.string a0_0) ∧ w'.cell? ⟨gb192, 1, none⟩ = some (.int .i64 a0_1) ∧ w'.cell? ⟨gb192, 2, none⟩ = some (.int .i64 a0_2) ∧ w'.cell? ⟨gb192, 3, none⟩ = some (.int .i64 a0_3) ∧ w'.cell? ⟨gb192, 4, none⟩ = some (.int .i64 a0_4) ∧ w'.cell? (ad225.add (x13_2).toNat) = some (.bool (rdOf false l1 x13_2))) (ds := []) #[false, false, false, false, false, false, false, false, false, false, false, false, false, false] (by kernel_rfl) rfl rfl ⟨(blk_cell BK212.out 0).trans rfl, (blk_cell BK212.out 1).trans rfl, (blk_cell BK212.out 2).trans rfl, (blk_cell BK212.out 3).trans rfl, (blk_cell BK192.out 0).trans rfl, (blk_cell BK192.out 1).trans rfl, (blk_cell BK192.out 2).trans rfl, (blk_cell BK192.out 3).trans rfl, (blk_cell BK192.out 4).trans rfl, ((HB.out.cell (World.block_lt_of_cell? w _ hw225_0)).trans hw225_0)⟩ (fun hHeld => ?_); refine with_tabW turnstilelaw24_HealthRuns.tab19 turnstilelaw24_HealthRuns.bits19 (fun HT_ HW_ => ?_)
                 generalize wc.drew = w86 at BK192 BK198 BK212 BK220 HB hx225_0 hHeld ⊢
                 refine pure_ (i := 2) (N := some 151) (v := ?_) (a' := ?_) #[false, false, true, false, false, false, false, false, false, false, false, false, false, false] rfl rfl (any_of HT_.out (by kernel_rfl)) (fun _ _ _ h => h) (Or.inl ⟨by rfl, ?_⟩) ?_ ?_
                 rotate_left
                 ·intro w'
                  go_simp
                  with_reducible rfl
                 rotate_left
                 ·simp only [Act.put, List.setIfInBounds_toArray, List.set_cons_zero, List.set_cons_succ, i64_w, i32_w]
                  rfl
                 refine pure_ (i := 3) (N := some 152) (v := ?_) (a' := ?_) #[false, false, true, true, false, false, false, false, false, false, false, false, false, false] rfl rfl (any_of HT_.out (by kernel_rfl)) (fun _ _ _ h => h) (Or.inl ⟨by rfl, ?_⟩) ?_ ?_
                 rotate_left
                 ·intro w'
                  go_simp
                  with_reducible rfl
                 rotate_left
                 ·simp only [Act.put, List.setIfInBounds_toArray, List.set_cons_zero, List.set_cons_succ, i64_w, i32_w]
                  rfl
                 refine pure_ (i := 4) (N := some 153) (v := ?_) (a' := ?_) #[false, false, true, true, true, false, false, false, false, false, false, false, false, false] rfl rfl (any_of HT_.out (by kernel_rfl)) (fun _ _ _ h => h) (Or.inl ⟨by rfl, ?_⟩) ?_ ?_
                 rotate_left
                 ·intro w'
                  go_simp
                  with_reducible rfl
                 rotate_left
                 ·simp only [Act.put, List.setIfInBounds_toArray, List.set_cons_zero, List.set_cons_succ, i64_w, i32_w]
                  rfl
                 refine pure_ (i := 6) (N := some 155) (v := ?_) (a' := ?_) #[false, false, true, true, true, false, true, false, false, false, false, false, false, false] rfl rfl (any_of HT_.out (by kernel_rfl)) (fun _ _ _ h => h) (Or.inl ⟨by rfl, ?_⟩) ?_ ?_
                 rotate_left
                 ·intro w'
                  go_simp
                  with_reducible rfl
                 rotate_left
                 ·simp only [Act.put, List.setIfInBounds_toArray, List.set_cons_zero, List.set_cons_succ, i64_w, i32_w]
                  rfl
                 refine take_ (i := 0) (N := some 149) (v := ?_) (a' := ?_) #[true, false, true, true, true, false, true, false, false, false, false, false, false, false] rfl rfl (take_ofW HT_.out HW_.out (by kernel_rfl)) (fun _ _ _ h => h) (Or.inl ⟨by rfl, ?_⟩) hHeld ?_ ?_
                 rotate_left
                 ·rintro w' ⟨s0, s1, s2, s3, s4, s5, s6, s7, s8, s9⟩
                  go_simp
                  with_reducible rfl
                 rotate_left
                 ·simp only [Act.put, List.setIfInBounds_toArray, List.set_cons_zero, List.set_cons_succ, i64_w, i32_w]
                  rfl
                 refine take_ (i := 1) (N := some 150) (v := ?_) (a' := ?_) #[true, true, true, true, true, false, true, false, false, false, false, false, false, false] rfl rfl (take_ofW HT_.out HW_.out (by kernel_rfl)) (fun _ _ _ h => h) (Or.inl ⟨by rfl, ?_⟩) hHeld ?_ ?_
                 rotate_left
                 ·rintro w' ⟨s0, s1, s2, s3, s4, s5, s6, s7, s8, s9⟩
                  go_simp
                  with_reducible rfl
                 rotate_left
                 ·simp only [Act.put, List.setIfInBounds_toArray, List.set_cons_zero, List.set_cons_succ, i64_w, i32_w]
                  rfl
                 refine take_ (i := 5) (N := some 154) (v := ?_) (a' := ?_) #[true, true, true, true, true, true, true, false, false, false, false, false, false, false] rfl rfl (take_ofW HT_.out HW_.out (by kernel_rfl)) (fun _ _ _ h => h) (Or.inl ⟨by rfl, ?_⟩) hHeld ?_ ?_
                 rotate_left
                 ·rintro w' ⟨s0, s1, s2, s3, s4, s5, s6, s7, s8, s9⟩
                  go_simp
                  with_reducible rfl
                 rotate_left
                 ·simp only [Act.put, List.setIfInBounds_toArray, List.set_cons_zero, List.set_cons_succ, i64_w, i32_w]
                  rfl
                 refine join_ (σ := Nat) 2 #[true, true, true, true, true, true, true, true, true, true, true, true, false, false] (fun s_ => [(156, .tuple #[.agg #[.bool t226, .int .i64 t227, .int .i64 t228, .int .i64 t229], errW none]), (23, .pointer (some ⟨s_, 0, none⟩)), (148, .tuple #[.agg #[.bool t226, .int .i64 t227, .int .i64 t228, .int .i64 t229], errW none]), (157, .agg #[.bool t226, .int .i64 t227, .int .i64 t228, .int .i64 t229]), (158, errW none)]) (fun s_ w' => (w'.cell? ⟨gb212, 0, none⟩ = some (.bool t207) ∧ w'.cell? ⟨gb212, 1, none⟩ = some (.int .i64 t208) ∧ w'.cell? ⟨gb212, 2, none⟩ = some (.int .i64 t209) ∧ w'.cell? ⟨gb212, 3, none⟩ = some (.int .i64 t210) ∧ w'.cell? ⟨gb192, 0, none⟩ = some (.string a0_0) ∧ w'.cell? ⟨gb192, 1, none⟩ = some (.int .i64 a0_1) ∧ w'.cell? ⟨gb192, 2, none⟩ = some (.int .i64 a0_2) ∧ w'.cell? ⟨gb192, 3, none⟩ = some (.int .i64 a0_3) ∧ w'.cell? ⟨gb192, 4, none⟩ = some (.int .i64 a0_4) ∧ w'.cell? (ad225.add (x13_2).toNat) = some (.bool (rdOf false l1 x13_2))) ∧ (w'.heap[gb192]? = some (.cells #[.string a0_0, .int .i64 a0_1, .int .i64 a0_2, .int .i64 a0_3, .int .i64 a0_4] 23 (0, 0))) ∧ (w'.heap[gb198]? = some (.cells #[.bool x199000_2, .int .i64 x199001_2, .int .i64 x199002_2, .int .i64 x199003_2] 27 (0, 0))) ∧ (w'.heap[gb212]? = some (.cells #[.bool t207, .int .i64 t208, .int .i64 t209, .int .i64 t210] 27 (0, 0))) ∧ (w'.heap[gb220]? = some (.cells #[.bool t215, .int .i64 t216, .int .i64 t217, .int .i64 t218] 27 (0, 0))) ∧ (w'.heap[s_]? = some (.cells #[.bool false, .int .i64 0, .int .i64 0, .int .i64 0] 27 (0, 0))) ∧ (w.heap.size ≤ s_) ∧ (w.heap.size ≤ s_) ∧ (gb192 ≠ s_) ∧ (s_ ≠ gb192) ∧ (gb198 ≠ s_) ∧ (s_ ≠ gb198) ∧ (gb212 ≠ s_) ∧ (s_ ≠ gb212) ∧ (gb220 ≠ s_) ∧ (s_ ≠ gb220) ∧ (Below w.heap.size w w')) ?_ ?_
                 rotate_left
                 ·intro hCont
                  refine two_ (i := 7) (j := 11) (Ni := some 156) (Nj := some 23) #[true, true, true, true, true, true, true, true, false, false, false, false, false, false] #[true, true, true, true, true, true, true, false, false, false, false, true, false, false] rfl rfl rfl rfl (two_of HT_.out (by kernel_rfl)) (by decide) (by decide) (fun K hK => ?_) (fun K hK => ?_)
                  ·skip
                   refine goes_ Tryd.func10 (by kernel_rfl) rfl #[.agg #[.bool t207, .int .i64 t208, .int .i64 t209, .int .i64 t210], .agg #[.string a0_0, .int .i64 a0_1, .int .i64 a0_2, .int .i64 a0_3, .int .i64 a0_4], .bool (rdOf false l1 x13_2), .int .i64 (wrap64 ((ji33) + x14_29))] (by rfl) rfl rfl (by (try simp only [List.map_toArray, List.map_cons, List.map_nil]); first | done | (simp only [hji33]; rfl) | rfl | (simp only [List.length_drop, List.length_take]; rfl)) ?_
                   with_reducible refine (health_Said.calls kj37 t207 t208 t209 t210 a0_0 a0_1 a0_2 a0_3 a0_4 (rdOf false l1 x13_2) (wrap64 ((ji33) + x14_29)) t226 t227 t228 t229 none _ ?side1 A84.out).mono ?_
                   (case side1 => first | exact hG | exact GInv.step hG tb)
                   rintro e w87 ⟨rfl, hb⟩
                   refine ⟨_, rfl, ?_⟩
                   have n0_ := Aside0.mk (blk_below (tk BK192.out) hb)
                   have n1_ := Aside0.mk (blk_below (tk BK198.out) hb)
                   have n2_ := Aside0.mk (blk_below (tk BK212.out) hb)
                   have n3_ := Aside0.mk (blk_below (tk BK220.out) hb)
                   have n4_ := Aside0.mk (below_step tb hb)
                   clear BK192
                   clear BK198
                   clear BK212
                   clear BK220
                   clear HB
                   have BK192 := n0_
                   have BK198 := n1_
                   have BK212 := n2_
                   have BK220 := n3_
                   have HB := n4_
                   clear n0_ n1_ n2_ n3_ n4_
                   (try clear hb)
                   (try clear hb2)
                   (try clear hk)
                   (try clear hi)
                   (try simp only [errW_none, errW_some])
                   refine hK.out _ _ ⟨(blk_cell BK212.out 0).trans rfl, (blk_cell BK212.out 1).trans rfl, (blk_cell BK212.out 2).trans rfl, (blk_cell BK212.out 3).trans rfl, (blk_cell BK192.out 0).trans rfl, (blk_cell BK192.out 1).trans rfl, (blk_cell BK192.out 2).trans rfl, (blk_cell BK192.out 3).trans rfl, (blk_cell BK192.out 4).trans rfl, ((HB.out.cell (World.block_lt_of_cell? w _ hw225_0)).trans hw225_0)⟩ (fun hHeld => ?_)
                   clear hK K
                   refine norm_ (a' := ?_) ?_ ?_
                   rotate_left
                   ·show Act.put _ (some 156) _ = _
                    simp only [Act.put, List.setIfInBounds_toArray, List.set_cons_zero, List.set_cons_succ, i64_w, i32_w]
                    rfl
                   refine pure_ (i := 8) (N := some 148) (v := ?_) (a' := ?_) #[true, true, true, true, true, true, true, true, true, false, false, false, false, false] rfl rfl (any_of HT_.out (by kernel_rfl)) (fun _ _ _ h => h) (Or.inl ⟨by rfl, ?_⟩) ?_ ?_
                   rotate_left
                   ·intro w'
                    go_simp
                    with_reducible rfl
                   rotate_left
                   ·simp only [Act.put, List.setIfInBounds_toArray, List.set_cons_zero, List.set_cons_succ, i64_w, i32_w]
                    rfl
                   refine pure_ (i := 9) (N := some 157) (v := ?_) (a' := ?_) #[true, true, true, true, true, true, true, true, true, true, false, false, false, false] rfl rfl (any_of HT_.out (by kernel_rfl)) (fun _ _ _ h => h) (Or.inl ⟨by rfl, ?_⟩) ?_ ?_
                   rotate_left
                   ·intro w'
                    go_simp
                    with_reducible rfl
                   rotate_left
                   ·simp only [Act.put, List.setIfInBounds_toArray, List.set_cons_zero, List.set_cons_succ, i64_w, i32_w]
                    rfl
                   refine pure_ (i := 10) (N := some 158) (v := ?_) (a' := ?_) #[true, true, true, true, true, true, true, true, true, true, true, false, false, false] rfl rfl (any_of HT_.out (by kernel_rfl)) (fun _ _ _ h => h) (Or.inl ⟨by rfl, ?_⟩) ?_ ?_
                   rotate_left
                   ·intro w'
                    go_simp
                    with_reducible rfl
                   rotate_left
                   ·simp only [Act.put, List.setIfInBounds_toArray, List.set_cons_zero, List.set_cons_succ, i64_w, i32_w]
                    rfl
                   refine one_ (i := 11) (N := some 23) #[true, true, true, true, true, true, true, true, true, true, true, true, false, false] rfl rfl (one_of HT_.out (by kernel_rfl)) (by decide) (fun K hK => ?_)
                   refine box_step ?hg (N := 23) ?hd (cs := #[.bool false, .int .i64 0, .int .i64 0, .int .i64 0]) (t := 27) ?hr ?_; (case hd => rfl); (case hg => rfl); (case hr => first | (go_simp; done) | (go_simp; rfl))
                   intro gb231 hg w88 hbox hb
                   have n0_ := Aside0.mk (blk_below (tk BK192.out) hb)
                   have n1_ := Aside0.mk (blk_below (tk BK198.out) hb)
                   have n2_ := Aside0.mk (blk_below (tk BK212.out) hb)
                   have n3_ := Aside0.mk (blk_below (tk BK220.out) hb)
                   have n4_ := Aside0.mk (below_step tb hb)
                   have n5_ := Aside0.mk (hbox)
                   have n6_ := Aside0.mk ((by rw [hg]; exact (below_size tb) : w.heap.size ≤ gb231))
                   have n7_ := Aside0.mk ((by rw [hg]; exact (below_size tb) : w.heap.size ≤ gb231))
                   have n8_ := Aside0.mk ((by rw [hg]; exact Nat.ne_of_lt (blk_lt (tk BK192.out)) : gb192 ≠ gb231))
                   have n9_ := Aside0.mk ((by rw [hg]; exact Nat.ne_of_gt (blk_lt (tk BK192.out)) : gb231 ≠ gb192))
                   have n10_ := Aside0.mk ((by rw [hg]; exact Nat.ne_of_lt (blk_lt (tk BK198.out)) : gb198 ≠ gb231))
                   have n11_ := Aside0.mk ((by rw [hg]; exact Nat.ne_of_gt (blk_lt (tk BK198.out)) : gb231 ≠ gb198))
                   have n12_ := Aside0.mk ((by rw [hg]; exact Nat.ne_of_lt (blk_lt (tk BK212.out)) : gb212 ≠ gb231))
                   have n13_ := Aside0.mk ((by rw [hg]; exact Nat.ne_of_gt (blk_lt (tk BK212.out)) : gb231 ≠ gb212))
                   have n14_ := Aside0.mk ((by rw [hg]; exact Nat.ne_of_lt (blk_lt (tk BK220.out)) : gb220 ≠ gb231))
                   have n15_ := Aside0.mk ((by rw [hg]; exact Nat.ne_of_gt (blk_lt (tk BK220.out)) : gb231 ≠ gb220))
                   clear BK192
                   clear BK198
                   clear BK212
                   clear BK220
                   clear HB
                   have BK192 := n0_
                   have BK198 := n1_
                   have BK212 := n2_
                   have BK220 := n3_
                   have HB := n4_
                   have BK231 := n5_
                   have GW231 := n6_
                   have GE231 := n7_
                   have NB192_231 := n8_
                   have NB231_192 := n9_
                   have NB198_231 := n10_
                   have NB231_198 := n11_
                   have NB212_231 := n12_
                   have NB231_212 := n13_
                   have NB220_231 := n14_
                   have NB231_220 := n15_
                   clear n0_ n1_ n2_ n3_ n4_ n5_ n6_ n7_ n8_ n9_ n10_ n11_ n12_ n13_ n14_ n15_
                   clear hb hbox hg
                   refine hK.out _ _ ⟨(blk_cell BK212.out 0).trans rfl, (blk_cell BK212.out 1).trans rfl, (blk_cell BK212.out 2).trans rfl, (blk_cell BK212.out 3).trans rfl, (blk_cell BK192.out 0).trans rfl, (blk_cell BK192.out 1).trans rfl, (blk_cell BK192.out 2).trans rfl, (blk_cell BK192.out 3).trans rfl, (blk_cell BK192.out 4).trans rfl, ((HB.out.cell (World.block_lt_of_cell? w _ hw225_0)).trans hw225_0)⟩ (fun hHeld => ?_)
                   clear hK K
                   refine norm_ (a' := ?_) ?_ ?_
                   rotate_left
                   ·show Act.put _ (some 23) _ = _
                    simp only [Act.put, List.setIfInBounds_toArray, List.set_cons_zero, List.set_cons_succ, i64_w, i32_w]
                    rfl
                   exact norm_ (by simp only [putAll, Act.put, List.setIfInBounds_toArray, List.set_cons_zero, List.set_cons_succ] <;> rfl) (hCont (gb231) _ ⟨hHeld, (tk BK192.out), (tk BK198.out), (tk BK212.out), (tk BK220.out), (tk BK231.out), GW231.out, GE231.out, NB192_231.out, NB231_192.out, NB198_231.out, NB231_198.out, NB212_231.out, NB231_212.out, NB220_231.out, NB231_220.out, tb⟩)
                  ·skip
                   refine box_step ?hg (N := 23) ?hd (cs := #[.bool false, .int .i64 0, .int .i64 0, .int .i64 0]) (t := 27) ?hr ?_; (case hd => rfl); (case hg => rfl); (case hr => first | (go_simp; done) | (go_simp; rfl))
                   intro gb231 hg w87 hbox hb
                   have n0_ := Aside0.mk (blk_below (tk BK192.out) hb)
                   have n1_ := Aside0.mk (blk_below (tk BK198.out) hb)
                   have n2_ := Aside0.mk (blk_below (tk BK212.out) hb)
                   have n3_ := Aside0.mk (blk_below (tk BK220.out) hb)
                   have n4_ := Aside0.mk (below_step tb hb)
                   have n5_ := Aside0.mk (hbox)
                   have n6_ := Aside0.mk ((by rw [hg]; exact (below_size tb) : w.heap.size ≤ gb231))
                   have n7_ := Aside0.mk ((by rw [hg]; exact (below_size tb) : w.heap.size ≤ gb231))
                   have n8_ := Aside0.mk ((by rw [hg]; exact Nat.ne_of_lt (blk_lt (tk BK192.out)) : gb192 ≠ gb231))
                   have n9_ := Aside0.mk ((by rw [hg]; exact Nat.ne_of_gt (blk_lt (tk BK192.out)) : gb231 ≠ gb192))
                   have n10_ := Aside0.mk ((by rw [hg]; exact Nat.ne_of_lt (blk_lt (tk BK198.out)) : gb198 ≠ gb231))
                   have n11_ := Aside0.mk ((by rw [hg]; exact Nat.ne_of_gt (blk_lt (tk BK198.out)) : gb231 ≠ gb198))
                   have n12_ := Aside0.mk ((by rw [hg]; exact Nat.ne_of_lt (blk_lt (tk BK212.out)) : gb212 ≠ gb231))
                   have n13_ := Aside0.mk ((by rw [hg]; exact Nat.ne_of_gt (blk_lt (tk BK212.out)) : gb231 ≠ gb212))
                   have n14_ := Aside0.mk ((by rw [hg]; exact Nat.ne_of_lt (blk_lt (tk BK220.out)) : gb220 ≠ gb231))
                   have n15_ := Aside0.mk ((by rw [hg]; exact Nat.ne_of_gt (blk_lt (tk BK220.out)) : gb231 ≠ gb220))
                   clear BK192
                   clear BK198
                   clear BK212
                   clear BK220
                   clear HB
                   have BK192 := n0_
                   have BK198 := n1_
                   have BK212 := n2_
                   have BK220 := n3_
                   have HB := n4_
                   have BK231 := n5_
                   have GW231 := n6_
                   have GE231 := n7_
                   have NB192_231 := n8_
                   have NB231_192 := n9_
                   have NB198_231 := n10_
                   have NB231_198 := n11_
                   have NB212_231 := n12_
                   have NB231_212 := n13_
                   have NB220_231 := n14_
                   have NB231_220 := n15_
                   clear n0_ n1_ n2_ n3_ n4_ n5_ n6_ n7_ n8_ n9_ n10_ n11_ n12_ n13_ n14_ n15_
                   clear hb hbox hg
                   refine hK.out _ _ ⟨(blk_cell BK212.out 0).trans rfl, (blk_cell BK212.out 1).trans rfl, (blk_cell BK212.out 2).trans rfl, (blk_cell BK212.out 3).trans rfl, (blk_cell BK192.out 0).trans rfl, (blk_cell BK192.out 1).trans rfl, (blk_cell BK192.out 2).trans rfl, (blk_cell BK192.out 3).trans rfl, (blk_cell BK192.out 4).trans rfl, ((HB.out.cell (World.block_lt_of_cell? w _ hw225_0)).trans hw225_0)⟩ (fun hHeld => ?_)
                   clear hK K
                   refine norm_ (a' := ?_) ?_ ?_
                   rotate_left
                   ·show Act.put _ (some 23) _ = _
                    simp only [Act.put, List.setIfInBounds_toArray, List.set_cons_zero, List.set_cons_succ, i64_w, i32_w]
                    rfl
                   refine one_ (i := 7) (N := some 156) #[true, true, true, true, true, true, true, true, false, false, false, true, false, false] rfl rfl (one_of HT_.out (by kernel_rfl)) (by decide) (fun K hK => ?_)
                   refine goes_ Tryd.func10 (by kernel_rfl) rfl #[.agg #[.bool t207, .int .i64 t208, .int .i64 t209, .int .i64 t210], .agg #[.string a0_0, .int .i64 a0_1, .int .i64 a0_2, .int .i64 a0_3, .int .i64 a0_4], .bool (rdOf false l1 x13_2), .int .i64 (wrap64 ((ji33) + x14_29))] (by rfl) rfl rfl (by (try simp only [List.map_toArray, List.map_cons, List.map_nil]); first | done | (simp only [hji33]; rfl) | rfl | (simp only [List.length_drop, List.length_take]; rfl)) ?_
                   with_reducible refine (health_Said.calls kj37 t207 t208 t209 t210 a0_0 a0_1 a0_2 a0_3 a0_4 (rdOf false l1 x13_2) (wrap64 ((ji33) + x14_29)) t226 t227 t228 t229 none _ ?side1 A84.out).mono ?_
                   (case side1 => first | exact hG | exact GInv.step hG tb)
                   rintro e w88 ⟨rfl, hb⟩
                   refine ⟨_, rfl, ?_⟩
                   have n0_ := Aside0.mk (blk_below (tk BK192.out) hb)
                   have n1_ := Aside0.mk (blk_below (tk BK198.out) hb)
                   have n2_ := Aside0.mk (blk_below (tk BK212.out) hb)
                   have n3_ := Aside0.mk (blk_below (tk BK220.out) hb)
                   have n4_ := Aside0.mk (blk_below (tk BK231.out) hb)
                   have n5_ := Aside0.mk (below_step tb hb)
                   clear BK192
                   clear BK198
                   clear BK212
                   clear BK220
                   clear BK231
                   clear HB
                   have BK192 := n0_
                   have BK198 := n1_
                   have BK212 := n2_
                   have BK220 := n3_
                   have BK231 := n4_
                   have HB := n5_
                   clear n0_ n1_ n2_ n3_ n4_ n5_
                   (try clear hb)
                   (try clear hb2)
                   (try clear hk)
                   (try clear hi)
                   (try simp only [errW_none, errW_some])
                   refine hK.out _ _ ⟨(blk_cell BK212.out 0).trans rfl, (blk_cell BK212.out 1).trans rfl, (blk_cell BK212.out 2).trans rfl, (blk_cell BK212.out 3).trans rfl, (blk_cell BK192.out 0).trans rfl, (blk_cell BK192.out 1).trans rfl, (blk_cell BK192.out 2).trans rfl, (blk_cell BK192.out 3).trans rfl, (blk_cell BK192.out 4).trans rfl, ((HB.out.cell (World.block_lt_of_cell? w _ hw225_0)).trans hw225_0)⟩ (fun hHeld => ?_)
                   clear hK K
                   refine norm_ (a' := ?_) ?_ ?_
                   rotate_left
                   ·show Act.put _ (some 156) _ = _
                    simp only [Act.put, List.setIfInBounds_toArray, List.set_cons_zero, List.set_cons_succ, i64_w, i32_w]
                    rfl
                   refine pure_ (i := 8) (N := some 148) (v := ?_) (a' := ?_) #[true, true, true, true, true, true, true, true, true, false, false, true, false, false] rfl rfl (any_of HT_.out (by kernel_rfl)) (fun _ _ _ h => h) (Or.inl ⟨by rfl, ?_⟩) ?_ ?_
                   rotate_left
                   ·intro w'
                    go_simp
                    with_reducible rfl
                   rotate_left
                   ·simp only [Act.put, List.setIfInBounds_toArray, List.set_cons_zero, List.set_cons_succ, i64_w, i32_w]
                    rfl
                   refine pure_ (i := 9) (N := some 157) (v := ?_) (a' := ?_) #[true, true, true, true, true, true, true, true, true, true, false, true, false, false] rfl rfl (any_of HT_.out (by kernel_rfl)) (fun _ _ _ h => h) (Or.inl ⟨by rfl, ?_⟩) ?_ ?_
                   rotate_left
                   ·intro w'
                    go_simp
                    with_reducible rfl
                   rotate_left
                   ·simp only [Act.put, List.setIfInBounds_toArray, List.set_cons_zero, List.set_cons_succ, i64_w, i32_w]
                    rfl
                   refine pure_ (i := 10) (N := some 158) (v := ?_) (a' := ?_) #[true, true, true, true, true, true, true, true, true, true, true, true, false, false] rfl rfl (any_of HT_.out (by kernel_rfl)) (fun _ _ _ h => h) (Or.inl ⟨by rfl, ?_⟩) ?_ ?_
                   rotate_left
                   ·intro w'
                    go_simp
                    with_reducible rfl
                   rotate_left
                   ·simp only [Act.put, List.setIfInBounds_toArray, List.set_cons_zero, List.set_cons_succ, i64_w, i32_w]
                    rfl
                   exact norm_ (by simp only [putAll, Act.put, List.setIfInBounds_toArray, List.set_cons_zero, List.set_cons_succ] <;> rfl) (hCont (gb231) _ ⟨hHeld, (tk BK192.out), (tk BK198.out), (tk BK212.out), (tk BK220.out), (tk BK231.out), GW231.out, GE231.out, NB192_231.out, NB231_192.out, NB198_231.out, NB231_198.out, NB212_231.out, NB231_212.out, NB220_231.out, NB231_220.out, tb⟩)
                 rintro gb231 w89 ⟨hS_, h0_, h1_, h2_, h3_, h4_, h5_, h6_, h7_, h8_, h9_, h10_, h11_, h12_, h13_, h14_, h15_⟩
                 have n0_ : Aside0 (w89.heap[gb192]? = some (.cells #[.string a0_0, .int .i64 a0_1, .int .i64 a0_2, .int .i64 a0_3, .int .i64 a0_4] 23 (0, 0))) := ⟨h0_⟩
                 have n1_ : Aside0 (w89.heap[gb198]? = some (.cells #[.bool x199000_2, .int .i64 x199001_2, .int .i64 x199002_2, .int .i64 x199003_2] 27 (0, 0))) := ⟨h1_⟩
                 have n2_ : Aside0 (w89.heap[gb212]? = some (.cells #[.bool t207, .int .i64 t208, .int .i64 t209, .int .i64 t210] 27 (0, 0))) := ⟨h2_⟩
                 have n3_ : Aside0 (w89.heap[gb220]? = some (.cells #[.bool t215, .int .i64 t216, .int .i64 t217, .int .i64 t218] 27 (0, 0))) := ⟨h3_⟩
                 have n4_ : Aside0 (w89.heap[gb231]? = some (.cells #[.bool false, .int .i64 0, .int .i64 0, .int .i64 0] 27 (0, 0))) := ⟨h4_⟩
                 have n5_ : Aside0 (w.heap.size ≤ gb231) := ⟨h5_⟩
                 have n6_ : Aside0 (w.heap.size ≤ gb231) := ⟨h6_⟩
                 have n7_ : Aside0 (gb192 ≠ gb231) := ⟨h7_⟩
                 have n8_ : Aside0 (gb231 ≠ gb192) := ⟨h8_⟩
                 have n9_ : Aside0 (gb198 ≠ gb231) := ⟨h9_⟩
                 have n10_ : Aside0 (gb231 ≠ gb198) := ⟨h10_⟩
                 have n11_ : Aside0 (gb212 ≠ gb231) := ⟨h11_⟩
                 have n12_ : Aside0 (gb231 ≠ gb212) := ⟨h12_⟩
                 have n13_ : Aside0 (gb220 ≠ gb231) := ⟨h13_⟩
                 have n14_ : Aside0 (gb231 ≠ gb220) := ⟨h14_⟩
                 have n15_ : Aside0 (Below w.heap.size w w89) := ⟨h15_⟩
                 clear BK192
                 clear BK198
                 clear BK212
                 clear BK220
                 clear HB
                 clear h0_ h1_ h2_ h3_ h4_ h5_ h6_ h7_ h8_ h9_ h10_ h11_ h12_ h13_ h14_ h15_
                 have BK192 := n0_
                 have BK198 := n1_
                 have BK212 := n2_
                 have BK220 := n3_
                 have BK231 := n4_
                 have GW231 := n5_
                 have GE231 := n6_
                 have NB192_231 := n7_
                 have NB231_192 := n8_
                 have NB198_231 := n9_
                 have NB231_198 := n10_
                 have NB212_231 := n11_
                 have NB231_212 := n12_
                 have NB220_231 := n13_
                 have NB231_220 := n14_
                 have HB := n15_
                 clear n0_ n1_ n2_ n3_ n4_ n5_ n6_ n7_ n8_ n9_ n10_ n11_ n12_ n13_ n14_ n15_
                 have hHeld : w89.cell? ⟨gb212, 0, none⟩ = some (.bool t207) ∧ w89.cell? ⟨gb212, 1, none⟩ = some (.int .i64 t208) ∧ w89.cell? ⟨gb212, 2, none⟩ = some (.int .i64 t209) ∧ w89.cell? ⟨gb212, 3, none⟩ = some (.int .i64 t210) ∧ w89.cell? ⟨gb192, 0, none⟩ = some (.string a0_0) ∧ w89.cell? ⟨gb192, 1, none⟩ = some (.int .i64 a0_1) ∧ w89.cell? ⟨gb192, 2, none⟩ = some (.int .i64 a0_2) ∧ w89.cell? ⟨gb192, 3, none⟩ = some (.int .i64 a0_3) ∧ w89.cell? ⟨gb192, 4, none⟩ = some (.int .i64 a0_4) ∧ w89.cell? (ad225.add (x13_2).toNat) = some (.bool (rdOf false l1 x13_2)) := hS_
                 refine norm_ (a' := ?_) ?_ ?_
                 rotate_left
                 ·simp only [putAll, Act.put, List.setIfInBounds_toArray, List.set_cons_zero, List.set_cons_succ]
                  rfl
                 refine one_ (i := 12) (N := none) #[true, true, true, true, true, true, true, true, true, true, true, true, true, false] rfl rfl (one_of HT_.out (by kernel_rfl)) (by decide) (fun K hK => ?_)
                 have hs90 : w89.cell? ⟨gb231, 0, none⟩ = some (.bool false) := (blk_cell BK231.out 0).trans rfl
                 have hfs90 := blk_frozen BK231.out 0
                 have hns90_0 := NB192_231.out
                 have hns90_1 := NB198_231.out
                 have hns90_2 := NB212_231.out
                 have hns90_3 := NB220_231.out
                 have hms90_0 := NB231_192.out
                 have hms90_1 := NB231_198.out
                 have hms90_2 := NB231_212.out
                 have hms90_3 := NB231_220.out
                 have hs91 : w89.cell? ⟨gb231, 1, none⟩ = some (.int .i64 0) := (blk_cell BK231.out 1).trans rfl
                 have hfs91 := blk_frozen BK231.out 1
                 have hns91_0 := NB192_231.out
                 have hns91_1 := NB198_231.out
                 have hns91_2 := NB212_231.out
                 have hns91_3 := NB220_231.out
                 have hms91_0 := NB231_192.out
                 have hms91_1 := NB231_198.out
                 have hms91_2 := NB231_212.out
                 have hms91_3 := NB231_220.out
                 have hs92 : w89.cell? ⟨gb231, 2, none⟩ = some (.int .i64 0) := (blk_cell BK231.out 2).trans rfl
                 have hfs92 := blk_frozen BK231.out 2
                 have hns92_0 := NB192_231.out
                 have hns92_1 := NB198_231.out
                 have hns92_2 := NB212_231.out
                 have hns92_3 := NB220_231.out
                 have hms92_0 := NB231_192.out
                 have hms92_1 := NB231_198.out
                 have hms92_2 := NB231_212.out
                 have hms92_3 := NB231_220.out
                 have hs93 : w89.cell? ⟨gb231, 3, none⟩ = some (.int .i64 0) := (blk_cell BK231.out 3).trans rfl
                 have hfs93 := blk_frozen BK231.out 3
                 have hns93_0 := NB192_231.out
                 have hns93_1 := NB198_231.out
                 have hns93_2 := NB212_231.out
                 have hns93_3 := NB220_231.out
                 have hms93_0 := NB231_192.out
                 have hms93_1 := NB231_198.out
                 have hms93_2 := NB231_212.out
                 have hms93_3 := NB231_220.out
                 refine skip_ (w1 := ?_) (by rfl) rfl ?_ ?_
                 rotate_left
                 ·go_simp
                  rfl
                 refine hK.out _ _ ⟨((cell_far (p := ⟨gb231, _, none⟩) NB212_231.out _).trans (((cell_far (p := ⟨gb231, _, none⟩) NB212_231.out _).trans (((cell_far (p := ⟨gb231, _, none⟩) NB212_231.out _).trans (((cell_far (p := ⟨gb231, _, none⟩) NB212_231.out _).trans (hHeld.1)))))))), ((cell_far (p := ⟨gb231, _, none⟩) NB212_231.out _).trans (((cell_far (p := ⟨gb231, _, none⟩) NB212_231.out _).trans (((cell_far (p := ⟨gb231, _, none⟩) NB212_231.out _).trans (((cell_far (p := ⟨gb231, _, none⟩) NB212_231.out _).trans (hHeld.2.1)))))))), ((cell_far (p := ⟨gb231, _, none⟩) NB212_231.out _).trans (((cell_far (p := ⟨gb231, _, none⟩) NB212_231.out _).trans (((cell_far (p := ⟨gb231, _, none⟩) NB212_231.out _).trans (((cell_far (p := ⟨gb231, _, none⟩) NB212_231.out _).trans (hHeld.2.2.1)))))))), ((cell_far (p := ⟨gb231, _, none⟩) NB212_231.out _).trans (((cell_far (p := ⟨gb231, _, none⟩) NB212_231.out _).trans (((cell_far (p := ⟨gb231, _, none⟩) NB212_231.out _).trans (((cell_far (p := ⟨gb231, _, none⟩) NB212_231.out _).trans (hHeld.2.2.2.1)))))))), ((cell_far (p := ⟨gb231, _, none⟩) NB192_231.out _).trans (((cell_far (p := ⟨gb231, _, none⟩) NB192_231.out _).trans (((cell_far (p := ⟨gb231, _, none⟩) NB192_231.out _).trans (((cell_far (p := ⟨gb231, _, none⟩) NB192_231.out _).trans (hHeld.2.2.2.2.1)))))))), ((cell_far (p := ⟨gb231, _, none⟩) NB192_231.out _).trans (((cell_far (p := ⟨gb231, _, none⟩) NB192_231.out _).trans (((cell_far (p := ⟨gb231, _, none⟩) NB192_231.out _).trans (((cell_far (p := ⟨gb231, _, none⟩) NB192_231.out _).trans (hHeld.2.2.2.2.2.1)))))))), ((cell_far (p := ⟨gb231, _, none⟩) NB192_231.out _).trans (((cell_far (p := ⟨gb231, _, none⟩) NB192_231.out _).trans (((cell_far (p := ⟨gb231, _, none⟩) NB192_231.out _).trans (((cell_far (p := ⟨gb231, _, none⟩) NB192_231.out _).trans (hHeld.2.2.2.2.2.2.1)))))))), ((cell_far (p := ⟨gb231, _, none⟩) NB192_231.out _).trans (((cell_far (p := ⟨gb231, _, none⟩) NB192_231.out _).trans (((cell_far (p := ⟨gb231, _, none⟩) NB192_231.out _).trans (((cell_far (p := ⟨gb231, _, none⟩) NB192_231.out _).trans (hHeld.2.2.2.2.2.2.2.1)))))))), ((cell_far (p := ⟨gb231, _, none⟩) NB192_231.out _).trans (((cell_far (p := ⟨gb231, _, none⟩) NB192_231.out _).trans (((cell_far (p := ⟨gb231, _, none⟩) NB192_231.out _).trans (((cell_far (p := ⟨gb231, _, none⟩) NB192_231.out _).trans (hHeld.2.2.2.2.2.2.2.2.1)))))))), ((cell_far (p := ⟨gb231, _, none⟩) (by first | exact Nat.ne_of_lt (Nat.lt_of_lt_of_le (by have := World.block_lt_of_cell? _ _ hw225_0; first | rwa [add_block] at this | exact this) GW231.out) | (rw [add_block]; exact Nat.ne_of_lt (Nat.lt_of_lt_of_le (by have := World.block_lt_of_cell? _ _ hw225_0; first | rwa [add_block] at this | exact this) GW231.out)) | (show (Addr.add _ _).block ≠ _; rw [add_block]; exact Nat.ne_of_lt (Nat.lt_of_lt_of_le (by have := World.block_lt_of_cell? _ _ hw225_0; first | rwa [add_block] at this | exact this) GW231.out)) | (dsimp only; exact Nat.ne_of_lt (Nat.lt_of_lt_of_le (by have := World.block_lt_of_cell? _ _ hw225_0; first | rwa [add_block] at this | exact this) GW231.out))) _).trans (((cell_far (p := ⟨gb231, _, none⟩) (by first | exact Nat.ne_of_lt (Nat.lt_of_lt_of_le (by have := World.block_lt_of_cell? _ _ hw225_0; first | rwa [add_block] at this | exact this) GW231.out) | (rw [add_block]; exact Nat.ne_of_lt (Nat.lt_of_lt_of_le (by have := World.block_lt_of_cell? _ _ hw225_0; first | rwa [add_block] at this | exact this) GW231.out)) | (show (Addr.add _ _).block ≠ _; rw [add_block]; exact Nat.ne_of_lt (Nat.lt_of_lt_of_le (by have := World.block_lt_of_cell? _ _ hw225_0; first | rwa [add_block] at this | exact this) GW231.out)) | (dsimp only; exact Nat.ne_of_lt (Nat.lt_of_lt_of_le (by have := World.block_lt_of_cell? _ _ hw225_0; first | rwa [add_block] at this | exact this) GW231.out))) _).trans (((cell_far (p := ⟨gb231, _, none⟩) (by first | exact Nat.ne_of_lt (Nat.lt_of_lt_of_le (by have := World.block_lt_of_cell? _ _ hw225_0; first | rwa [add_block] at this | exact this) GW231.out) | (rw [add_block]; exact Nat.ne_of_lt (Nat.lt_of_lt_of_le (by have := World.block_lt_of_cell? _ _ hw225_0; first | rwa [add_block] at this | exact this) GW231.out)) | (show (Addr.add _ _).block ≠ _; rw [add_block]; exact Nat.ne_of_lt (Nat.lt_of_lt_of_le (by have := World.block_lt_of_cell? _ _ hw225_0; first | rwa [add_block] at this | exact this) GW231.out)) | (dsimp only; exact Nat.ne_of_lt (Nat.lt_of_lt_of_le (by have := World.block_lt_of_cell? _ _ hw225_0; first | rwa [add_block] at this | exact this) GW231.out))) _).trans (((cell_far (p := ⟨gb231, _, none⟩) (by first | exact Nat.ne_of_lt (Nat.lt_of_lt_of_le (by have := World.block_lt_of_cell? _ _ hw225_0; first | rwa [add_block] at this | exact this) GW231.out) | (rw [add_block]; exact Nat.ne_of_lt (Nat.lt_of_lt_of_le (by have := World.block_lt_of_cell? _ _ hw225_0; first | rwa [add_block] at this | exact this) GW231.out)) | (show (Addr.add _ _).block ≠ _; rw [add_block]; exact Nat.ne_of_lt (Nat.lt_of_lt_of_le (by have := World.block_lt_of_cell? _ _ hw225_0; first | rwa [add_block] at this | exact this) GW231.out)) | (dsimp only; exact Nat.ne_of_lt (Nat.lt_of_lt_of_le (by have := World.block_lt_of_cell? _ _ hw225_0; first | rwa [add_block] at this | exact this) GW231.out))) _).trans (hHeld.2.2.2.2.2.2.2.2.2))))))))⟩ (fun hHeld => ?_)
                 clear hK K
                 refine pure_ (i := 13) (N := some 24) (v := ?_) (a' := ?_) #[true, true, true, true, true, true, true, true, true, true, true, true, true, true] rfl rfl (any_of HT_.out (by kernel_rfl)) (fun _ _ _ h => h) (Or.inl ⟨by rfl, ?_⟩) ?_ ?_
                 rotate_left
                 ·intro w'
                  go_simp
                  with_reducible rfl
                 rotate_left
                 ·simp only [Act.put, List.setIfInBounds_toArray, List.set_cons_zero, List.set_cons_succ, i64_w, i32_w]
                  rfl
                 refine done_ (done_of HT_.out (by kernel_rfl)) ?_
                 have p233 : 0 ≤ (x13_2 : Int) := of_decide_eq_true (by first | (with_reducible assumption) | assumption)
                 have q233 : x13_2 < (l1.length : Int) := of_decide_eq_true (by first | (with_reducible assumption) | assumption)
                 obtain ⟨ad233, e233, hx233_0⟩ := Kd.at_bool HR1.out x13_2 p233 q233
                 obtain rfl : ad225 = ad233 := (by injection e233)
                 have hn233_0 : ad225.block ≠ gb231 := Nat.ne_of_lt (Nat.lt_of_lt_of_le (by have := World.block_lt_of_cell? _ _ hx233_0; first | rwa [add_block] at this | exact this) GW231.out)
                 have hn233_1 : ad225.block ≠ gb231 := Nat.ne_of_lt (Nat.lt_of_lt_of_le (by have := World.block_lt_of_cell? _ _ hx233_0; first | rwa [add_block] at this | exact this) GW231.out)
                 have hn233_2 : ad225.block ≠ gb231 := Nat.ne_of_lt (Nat.lt_of_lt_of_le (by have := World.block_lt_of_cell? _ _ hx233_0; first | rwa [add_block] at this | exact this) GW231.out)
                 have hn233_3 : ad225.block ≠ gb231 := Nat.ne_of_lt (Nat.lt_of_lt_of_le (by have := World.block_lt_of_cell? _ _ hx233_0; first | rwa [add_block] at this | exact this) GW231.out)
                 replace hx233_0 := (HB.out.cell (World.block_lt_of_cell? w _ hx233_0)).trans hx233_0
                 replace hx233_0 := (cell_far (p := ⟨gb231, 0, none⟩) (by first | (rw [add_block]; exact hn233_0) | (show (Addr.add _ _).block ≠ _; rw [add_block]; exact hn233_0) | exact hn233_0) (.bool t226)).trans hx233_0
                 replace hx233_0 := (cell_far (p := ⟨gb231, 1, none⟩) (by first | (rw [add_block]; exact hn233_1) | (show (Addr.add _ _).block ≠ _; rw [add_block]; exact hn233_1) | exact hn233_1) (.int .i64 t227)).trans hx233_0
                 replace hx233_0 := (cell_far (p := ⟨gb231, 2, none⟩) (by first | (rw [add_block]; exact hn233_2) | (show (Addr.add _ _).block ≠ _; rw [add_block]; exact hn233_2) | exact hn233_2) (.int .i64 t228)).trans hx233_0
                 replace hx233_0 := (cell_far (p := ⟨gb231, 3, none⟩) (by first | (rw [add_block]; exact hn233_3) | (show (Addr.add _ _).block ≠ _; rw [add_block]; exact hn233_3) | exact hn233_3) (.int .i64 t229)).trans hx233_0
                 clear hn233_0
                 clear hn233_1
                 clear hn233_2
                 clear hn233_3
                 replace p233 := eq_true p233
                 replace q233 := eq_true q233
                 go_upto_if 166 with (fail)
                 go_cut [10] (fun v10 wc => ∃ (kq : Nat) (x10_84 : Int), v10 = .int .i64 x10_84 ∧ Aside0 (turnstilelaw24_HealthRuns.j5 kq l1 l2 x9_2 x10_84 (wrap64 ((ji33) + x14_29)) (wrap64 ((ji33) + x14_29)) x13_2 a0_0 a0_1 a0_2 a0_3 a0_4 t226 t227 t228 t229 = some r) ∧ Aside0 (kq ≤ kj37) ∧ Aside0 (wc.heap[gb192]? = some (.cells #[.string a0_0, .int .i64 a0_1, .int .i64 a0_2, .int .i64 a0_3, .int .i64 a0_4] 23 (0, 0))) ∧ Aside0 (wc.heap[gb198]? = some (.cells #[.bool x199000_2, .int .i64 x199001_2, .int .i64 x199002_2, .int .i64 x199003_2] 27 (0, 0))) ∧ Aside0 (wc.heap[gb212]? = some (.cells #[.bool t207, .int .i64 t208, .int .i64 t209, .int .i64 t210] 27 (0, 0))) ∧ Aside0 (wc.heap[gb220]? = some (.cells #[.bool t215, .int .i64 t216, .int .i64 t217, .int .i64 t218] 27 (0, 0))) ∧ Aside0 (wc.heap[gb231]? = some (.cells #[.bool t226, .int .i64 t227, .int .i64 t228, .int .i64 t229] 27 (0, 0))) ∧ Aside0 (Below w.heap.size w wc))
                 case first =>
                  as_aux_lemma =>
                  have H := HC85.out
                  clear HC85
                  by_cases c94 : ((rdOf false l1 x13_2) == x9_2) = true
                  ·rw [if_pos c94] at H
                   have c94b0 : ((rdOf false l1 x13_2) == x9_2) = true := c94
                   (try (have c94b1 : decide ((rdOf false l1 x13_2) = x9_2) = true := by simpa using c94))
                   (try (have c94b2 : ((rdOf false l1 x13_2) == x9_2) = true := by simpa using c94))
                   clear c94
                   (first | rw [c94b0] | (simp only [i64_w, i32_w]; rw [c94b0]) | skip)
                   have H' := Aside0.mk H
                   clear H
                   go_wp2
                   go_meet
                   case rel => exact ⟨_, (0), (by first | rfl | (simp; done) | (simp [*]; done)), H', ⟨by have := HJ4.out; have := HK2.out; have := HJ26.out; have := HJ29.out; have := HJ37.out; first | omega | exact Nat.le_refl _⟩, ⟨by (with_reducible repeat (first | refine blk_drewN ?_ _ | refine blk_drew ?_ | refine blk_alloc ?_ _)); refine blk_far ?_ NB192_231.out _; (with_reducible repeat (first | refine blk_drewN ?_ _ | refine blk_drew ?_ | refine blk_alloc ?_ _)); refine blk_far ?_ NB192_231.out _; (with_reducible repeat (first | refine blk_drewN ?_ _ | refine blk_drew ?_ | refine blk_alloc ?_ _)); refine blk_far ?_ NB192_231.out _; (with_reducible repeat (first | refine blk_drewN ?_ _ | refine blk_drew ?_ | refine blk_alloc ?_ _)); refine blk_far ?_ NB192_231.out _; (with_reducible repeat (first | refine blk_drewN ?_ _ | refine blk_drew ?_ | refine blk_alloc ?_ _)); exact BK192.out⟩, ⟨by (with_reducible repeat (first | refine blk_drewN ?_ _ | refine blk_drew ?_ | refine blk_alloc ?_ _)); refine blk_far ?_ NB198_231.out _; (with_reducible repeat (first | refine blk_drewN ?_ _ | refine blk_drew ?_ | refine blk_alloc ?_ _)); refine blk_far ?_ NB198_231.out _; (with_reducible repeat (first | refine blk_drewN ?_ _ | refine blk_drew ?_ | refine blk_alloc ?_ _)); refine blk_far ?_ NB198_231.out _; (with_reducible repeat (first | refine blk_drewN ?_ _ | refine blk_drew ?_ | refine blk_alloc ?_ _)); refine blk_far ?_ NB198_231.out _; (with_reducible repeat (first | refine blk_drewN ?_ _ | refine blk_drew ?_ | refine blk_alloc ?_ _)); exact BK198.out⟩, ⟨by (with_reducible repeat (first | refine blk_drewN ?_ _ | refine blk_drew ?_ | refine blk_alloc ?_ _)); refine blk_far ?_ NB212_231.out _; (with_reducible repeat (first | refine blk_drewN ?_ _ | refine blk_drew ?_ | refine blk_alloc ?_ _)); refine blk_far ?_ NB212_231.out _; (with_reducible repeat (first | refine blk_drewN ?_ _ | refine blk_drew ?_ | refine blk_alloc ?_ _)); refine blk_far ?_ NB212_231.out _; (with_reducible repeat (first | refine blk_drewN ?_ _ | refine blk_drew ?_ | refine blk_alloc ?_ _)); refine blk_far ?_ NB212_231.out _; (with_reducible repeat (first | refine blk_drewN ?_ _ | refine blk_drew ?_ | refine blk_alloc ?_ _)); exact BK212.out⟩, ⟨by (with_reducible repeat (first | refine blk_drewN ?_ _ | refine blk_drew ?_ | refine blk_alloc ?_ _)); refine blk_far ?_ NB220_231.out _; (with_reducible repeat (first | refine blk_drewN ?_ _ | refine blk_drew ?_ | refine blk_alloc ?_ _)); refine blk_far ?_ NB220_231.out _; (with_reducible repeat (first | refine blk_drewN ?_ _ | refine blk_drew ?_ | refine blk_alloc ?_ _)); refine blk_far ?_ NB220_231.out _; (with_reducible repeat (first | refine blk_drewN ?_ _ | refine blk_drew ?_ | refine blk_alloc ?_ _)); refine blk_far ?_ NB220_231.out _; (with_reducible repeat (first | refine blk_drewN ?_ _ | refine blk_drew ?_ | refine blk_alloc ?_ _)); exact BK220.out⟩, ⟨by (with_reducible repeat (first | refine blk_drewN ?_ _ | refine blk_drew ?_ | refine blk_alloc ?_ _)); refine blk_put (cs := #[.bool t226, .int .i64 t227, .int .i64 t228, .int .i64 0]) ?_ 3 _ rfl; (with_reducible repeat (first | refine blk_drewN ?_ _ | refine blk_drew ?_ | refine blk_alloc ?_ _)); refine blk_put (cs := #[.bool t226, .int .i64 t227, .int .i64 0, .int .i64 0]) ?_ 2 _ rfl; (with_reducible repeat (first | refine blk_drewN ?_ _ | refine blk_drew ?_ | refine blk_alloc ?_ _)); refine blk_put (cs := #[.bool t226, .int .i64 0, .int .i64 0, .int .i64 0]) ?_ 1 _ rfl; (with_reducible repeat (first | refine blk_drewN ?_ _ | refine blk_drew ?_ | refine blk_alloc ?_ _)); refine blk_put (cs := #[.bool false, .int .i64 0, .int .i64 0, .int .i64 0]) ?_ 0 _ rfl; (with_reducible repeat (first | refine blk_drewN ?_ _ | refine blk_drew ?_ | refine blk_alloc ?_ _)); exact BK231.out⟩, ⟨tb⟩⟩
                  ·rw [if_neg c94] at H
                   have c94b0 : ((rdOf false l1 x13_2) == x9_2) = false := by simpa using c94
                   (try (have c94b1 : decide ((rdOf false l1 x13_2) = x9_2) = false := by simpa using c94))
                   (try (have c94b2 : ((rdOf false l1 x13_2) == x9_2) = false := by simpa using c94))
                   (try (have c94b3 : ¬ ((rdOf false l1 x13_2) = x9_2) := by simpa using c94))
                   clear c94
                   (first | rw [c94b0] | (simp only [i64_w, i32_w]; rw [c94b0]) | skip)
                   have H' := Aside0.mk H
                   clear H
                   go_wp2
                   go_meet
                   case rel => exact ⟨_, (wrap64 (x10_2 + 1)), (by first | rfl | (simp; done) | (simp [*]; done)), H', ⟨by have := HJ4.out; have := HK2.out; have := HJ26.out; have := HJ29.out; have := HJ37.out; first | omega | exact Nat.le_refl _⟩, ⟨by (with_reducible repeat (first | refine blk_drewN ?_ _ | refine blk_drew ?_ | refine blk_alloc ?_ _)); refine blk_far ?_ NB192_231.out _; (with_reducible repeat (first | refine blk_drewN ?_ _ | refine blk_drew ?_ | refine blk_alloc ?_ _)); refine blk_far ?_ NB192_231.out _; (with_reducible repeat (first | refine blk_drewN ?_ _ | refine blk_drew ?_ | refine blk_alloc ?_ _)); refine blk_far ?_ NB192_231.out _; (with_reducible repeat (first | refine blk_drewN ?_ _ | refine blk_drew ?_ | refine blk_alloc ?_ _)); refine blk_far ?_ NB192_231.out _; (with_reducible repeat (first | refine blk_drewN ?_ _ | refine blk_drew ?_ | refine blk_alloc ?_ _)); exact BK192.out⟩, ⟨by (with_reducible repeat (first | refine blk_drewN ?_ _ | refine blk_drew ?_ | refine blk_alloc ?_ _)); refine blk_far ?_ NB198_231.out _; (with_reducible repeat (first | refine blk_drewN ?_ _ | refine blk_drew ?_ | refine blk_alloc ?_ _)); refine blk_far ?_ NB198_231.out _; (with_reducible repeat (first | refine blk_drewN ?_ _ | refine blk_drew ?_ | refine blk_alloc ?_ _)); refine blk_far ?_ NB198_231.out _; (with_reducible repeat (first | refine blk_drewN ?_ _ | refine blk_drew ?_ | refine blk_alloc ?_ _)); refine blk_far ?_ NB198_231.out _; (with_reducible repeat (first | refine blk_drewN ?_ _ | refine blk_drew ?_ | refine blk_alloc ?_ _)); exact BK198.out⟩, ⟨by (with_reducible repeat (first | refine blk_drewN ?_ _ | refine blk_drew ?_ | refine blk_alloc ?_ _)); refine blk_far ?_ NB212_231.out _; (with_reducible repeat (first | refine blk_drewN ?_ _ | refine blk_drew ?_ | refine blk_alloc ?_ _)); refine blk_far ?_ NB212_231.out _; (with_reducible repeat (first | refine blk_drewN ?_ _ | refine blk_drew ?_ | refine blk_alloc ?_ _)); refine blk_far ?_ NB212_231.out _; (with_reducible repeat (first | refine blk_drewN ?_ _ | refine blk_drew ?_ | refine blk_alloc ?_ _)); refine blk_far ?_ NB212_231.out _; (with_reducible repeat (first | refine blk_drewN ?_ _ | refine blk_drew ?_ | refine blk_alloc ?_ _)); exact BK212.out⟩, ⟨by (with_reducible repeat (first | refine blk_drewN ?_ _ | refine blk_drew ?_ | refine blk_alloc ?_ _)); refine blk_far ?_ NB220_231.out _; (with_reducible repeat (first | refine blk_drewN ?_ _ | refine blk_drew ?_ | refine blk_alloc ?_ _)); refine blk_far ?_ NB220_231.out _; (with_reducible repeat (first | refine blk_drewN ?_ _ | refine blk_drew ?_ | refine blk_alloc ?_ _)); refine blk_far ?_ NB220_231.out _; (with_reducible repeat (first | refine blk_drewN ?_ _ | refine blk_drew ?_ | refine blk_alloc ?_ _)); refine blk_far ?_ NB220_231.out _; (with_reducible repeat (first | refine blk_drewN ?_ _ | refine blk_drew ?_ | refine blk_alloc ?_ _)); exact BK220.out⟩, ⟨by (with_reducible repeat (first | refine blk_drewN ?_ _ | refine blk_drew ?_ | refine blk_alloc ?_ _)); refine blk_put (cs := #[.bool t226, .int .i64 t227, .int .i64 t228, .int .i64 0]) ?_ 3 _ rfl; (with_reducible repeat (first | refine blk_drewN ?_ _ | refine blk_drew ?_ | refine blk_alloc ?_ _)); refine blk_put (cs := #[.bool t226, .int .i64 t227, .int .i64 0, .int .i64 0]) ?_ 2 _ rfl; (with_reducible repeat (first | refine blk_drewN ?_ _ | refine blk_drew ?_ | refine blk_alloc ?_ _)); refine blk_put (cs := #[.bool t226, .int .i64 0, .int .i64 0, .int .i64 0]) ?_ 1 _ rfl; (with_reducible repeat (first | refine blk_drewN ?_ _ | refine blk_drew ?_ | refine blk_alloc ?_ _)); refine blk_put (cs := #[.bool false, .int .i64 0, .int .i64 0, .int .i64 0]) ?_ 0 _ rfl; (with_reducible repeat (first | refine blk_drewN ?_ _ | refine blk_drew ?_ | refine blk_alloc ?_ _)); exact BK231.out⟩, ⟨tb⟩⟩
                 case rest =>
                  as_aux_lemma =>
                  clear HC85
                  (try clear c1); (try clear q1); (try clear p2); (try clear q2); (try clear hx2); (try clear p6); (try clear c8); (try clear c9); (try clear c10); (try clear q19); (try clear p20); (try clear q20); (try clear hx20); (try clear p22); (try clear q22); (try clear hx22); (try clear p23); (try clear q23); (try clear hx23); (try clear p64); (try clear c81); (try clear c82); (try clear c82b0); (try clear c83); (try clear c83b0); (try clear c94); (try clear c94b0); (try clear c94b1); (try clear c94b2); (try clear hfz11_1); (try clear hfz11_2); (try clear hfz11_3); (try clear hfz14_0); (try clear hfz14_1); (try clear hfz14_2); (try clear hfz14_3); (try clear hfz14_4); (try clear hfz16_0); (try clear hfz16_1); (try clear hfz16_2); (try clear hfz16_3); (try clear hfz16_4); (try clear hfz23_0); (try clear hfz23_1); (try clear hfz23_2); (try clear hfz23_3); (try clear hfz26_0); (try clear hfz26_1); (try clear hfz26_2); (try clear hfz26_3); (try clear hfz40_0); (try clear hfz40_1); (try clear hfz40_2); (try clear hfz40_3); (try clear hfz41_0); (try clear hfz41_1); (try clear hfz41_2); (try clear hfz41_3); (try clear hfz41_4); (try clear hfz43_0); (try clear hfz43_1); (try clear hfz43_2); (try clear hfz43_3); (try clear hfz44_0); (try clear hfz44_1); (try clear hfz44_2); (try clear hfz44_3); (try clear hfz44_4); (try clear hfz49_0); (try clear hfz49_1); (try clear hfz49_2); (try clear hfz49_3); (try clear hfz50_0); (try clear hfz50_1); (try clear hfz50_2); (try clear hfz50_3); (try clear hfz50_4); (try clear hfz52_0); (try clear hfz52_1); (try clear hfz52_2); (try clear hfz52_3); (try clear hfz53_0); (try clear hfz53_1); (try clear hfz53_2); (try clear hfz53_3); (try clear hfz53_4); (try clear hfz59_0); (try clear hfz59_1); (try clear hfz59_2); (try clear hfz59_3); (try clear hfz69_0); (try clear hfz69_1); (try clear hfz69_2); (try clear hfz69_3); (try clear hfz69_4); (try clear hfz73_0); (try clear hfz73_1); (try clear hfz73_2); (try clear hfz73_3); (try clear hfz73_4); (try clear hfz76_0); (try clear hfz76_1); (try clear hfz76_2); (try clear hfz76_3); (try clear hfz7_0); (try clear hfz7_1); (try clear hfz7_2); (try clear hfz7_3); (try clear hfz7_4); (try clear hfz80_0); (try clear hfz80_1); (try clear hfz80_2); (try clear hfz80_3); (try clear hx204_0); (try clear hx225_0); (try clear hx233_0); (try clear p2); (try clear p20); (try clear p204); (try clear p225); (try clear p233); (try clear p6); (try clear q1); (try clear q19); (try clear q199); (try clear q2); (try clear q20); (try clear q200); (try clear q204); (try clear q221); (try clear q222); (try clear q223); (try clear q225); (try clear q232); (try clear q233)
                  obtain ⟨kq, x10_84, rfl, HA, HJ84, BK192, BK198, BK212, BK220, BK231, HB⟩ := hcut
                  cases kq with
                  | zero => exact absurd HA.out (by simp [turnstilelaw24_HealthRuns.j5])
                  | succ kj84 =>
                   have H := HA.out
                   clear HA
                   simp only [turnstilelaw24_HealthRuns.j5] at H
                   have HC95 := Aside0.mk H
                   clear H
                   go_upto_region 25 with (fail)
                   go_cut [185] (fun v185 wc => ∃ (kq : Nat) (x185_94 : Bool), v185 = .bool x185_94 ∧ Aside0 (turnstilelaw24_HealthRuns.j6 kq l1 l2 x9_2 x10_84 (wrap64 ((ji33) + x14_29)) (wrap64 ((ji33) + x14_29)) x13_2 x185_94 a0_0 a0_1 a0_2 a0_3 a0_4 t226 t227 t228 t229 = some r) ∧ Aside0 (kq ≤ kj84) ∧ Aside0 (wc.heap[gb192]? = some (.cells #[.string a0_0, .int .i64 a0_1, .int .i64 a0_2, .int .i64 a0_3, .int .i64 a0_4] 23 (0, 0))) ∧ Aside0 (wc.heap[gb198]? = some (.cells #[.bool x199000_2, .int .i64 x199001_2, .int .i64 x199002_2, .int .i64 x199003_2] 27 (0, 0))) ∧ Aside0 (wc.heap[gb212]? = some (.cells #[.bool t207, .int .i64 t208, .int .i64 t209, .int .i64 t210] 27 (0, 0))) ∧ Aside0 (wc.heap[gb220]? = some (.cells #[.bool t215, .int .i64 t216, .int .i64 t217, .int .i64 t218] 27 (0, 0))) ∧ Aside0 (wc.heap[gb231]? = some (.cells #[.bool t226, .int .i64 t227, .int .i64 t228, .int .i64 t229] 27 (0, 0))) ∧ Aside0 (Below w.heap.size w wc))
                   case first =>
                    as_aux_lemma =>
                    have H := HC95.out
                    clear HC95
                    by_cases c96 : x9_2 = true
                    ·subst c96
                     have H1 : (if x10_84 = a0_4 then (turnstilelaw24_HealthRuns.j6 kj84 l1 l2 true x10_84 (wrap64 ((ji33) + x14_29)) (wrap64 ((ji33) + x14_29)) x13_2 true a0_0 a0_1 a0_2 a0_3 a0_4 t226 t227 t228 t229) else (turnstilelaw24_HealthRuns.j6 kj84 l1 l2 true x10_84 (wrap64 ((ji33) + x14_29)) (wrap64 ((ji33) + x14_29)) x13_2 false a0_0 a0_1 a0_2 a0_3 a0_4 t226 t227 t228 t229)) = some r := by rw [if_pos rfl] at H; exact H
                     clear H
                     have H := H1
                     clear H1
                     by_cases c97 : x10_84 = a0_4
                     ·rw [if_pos c97] at H
                      have c97b0 : (x10_84 == a0_4) = true := beq_iff_eq.mpr c97
                      have c97b1 : (x10_84 != a0_4) = false := bne_eq_false_iff_eq.mpr c97
                      clear c97
                      (first | rw [c97b0] | (simp only [i64_w, i32_w]; rw [c97b0]) | skip)
                      have H' := Aside0.mk H
                      clear H
                      have hnb98 := NB192_198.out
                      have hnc98 := NB198_192.out
                      have hnb99 := NB192_212.out
                      have hnc99 := NB212_192.out
                      have hnb100 := NB192_220.out
                      have hnc100 := NB220_192.out
                      have hnb101 := NB192_231.out
                      have hnc101 := NB231_192.out
                      have hcz102_0 : wc.cell? ⟨gb192, 0, none⟩ = some (.string a0_0) := (blk_cell BK192.out 0).trans rfl
                      have hcz102_1 : wc.cell? ⟨gb192, 1, none⟩ = some (.int .i64 a0_1) := (blk_cell BK192.out 1).trans rfl
                      have hcz102_2 : wc.cell? ⟨gb192, 2, none⟩ = some (.int .i64 a0_2) := (blk_cell BK192.out 2).trans rfl
                      have hcz102_3 : wc.cell? ⟨gb192, 3, none⟩ = some (.int .i64 a0_3) := (blk_cell BK192.out 3).trans rfl
                      have hcz102_4 : wc.cell? ⟨gb192, 4, none⟩ = some (.int .i64 a0_4) := (blk_cell BK192.out 4).trans rfl
                      have hfz102_0 := blk_frozen BK192.out 0
                      have hfz102_1 := blk_frozen BK192.out 1
                      have hfz102_2 := blk_frozen BK192.out 2
                      have hfz102_3 := blk_frozen BK192.out 3
                      have hfz102_4 := blk_frozen BK192.out 4
                      go_wp2
                      go_meet
                      case rel => exact ⟨_, (true), (by first | rfl | (simp; done) | (simp [*]; done)), H', ⟨by have := HJ4.out; have := HK2.out; have := HJ26.out; have := HJ29.out; have := HJ37.out; have := HJ84.out; first | omega | exact Nat.le_refl _⟩, ⟨tk BK192.out⟩, ⟨tk BK198.out⟩, ⟨tk BK212.out⟩, ⟨tk BK220.out⟩, ⟨tk BK231.out⟩, ⟨tb⟩⟩
                     ·rw [if_neg c97] at H
                      have c97b0 : (x10_84 == a0_4) = false := beq_eq_false_iff_ne.mpr c97
                      have c97b1 : (x10_84 != a0_4) = true := bne_iff_ne.mpr c97
                      (first | rw [c97b0] | (simp only [i64_w, i32_w]; rw [c97b0]) | skip)
                      have H' := Aside0.mk H
                      clear H
                      have hnb103 := NB192_198.out
                      have hnc103 := NB198_192.out
                      have hnb104 := NB192_212.out
                      have hnc104 := NB212_192.out
                      have hnb105 := NB192_220.out
                      have hnc105 := NB220_192.out
                      have hnb106 := NB192_231.out
                      have hnc106 := NB231_192.out
                      have hcz107_0 : wc.cell? ⟨gb192, 0, none⟩ = some (.string a0_0) := (blk_cell BK192.out 0).trans rfl
                      have hcz107_1 : wc.cell? ⟨gb192, 1, none⟩ = some (.int .i64 a0_1) := (blk_cell BK192.out 1).trans rfl
                      have hcz107_2 : wc.cell? ⟨gb192, 2, none⟩ = some (.int .i64 a0_2) := (blk_cell BK192.out 2).trans rfl
                      have hcz107_3 : wc.cell? ⟨gb192, 3, none⟩ = some (.int .i64 a0_3) := (blk_cell BK192.out 3).trans rfl
                      have hcz107_4 : wc.cell? ⟨gb192, 4, none⟩ = some (.int .i64 a0_4) := (blk_cell BK192.out 4).trans rfl
                      have hfz107_0 := blk_frozen BK192.out 0
                      have hfz107_1 := blk_frozen BK192.out 1
                      have hfz107_2 := blk_frozen BK192.out 2
                      have hfz107_3 := blk_frozen BK192.out 3
                      have hfz107_4 := blk_frozen BK192.out 4
                      go_wp2
                      go_meet
                      case rel => exact ⟨_, (false), (by first | rfl | (simp; done) | (simp [*]; done)), H', ⟨by have := HJ4.out; have := HK2.out; have := HJ26.out; have := HJ29.out; have := HJ37.out; have := HJ84.out; first | omega | exact Nat.le_refl _⟩, ⟨tk BK192.out⟩, ⟨tk BK198.out⟩, ⟨tk BK212.out⟩, ⟨tk BK220.out⟩, ⟨tk BK231.out⟩, ⟨tb⟩⟩
                    ·replace c96 := Bool.eq_false_iff.mpr c96
                     subst c96
                     have H1 : (turnstilelaw24_HealthRuns.j6 kj84 l1 l2 false x10_84 (wrap64 ((ji33) + x14_29)) (wrap64 ((ji33) + x14_29)) x13_2 (x10_84 == a0_3) a0_0 a0_1 a0_2 a0_3 a0_4 t226 t227 t228 t229) = some r := by rw [if_neg (show ¬ (false = true) by decide)] at H; exact H
                     clear H
                     have H := H1
                     clear H1
                     have H' := Aside0.mk H
                     clear H
                     have hnb108 := NB192_198.out
                     have hnc108 := NB198_192.out
                     have hnb109 := NB192_212.out
                     have hnc109 := NB212_192.out
                     have hnb110 := NB192_220.out
                     have hnc110 := NB220_192.out
                     have hnb111 := NB192_231.out
                     have hnc111 := NB231_192.out
                     have hcz112_0 : wc.cell? ⟨gb192, 0, none⟩ = some (.string a0_0) := (blk_cell BK192.out 0).trans rfl
                     have hcz112_1 : wc.cell? ⟨gb192, 1, none⟩ = some (.int .i64 a0_1) := (blk_cell BK192.out 1).trans rfl
                     have hcz112_2 : wc.cell? ⟨gb192, 2, none⟩ = some (.int .i64 a0_2) := (blk_cell BK192.out 2).trans rfl
                     have hcz112_3 : wc.cell? ⟨gb192, 3, none⟩ = some (.int .i64 a0_3) := (blk_cell BK192.out 3).trans rfl
                     have hcz112_4 : wc.cell? ⟨gb192, 4, none⟩ = some (.int .i64 a0_4) := (blk_cell BK192.out 4).trans rfl
                     have hfz112_0 := blk_frozen BK192.out 0
                     have hfz112_1 := blk_frozen BK192.out 1
                     have hfz112_2 := blk_frozen BK192.out 2
                     have hfz112_3 := blk_frozen BK192.out 3
                     have hfz112_4 := blk_frozen BK192.out 4
                     go_wp2
                     go_meet
                     case rel => exact ⟨_, ((x10_84 == a0_3)), (by first | rfl | (simp; done) | (simp [*]; done)), H', ⟨by have := HJ4.out; have := HK2.out; have := HJ26.out; have := HJ29.out; have := HJ37.out; have := HJ84.out; first | omega | exact Nat.le_refl _⟩, ⟨tk BK192.out⟩, ⟨tk BK198.out⟩, ⟨tk BK212.out⟩, ⟨tk BK220.out⟩, ⟨tk BK231.out⟩, ⟨tb⟩⟩
                   case rest =>
                    as_aux_lemma =>
                    clear HC95
                    (try clear c1); (try clear q1); (try clear p2); (try clear q2); (try clear hx2); (try clear p6); (try clear c8); (try clear c9); (try clear c10); (try clear c11); (try clear q19); (try clear p20); (try clear q20); (try clear hx20); (try clear p22); (try clear q22); (try clear hx22); (try clear p23); (try clear q23); (try clear hx23); (try clear p64); (try clear c81); (try clear c82); (try clear c82b0); (try clear c83); (try clear c83b0); (try clear c94); (try clear c94b0); (try clear c94b1); (try clear c94b2); (try clear c96); (try clear c97); (try clear c97b0); (try clear c97b1); (try clear c98); (try clear c99); (try clear c100); (try clear c101); (try clear c103); (try clear c104); (try clear c105); (try clear c106); (try clear c108); (try clear c109); (try clear c110); (try clear c111); (try clear hcz102_0); (try clear hcz102_1); (try clear hcz102_2); (try clear hcz102_3); (try clear hcz102_4); (try clear hcz107_0); (try clear hcz107_1); (try clear hcz107_2); (try clear hcz107_3); (try clear hcz107_4); (try clear hcz112_0); (try clear hcz112_1); (try clear hcz112_2); (try clear hcz112_3); (try clear hcz112_4); (try clear hfz102_0); (try clear hfz102_1); (try clear hfz102_2); (try clear hfz102_3); (try clear hfz102_4); (try clear hfz107_0); (try clear hfz107_1); (try clear hfz107_2); (try clear hfz107_3); (try clear hfz107_4); (try clear hfz112_0); (try clear hfz112_1); (try clear hfz112_2); (try clear hfz112_3); (try clear hfz112_4); (try clear hfz11_1); (try clear hfz11_2); (try clear hfz11_3); (try clear hfz14_0); (try clear hfz14_1); (try clear hfz14_2); (try clear hfz14_3); (try clear hfz14_4); (try clear hfz16_0); (try clear hfz16_1); (try clear hfz16_2); (try clear hfz16_3); (try clear hfz16_4); (try clear hfz23_0); (try clear hfz23_1); (try clear hfz23_2); (try clear hfz23_3); (try clear hfz26_0); (try clear hfz26_1); (try clear hfz26_2); (try clear hfz26_3); (try clear hfz40_0); (try clear hfz40_1); (try clear hfz40_2); (try clear hfz40_3); (try clear hfz41_0); (try clear hfz41_1); (try clear hfz41_2); (try clear hfz41_3); (try clear hfz41_4); (try clear hfz43_0); (try clear hfz43_1); (try clear hfz43_2); (try clear hfz43_3); (try clear hfz44_0); (try clear hfz44_1); (try clear hfz44_2); (try clear hfz44_3); (try clear hfz44_4); (try clear hfz49_0); (try clear hfz49_1); (try clear hfz49_2); (try clear hfz49_3); (try clear hfz50_0); (try clear hfz50_1); (try clear hfz50_2); (try clear hfz50_3); (try clear hfz50_4); (try clear hfz52_0); (try clear hfz52_1); (try clear hfz52_2); (try clear hfz52_3); (try clear hfz53_0); (try clear hfz53_1); (try clear hfz53_2); (try clear hfz53_3); (try clear hfz53_4); (try clear hfz59_0); (try clear hfz59_1); (try clear hfz59_2); (try clear hfz59_3); (try clear hfz69_0); (try clear hfz69_1); (try clear hfz69_2); (try clear hfz69_3); (try clear hfz69_4); (try clear hfz73_0); (try clear hfz73_1); (try clear hfz73_2); (try clear hfz73_3); (try clear hfz73_4); (try clear hfz76_0); (try clear hfz76_1); (try clear hfz76_2); (try clear hfz76_3); (try clear hfz7_0); (try clear hfz7_1); (try clear hfz7_2); (try clear hfz7_3); (try clear hfz7_4); (try clear hfz80_0); (try clear hfz80_1); (try clear hfz80_2); (try clear hfz80_3); (try clear hx204_0); (try clear hx225_0); (try clear hx233_0); (try clear p2); (try clear p20); (try clear p204); (try clear p22); (try clear p225); (try clear p23); (try clear p233); (try clear p6); (try clear p64); (try clear q1); (try clear q19); (try clear q199); (try clear q2); (try clear q20); (try clear q200); (try clear q204); (try clear q22); (try clear q221); (try clear q222); (try clear q223); (try clear q225); (try clear q23); (try clear q232); (try clear q233)
                    obtain ⟨kq, x185_94, rfl, HA, HJ94, BK192, BK198, BK212, BK220, BK231, HB⟩ := hcut
                    cases kq with
                    | zero => exact absurd HA.out (by simp [turnstilelaw24_HealthRuns.j6])
                    | succ kj94 =>
                     have H := HA.out
                     clear HA
                     simp only [turnstilelaw24_HealthRuns.j6] at H
                     by_cases c113 : x185_94 = true
                     ·subst c113
                      have H1 : (if (t226 != (!x9_2)) = true then (some false) else (turnstilelaw24_HealthRuns.l0 kj94 l1 l2 (!x9_2) 0 (wrap64 ((ji33) + x14_29)) (wrap64 ((ji33) + x14_29)) (wrap64 (x13_2 + 1)) a0_0 a0_1 a0_2 a0_3 a0_4 t226 t227 t228 t229)) = some r := by rw [if_pos rfl] at H; exact H
                      clear H
                      have H := H1
                      clear H1
                      by_cases c114 : (t226 != (!x9_2)) = true
                      ·rw [if_pos c114] at H
                       have c114b0 : (t226 != (!x9_2)) = true := c114
                       (try (have c114b1 : decide (t226 = (!x9_2)) = false := by simpa using c114))
                       (try (have c114b2 : (t226 == (!x9_2)) = false := by simpa using c114))
                       (try (have c114b3 : ¬ (t226 = (!x9_2)) := by simpa using c114))
                       have c114b6 : (!(t226 == (!x9_2))) = true := by revert c114; cases t226 <;> cases x9_2 <;> decide
                       (try (have c114b4 : (t226 = x9_2) = True := eq_true (by simpa using c114)))
                       (try (have c114b5 : (t226 == x9_2) = true := by simpa using c114))
                       clear c114
                       obtain rfl := Option.some.inj H
                       have hnb115 := NB231_192.out
                       have hnc115 := NB192_231.out
                       have hnb116 := NB231_198.out
                       have hnc116 := NB198_231.out
                       have hnb117 := NB231_212.out
                       have hnc117 := NB212_231.out
                       have hnb118 := NB231_220.out
                       have hnc118 := NB220_231.out
                       have hcz119_0 : wc.cell? ⟨gb231, 0, none⟩ = some (.bool t226) := (blk_cell BK231.out 0).trans rfl
                       have hcz119_1 : wc.cell? ⟨gb231, 1, none⟩ = some (.int .i64 t227) := (blk_cell BK231.out 1).trans rfl
                       have hcz119_2 : wc.cell? ⟨gb231, 2, none⟩ = some (.int .i64 t228) := (blk_cell BK231.out 2).trans rfl
                       have hcz119_3 : wc.cell? ⟨gb231, 3, none⟩ = some (.int .i64 t229) := (blk_cell BK231.out 3).trans rfl
                       have hfz119_0 := blk_frozen BK231.out 0
                       have hfz119_1 := blk_frozen BK231.out 1
                       have hfz119_2 := blk_frozen BK231.out 2
                       have hfz119_3 := blk_frozen BK231.out 3
                       go_wp2
                       go_ret
                       exact ⟨by first | rfl | (simp [errW_none, errW_some] <;> rfl) | (simp only [← hji33]; first | rfl | (simp [errW_none, errW_some] <;> rfl)) | (simp [*, errW_none, errW_some] <;> rfl), tb⟩
                      ·rw [if_neg c114] at H
                       have c114b0 : (t226 != (!x9_2)) = false := by simpa using c114
                       (try (have c114b1 : decide (t226 = (!x9_2)) = true := by simpa using c114))
                       (try (have c114b2 : (t226 == (!x9_2)) = true := by simpa using c114))
                       have c114b6 : (!(t226 == (!x9_2))) = false := by revert c114; cases t226 <;> cases x9_2 <;> decide
                       (try (have c114b4 : ¬ (t226 = x9_2) := by revert c114; cases t226 <;> cases x9_2 <;> decide))
                       (try (have c114b5 : (t226 == x9_2) = false := by revert c114; cases t226 <;> cases x9_2 <;> decide))
                       clear c114
                       have H' := Aside0.mk H
                       clear H
                       have hnb120 := NB231_192.out
                       have hnc120 := NB192_231.out
                       have hnb121 := NB231_198.out
                       have hnc121 := NB198_231.out
                       have hnb122 := NB231_212.out
                       have hnc122 := NB212_231.out
                       have hnb123 := NB231_220.out
                       have hnc123 := NB220_231.out
                       have hcz124_0 : wc.cell? ⟨gb231, 0, none⟩ = some (.bool t226) := (blk_cell BK231.out 0).trans rfl
                       have hcz124_1 : wc.cell? ⟨gb231, 1, none⟩ = some (.int .i64 t227) := (blk_cell BK231.out 1).trans rfl
                       have hcz124_2 : wc.cell? ⟨gb231, 2, none⟩ = some (.int .i64 t228) := (blk_cell BK231.out 2).trans rfl
                       have hcz124_3 : wc.cell? ⟨gb231, 3, none⟩ = some (.int .i64 t229) := (blk_cell BK231.out 3).trans rfl
                       have hfz124_0 := blk_frozen BK231.out 0
                       have hfz124_1 := blk_frozen BK231.out 1
                       have hfz124_2 := blk_frozen BK231.out 2
                       have hfz124_3 := blk_frozen BK231.out 3
                       have hnb125 := NB198_192.out
                       have hnc125 := NB192_198.out
                       have hnb126 := NB198_212.out
                       have hnc126 := NB212_198.out
                       have hnb127 := NB198_220.out
                       have hnc127 := NB220_198.out
                       have hcz128_0 : wc.cell? ⟨gb198, 0, none⟩ = some (.bool x199000_2) := (blk_cell BK198.out 0).trans rfl
                       have hcz128_1 : wc.cell? ⟨gb198, 1, none⟩ = some (.int .i64 x199001_2) := (blk_cell BK198.out 1).trans rfl
                       have hcz128_2 : wc.cell? ⟨gb198, 2, none⟩ = some (.int .i64 x199002_2) := (blk_cell BK198.out 2).trans rfl
                       have hcz128_3 : wc.cell? ⟨gb198, 3, none⟩ = some (.int .i64 x199003_2) := (blk_cell BK198.out 3).trans rfl
                       have hfz128_0 := blk_frozen BK198.out 0
                       have hfz128_1 := blk_frozen BK198.out 1
                       have hfz128_2 := blk_frozen BK198.out 2
                       have hfz128_3 := blk_frozen BK198.out 3
                       go_wp2
                       go_roundg kj94
                       case measure => have := HJ4.out; have := HK2.out; have := HJ26.out; have := HJ29.out; have := HJ37.out; have := HJ84.out; have := HJ94.out; omega
                       case rel => exact ⟨(!x9_2), (0), ((wrap64 ((ji33) + x14_29))), ((wrap64 ((ji33) + x14_29))), (wrap64 (x13_2 + 1)), (t226), (t227), (t228), (t229), (by first | rfl | (simp; done) | (simp [*]; done)), (by first | rfl | (simp; done) | (simp [*]; done)), (by first | rfl | (simp; done) | (simp only [← hji33] <;> (first | rfl | simp)) | (simp [*]; done)), (by first | rfl | (simp; done) | (simp only [← hji33] <;> (first | rfl | simp)) | (simp [*]; done)), (by first | rfl | (simp; done) | (simp [*]; done)), H', ⟨by have := HJ4.out; have := HK2.out; have := HJ26.out; have := HJ29.out; have := HJ37.out; have := HJ84.out; have := HJ94.out; omega⟩, ⟨by (with_reducible repeat (first | refine blk_drewN ?_ _ | refine blk_drew ?_ | refine blk_alloc ?_ _)); refine blk_far ?_ NB192_198.out _; (with_reducible repeat (first | refine blk_drewN ?_ _ | refine blk_drew ?_ | refine blk_alloc ?_ _)); refine blk_far ?_ NB192_198.out _; (with_reducible repeat (first | refine blk_drewN ?_ _ | refine blk_drew ?_ | refine blk_alloc ?_ _)); refine blk_far ?_ NB192_198.out _; (with_reducible repeat (first | refine blk_drewN ?_ _ | refine blk_drew ?_ | refine blk_alloc ?_ _)); refine blk_far ?_ NB192_198.out _; (with_reducible repeat (first | refine blk_drewN ?_ _ | refine blk_drew ?_ | refine blk_alloc ?_ _)); exact BK192.out⟩, ⟨by (with_reducible repeat (first | refine blk_drewN ?_ _ | refine blk_drew ?_ | refine blk_alloc ?_ _)); refine blk_put (cs := #[.bool t226, .int .i64 t227, .int .i64 t228, .int .i64 x199003_2]) ?_ 3 _ rfl; (with_reducible repeat (first | refine blk_drewN ?_ _ | refine blk_drew ?_ | refine blk_alloc ?_ _)); refine blk_put (cs := #[.bool t226, .int .i64 t227, .int .i64 x199002_2, .int .i64 x199003_2]) ?_ 2 _ rfl; (with_reducible repeat (first | refine blk_drewN ?_ _ | refine blk_drew ?_ | refine blk_alloc ?_ _)); refine blk_put (cs := #[.bool t226, .int .i64 x199001_2, .int .i64 x199002_2, .int .i64 x199003_2]) ?_ 1 _ rfl; (with_reducible repeat (first | refine blk_drewN ?_ _ | refine blk_drew ?_ | refine blk_alloc ?_ _)); refine blk_put (cs := #[.bool x199000_2, .int .i64 x199001_2, .int .i64 x199002_2, .int .i64 x199003_2]) ?_ 0 _ rfl; (with_reducible repeat (first | refine blk_drewN ?_ _ | refine blk_drew ?_ | refine blk_alloc ?_ _)); exact BK198.out⟩, ⟨tb⟩⟩
                     ·replace c113 := Bool.eq_false_iff.mpr c113
                      subst c113
                      have H1 : (if (t226 != x9_2) = true then (some false) else (turnstilelaw24_HealthRuns.l0 kj94 l1 l2 x9_2 x10_84 (wrap64 ((ji33) + x14_29)) (wrap64 ((ji33) + x14_29)) (wrap64 (x13_2 + 1)) a0_0 a0_1 a0_2 a0_3 a0_4 t226 t227 t228 t229)) = some r := by rw [if_neg (show ¬ (false = true) by decide)] at H; exact H
                      clear H
                      have H := H1
                      clear H1
                      by_cases c129 : (t226 != x9_2) = true
                      ·rw [if_pos c129] at H
                       have c129b0 : (t226 != x9_2) = true := c129
                       (try (have c129b1 : decide (t226 = x9_2) = false := by simpa using c129))
                       (try (have c129b2 : (t226 == x9_2) = false := by simpa using c129))
                       (try (have c129b3 : ¬ (t226 = x9_2) := by simpa using c129))
                       clear c129
                       obtain rfl := Option.some.inj H
                       have hnb130 := NB231_192.out
                       have hnc130 := NB192_231.out
                       have hnb131 := NB231_198.out
                       have hnc131 := NB198_231.out
                       have hnb132 := NB231_212.out
                       have hnc132 := NB212_231.out
                       have hnb133 := NB231_220.out
                       have hnc133 := NB220_231.out
                       have hcz134_0 : wc.cell? ⟨gb231, 0, none⟩ = some (.bool t226) := (blk_cell BK231.out 0).trans rfl
                       have hcz134_1 : wc.cell? ⟨gb231, 1, none⟩ = some (.int .i64 t227) := (blk_cell BK231.out 1).trans rfl
                       have hcz134_2 : wc.cell? ⟨gb231, 2, none⟩ = some (.int .i64 t228) := (blk_cell BK231.out 2).trans rfl
                       have hcz134_3 : wc.cell? ⟨gb231, 3, none⟩ = some (.int .i64 t229) := (blk_cell BK231.out 3).trans rfl
                       have hfz134_0 := blk_frozen BK231.out 0
                       have hfz134_1 := blk_frozen BK231.out 1
                       have hfz134_2 := blk_frozen BK231.out 2
                       have hfz134_3 := blk_frozen BK231.out 3
                       go_wp2
                       go_ret
                       exact ⟨by first | rfl | (simp [errW_none, errW_some] <;> rfl) | (simp only [← hji33]; first | rfl | (simp [errW_none, errW_some] <;> rfl)) | (simp [*, errW_none, errW_some] <;> rfl), tb⟩
                      ·rw [if_neg c129] at H
                       have c129b0 : (t226 != x9_2) = false := by simpa using c129
                       (try (have c129b1 : decide (t226 = x9_2) = true := by simpa using c129))
                       (try (have c129b2 : (t226 == x9_2) = true := by simpa using c129))
                       clear c129
                       have H' := Aside0.mk H
                       clear H
                       have hnb135 := NB231_192.out
                       have hnc135 := NB192_231.out
                       have hnb136 := NB231_198.out
                       have hnc136 := NB198_231.out
                       have hnb137 := NB231_212.out
                       have hnc137 := NB212_231.out
                       have hnb138 := NB231_220.out
                       have hnc138 := NB220_231.out
                       have hcz139_0 : wc.cell? ⟨gb231, 0, none⟩ = some (.bool t226) := (blk_cell BK231.out 0).trans rfl
                       have hcz139_1 : wc.cell? ⟨gb231, 1, none⟩ = some (.int .i64 t227) := (blk_cell BK231.out 1).trans rfl
                       have hcz139_2 : wc.cell? ⟨gb231, 2, none⟩ = some (.int .i64 t228) := (blk_cell BK231.out 2).trans rfl
                       have hcz139_3 : wc.cell? ⟨gb231, 3, none⟩ = some (.int .i64 t229) := (blk_cell BK231.out 3).trans rfl
                       have hfz139_0 := blk_frozen BK231.out 0
                       have hfz139_1 := blk_frozen BK231.out 1
                       have hfz139_2 := blk_frozen BK231.out 2
                       have hfz139_3 := blk_frozen BK231.out 3
                       have hnb140 := NB198_192.out
                       have hnc140 := NB192_198.out
                       have hnb141 := NB198_212.out
                       have hnc141 := NB212_198.out
                       have hnb142 := NB198_220.out
                       have hnc142 := NB220_198.out
                       have hcz143_0 : wc.cell? ⟨gb198, 0, none⟩ = some (.bool x199000_2) := (blk_cell BK198.out 0).trans rfl
                       have hcz143_1 : wc.cell? ⟨gb198, 1, none⟩ = some (.int .i64 x199001_2) := (blk_cell BK198.out 1).trans rfl
                       have hcz143_2 : wc.cell? ⟨gb198, 2, none⟩ = some (.int .i64 x199002_2) := (blk_cell BK198.out 2).trans rfl
                       have hcz143_3 : wc.cell? ⟨gb198, 3, none⟩ = some (.int .i64 x199003_2) := (blk_cell BK198.out 3).trans rfl
                       have hfz143_0 := blk_frozen BK198.out 0
                       have hfz143_1 := blk_frozen BK198.out 1
                       have hfz143_2 := blk_frozen BK198.out 2
                       have hfz143_3 := blk_frozen BK198.out 3
                       go_wp2
                       go_roundg kj94
                       case measure => have := HJ4.out; have := HK2.out; have := HJ26.out; have := HJ29.out; have := HJ37.out; have := HJ84.out; have := HJ94.out; omega
                       case rel => exact ⟨(x9_2), (x10_84), ((wrap64 ((ji33) + x14_29))), ((wrap64 ((ji33) + x14_29))), (wrap64 (x13_2 + 1)), (t226), (t227), (t228), (t229), (by first | rfl | (simp; done) | (simp [*]; done)), (by first | rfl | (simp; done) | (simp [*]; done)), (by first | rfl | (simp; done) | (simp only [← hji33] <;> (first | rfl | simp)) | (simp [*]; done)), (by first | rfl | (simp; done) | (simp only [← hji33] <;> (first | rfl | simp)) | (simp [*]; done)), (by first | rfl | (simp; done) | (simp [*]; done)), H', ⟨by have := HJ4.out; have := HK2.out; have := HJ26.out; have := HJ29.out; have := HJ37.out; have := HJ84.out; have := HJ94.out; omega⟩, ⟨by (with_reducible repeat (first | refine blk_drewN ?_ _ | refine blk_drew ?_ | refine blk_alloc ?_ _)); refine blk_far ?_ NB192_198.out _; (with_reducible repeat (first | refine blk_drewN ?_ _ | refine blk_drew ?_ | refine blk_alloc ?_ _)); refine blk_far ?_ NB192_198.out _; (with_reducible repeat (first | refine blk_drewN ?_ _ | refine blk_drew ?_ | refine blk_alloc ?_ _)); refine blk_far ?_ NB192_198.out _; (with_reducible repeat (first | refine blk_drewN ?_ _ | refine blk_drew ?_ | refine blk_alloc ?_ _)); refine blk_far ?_ NB192_198.out _; (with_reducible repeat (first | refine blk_drewN ?_ _ | refine blk_drew ?_ | refine blk_alloc ?_ _)); exact BK192.out⟩, ⟨by (with_reducible repeat (first | refine blk_drewN ?_ _ | refine blk_drew ?_ | refine blk_alloc ?_ _)); refine blk_put (cs := #[.bool t226, .int .i64 t227, .int .i64 t228, .int .i64 x199003_2]) ?_ 3 _ rfl; (with_reducible repeat (first | refine blk_drewN ?_ _ | refine blk_drew ?_ | refine blk_alloc ?_ _)); refine blk_put (cs := #[.bool t226, .int .i64 t227, .int .i64 x199002_2, .int .i64 x199003_2]) ?_ 2 _ rfl; (with_reducible repeat (first | refine blk_drewN ?_ _ | refine blk_drew ?_ | refine blk_alloc ?_ _)); refine blk_put (cs := #[.bool t226, .int .i64 x199001_2, .int .i64 x199002_2, .int .i64 x199003_2]) ?_ 1 _ rfl; (with_reducible repeat (first | refine blk_drewN ?_ _ | refine blk_drew ?_ | refine blk_alloc ?_ _)); refine blk_put (cs := #[.bool x199000_2, .int .i64 x199001_2, .int .i64 x199002_2, .int .i64 x199003_2]) ?_ 0 _ rfl; (with_reducible repeat (first | refine blk_drewN ?_ _ | refine blk_drew ?_ | refine blk_alloc ?_ _)); exact BK198.out⟩, ⟨tb⟩⟩
                ·have H1 : (some false) = some r := by rw [if_neg (show ¬ (some q232).isNone = true by simp)] at H; exact H
                 clear H
                 have H := H1
                 clear H1
                 try simp only [errW_none, errW_some]
                 obtain rfl := Option.some.inj H
                 try go_wp2
                 have n0_ := Aside0.mk (blk_drew BK192.out)
                 have n1_ := Aside0.mk (blk_drew BK198.out)
                 have n2_ := Aside0.mk (blk_drew BK212.out)
                 have n3_ := Aside0.mk (blk_drew BK220.out)
                 have n4_ := Aside0.mk (below_drew1 HB.out)
                 clear BK192
                 clear BK198
                 clear BK212
                 clear BK220
                 clear HB
                 have BK192 := n0_
                 have BK198 := n1_
                 have BK212 := n2_
                 have BK220 := n3_
                 have HB := n4_
                 clear n0_ n1_ n2_ n3_ n4_
                 have p225 : 0 ≤ (x13_2 : Int) := of_decide_eq_true (by first | (with_reducible assumption) | assumption)
                 have q225 : x13_2 < (l1.length : Int) := of_decide_eq_true (by first | (with_reducible assumption) | assumption)
                 obtain ⟨ad225, e225, hx225_0⟩ := Kd.at_bool HR1.out x13_2 p225 q225
                 have hw225_0 := hx225_0
                 cases e225
                 replace hx225_0 := (HB.out.cell (World.block_lt_of_cell? w _ hx225_0)).trans hx225_0
                 replace p225 := eq_true p225
                 replace q225 := eq_true q225
                 refine start_ (n := 14) (S := fun w' => w'.cell? ⟨gb212, 0, none⟩ = some (.bool t207) ∧ w'.cell? ⟨gb212, 1, none⟩ = some (.int .i64 t208) ∧ w'.cell? ⟨gb212, 2, none⟩ = some (.int .i64 t209) ∧ w'.cell? ⟨gb212, 3, none⟩ = some (.int .i64 t210) ∧ w'.cell? ⟨gb192, 0, none⟩ = some (.string a0_0) ∧ w'.cell? ⟨gb192, 1, none⟩ = some (.int .i64 a0_1) ∧ w'.cell? ⟨gb192, 2, none⟩ = some (.int .i64 a0_2) ∧ w'.cell? ⟨gb192, 3, none⟩ = some (.int .i64 a0_3) ∧ w'.cell? ⟨gb192, 4, none⟩ = some (.int .i64 a0_4) ∧ w'.cell? (ad225.add (x13_2).toNat) = some (.bool (rdOf false l1 x13_2))) (ds := []) #[false, false, false, false, false, false, false, false, false, false, false, false, false, false] (by kernel_rfl) rfl rfl ⟨(blk_cell BK212.out 0).trans rfl, (blk_cell BK212.out 1).trans rfl, (blk_cell BK212.out 2).trans rfl, (blk_cell BK212.out 3).trans rfl, (blk_cell BK192.out 0).trans rfl, (blk_cell BK192.out 1).trans rfl, (blk_cell BK192.out 2).trans rfl, (blk_cell BK192.out 3).trans rfl, (blk_cell BK192.out 4).trans rfl, ((HB.out.cell (World.block_lt_of_cell? w _ hw225_0)).trans hw225_0)⟩ (fun hHeld => ?_); refine with_tabW turnstilelaw24_HealthRuns.tab19 turnstilelaw24_HealthRuns.bits19 (fun HT_ HW_ => ?_)
                 generalize wc.drew = w144 at BK192 BK198 BK212 BK220 HB hx225_0 hHeld ⊢
                 refine pure_ (i := 2) (N := some 151) (v := ?_) (a' := ?_) #[false, false, true, false, false, false, false, false, false, false, false, false, false, false] rfl rfl (any_of HT_.out (by kernel_rfl)) (fun _ _ _ h => h) (Or.inl ⟨by rfl, ?_⟩) ?_ ?_
                 rotate_left
                 ·intro w'
                  go_simp
                  with_reducible rfl
                 rotate_left
                 ·simp only [Act.put, List.setIfInBounds_toArray, List.set_cons_zero, List.set_cons_succ, i64_w, i32_w]
                  rfl
                 refine pure_ (i := 3) (N := some 152) (v := ?_) (a' := ?_) #[false, false, true, true, false, false, false, false, false, false, false, false, false, false] rfl rfl (any_of HT_.out (by kernel_rfl)) (fun _ _ _ h => h) (Or.inl ⟨by rfl, ?_⟩) ?_ ?_
                 rotate_left
                 ·intro w'
                  go_simp
                  with_reducible rfl
                 rotate_left
                 ·simp only [Act.put, List.setIfInBounds_toArray, List.set_cons_zero, List.set_cons_succ, i64_w, i32_w]
                  rfl
                 refine pure_ (i := 4) (N := some 153) (v := ?_) (a' := ?_) #[false, false, true, true, true, false, false, false, false, false, false, false, false, false] rfl rfl (any_of HT_.out (by kernel_rfl)) (fun _ _ _ h => h) (Or.inl ⟨by rfl, ?_⟩) ?_ ?_
                 rotate_left
                 ·intro w'
                  go_simp
                  with_reducible rfl
                 rotate_left
                 ·simp only [Act.put, List.setIfInBounds_toArray, List.set_cons_zero, List.set_cons_succ, i64_w, i32_w]
                  rfl
                 refine pure_ (i := 6) (N := some 155) (v := ?_) (a' := ?_) #[false, false, true, true, true, false, true, false, false, false, false, false, false, false] rfl rfl (any_of HT_.out (by kernel_rfl)) (fun _ _ _ h => h) (Or.inl ⟨by rfl, ?_⟩) ?_ ?_
                 rotate_left
                 ·intro w'
                  go_simp
                  with_reducible rfl
                 rotate_left
                 ·simp only [Act.put, List.setIfInBounds_toArray, List.set_cons_zero, List.set_cons_succ, i64_w, i32_w]
                  rfl
                 refine take_ (i := 0) (N := some 149) (v := ?_) (a' := ?_) #[true, false, true, true, true, false, true, false, false, false, false, false, false, false] rfl rfl (take_ofW HT_.out HW_.out (by kernel_rfl)) (fun _ _ _ h => h) (Or.inl ⟨by rfl, ?_⟩) hHeld ?_ ?_
                 rotate_left
                 ·rintro w' ⟨s0, s1, s2, s3, s4, s5, s6, s7, s8, s9⟩
                  go_simp
                  with_reducible rfl
                 rotate_left
                 ·simp only [Act.put, List.setIfInBounds_toArray, List.set_cons_zero, List.set_cons_succ, i64_w, i32_w]
                  rfl
                 refine take_ (i := 1) (N := some 150) (v := ?_) (a' := ?_) #[true, true, true, true, true, false, true, false, false, false, false, false, false, false] rfl rfl (take_ofW HT_.out HW_.out (by kernel_rfl)) (fun _ _ _ h => h) (Or.inl ⟨by rfl, ?_⟩) hHeld ?_ ?_
                 rotate_left
                 ·rintro w' ⟨s0, s1, s2, s3, s4, s5, s6, s7, s8, s9⟩
                  go_simp
                  with_reducible rfl
                 rotate_left
                 ·simp only [Act.put, List.setIfInBounds_toArray, List.set_cons_zero, List.set_cons_succ, i64_w, i32_w]
                  rfl
                 refine take_ (i := 5) (N := some 154) (v := ?_) (a' := ?_) #[true, true, true, true, true, true, true, false, false, false, false, false, false, false] rfl rfl (take_ofW HT_.out HW_.out (by kernel_rfl)) (fun _ _ _ h => h) (Or.inl ⟨by rfl, ?_⟩) hHeld ?_ ?_
                 rotate_left
                 ·rintro w' ⟨s0, s1, s2, s3, s4, s5, s6, s7, s8, s9⟩
                  go_simp
                  with_reducible rfl
                 rotate_left
                 ·simp only [Act.put, List.setIfInBounds_toArray, List.set_cons_zero, List.set_cons_succ, i64_w, i32_w]
                  rfl
                 refine join_ (σ := Nat) 2 #[true, true, true, true, true, true, true, true, true, true, true, true, false, false] (fun s_ => [(156, .tuple #[.agg #[.bool t226, .int .i64 t227, .int .i64 t228, .int .i64 t229], errW (some q232)]), (23, .pointer (some ⟨s_, 0, none⟩)), (148, .tuple #[.agg #[.bool t226, .int .i64 t227, .int .i64 t228, .int .i64 t229], errW (some q232)]), (157, .agg #[.bool t226, .int .i64 t227, .int .i64 t228, .int .i64 t229]), (158, errW (some q232))]) (fun s_ w' => (w'.cell? ⟨gb212, 0, none⟩ = some (.bool t207) ∧ w'.cell? ⟨gb212, 1, none⟩ = some (.int .i64 t208) ∧ w'.cell? ⟨gb212, 2, none⟩ = some (.int .i64 t209) ∧ w'.cell? ⟨gb212, 3, none⟩ = some (.int .i64 t210) ∧ w'.cell? ⟨gb192, 0, none⟩ = some (.string a0_0) ∧ w'.cell? ⟨gb192, 1, none⟩ = some (.int .i64 a0_1) ∧ w'.cell? ⟨gb192, 2, none⟩ = some (.int .i64 a0_2) ∧ w'.cell? ⟨gb192, 3, none⟩ = some (.int .i64 a0_3) ∧ w'.cell? ⟨gb192, 4, none⟩ = some (.int .i64 a0_4) ∧ w'.cell? (ad225.add (x13_2).toNat) = some (.bool (rdOf false l1 x13_2))) ∧ (w'.heap[gb192]? = some (.cells #[.string a0_0, .int .i64 a0_1, .int .i64 a0_2, .int .i64 a0_3, .int .i64 a0_4] 23 (0, 0))) ∧ (w'.heap[gb198]? = some (.cells #[.bool x199000_2, .int .i64 x199001_2, .int .i64 x199002_2, .int .i64 x199003_2] 27 (0, 0))) ∧ (w'.heap[gb212]? = some (.cells #[.bool t207, .int .i64 t208, .int .i64 t209, .int .i64 t210] 27 (0, 0))) ∧ (w'.heap[gb220]? = some (.cells #[.bool t215, .int .i64 t216, .int .i64 t217, .int .i64 t218] 27 (0, 0))) ∧ (w'.heap[s_]? = some (.cells #[.bool false, .int .i64 0, .int .i64 0, .int .i64 0] 27 (0, 0))) ∧ (w.heap.size ≤ s_) ∧ (w.heap.size ≤ s_) ∧ (gb192 ≠ s_) ∧ (s_ ≠ gb192) ∧ (gb198 ≠ s_) ∧ (s_ ≠ gb198) ∧ (gb212 ≠ s_) ∧ (s_ ≠ gb212) ∧ (gb220 ≠ s_) ∧ (s_ ≠ gb220) ∧ (Below w.heap.size w w')) ?_ ?_
                 rotate_left
                 ·intro hCont
                  refine two_ (i := 7) (j := 11) (Ni := some 156) (Nj := some 23) #[true, true, true, true, true, true, true, true, false, false, false, false, false, false] #[true, true, true, true, true, true, true, false, false, false, false, true, false, false] rfl rfl rfl rfl (two_of HT_.out (by kernel_rfl)) (by decide) (by decide) (fun K hK => ?_) (fun K hK => ?_)
                  ·skip
                   refine goes_ Tryd.func10 (by kernel_rfl) rfl #[.agg #[.bool t207, .int .i64 t208, .int .i64 t209, .int .i64 t210], .agg #[.string a0_0, .int .i64 a0_1, .int .i64 a0_2, .int .i64 a0_3, .int .i64 a0_4], .bool (rdOf false l1 x13_2), .int .i64 (wrap64 ((ji33) + x14_29))] (by rfl) rfl rfl (by (try simp only [List.map_toArray, List.map_cons, List.map_nil]); first | done | (simp only [hji33]; rfl) | rfl | (simp only [List.length_drop, List.length_take]; rfl)) ?_
                   with_reducible refine (health_Said.calls kj37 t207 t208 t209 t210 a0_0 a0_1 a0_2 a0_3 a0_4 (rdOf false l1 x13_2) (wrap64 ((ji33) + x14_29)) t226 t227 t228 t229 (some q232) _ ?side1 A84.out).mono ?_
                   (case side1 => first | exact hG | exact GInv.step hG tb)
                   rintro e w145 ⟨rfl, hb⟩
                   refine ⟨_, rfl, ?_⟩
                   have n0_ := Aside0.mk (blk_below (tk BK192.out) hb)
                   have n1_ := Aside0.mk (blk_below (tk BK198.out) hb)
                   have n2_ := Aside0.mk (blk_below (tk BK212.out) hb)
                   have n3_ := Aside0.mk (blk_below (tk BK220.out) hb)
                   have n4_ := Aside0.mk (below_step tb hb)
                   clear BK192
                   clear BK198
                   clear BK212
                   clear BK220
                   clear HB
                   have BK192 := n0_
                   have BK198 := n1_
                   have BK212 := n2_
                   have BK220 := n3_
                   have HB := n4_
                   clear n0_ n1_ n2_ n3_ n4_
                   (try clear hb)
                   (try clear hb2)
                   (try clear hk)
                   (try clear hi)
                   (try simp only [errW_none, errW_some])
                   refine hK.out _ _ ⟨(blk_cell BK212.out 0).trans rfl, (blk_cell BK212.out 1).trans rfl, (blk_cell BK212.out 2).trans rfl, (blk_cell BK212.out 3).trans rfl, (blk_cell BK192.out 0).trans rfl, (blk_cell BK192.out 1).trans rfl, (blk_cell BK192.out 2).trans rfl, (blk_cell BK192.out 3).trans rfl, (blk_cell BK192.out 4).trans rfl, ((HB.out.cell (World.block_lt_of_cell? w _ hw225_0)).trans hw225_0)⟩ (fun hHeld => ?_)
                   clear hK K
                   refine norm_ (a' := ?_) ?_ ?_
                   rotate_left
                   ·show Act.put _ (some 156) _ = _
                    simp only [Act.put, List.setIfInBounds_toArray, List.set_cons_zero, List.set_cons_succ, i64_w, i32_w]
                    rfl
                   refine pure_ (i := 8) (N := some 148) (v := ?_) (a' := ?_) #[true, true, true, true, true, true, true, true, true, false, false, false, false, false] rfl rfl (any_of HT_.out (by kernel_rfl)) (fun _ _ _ h => h) (Or.inl ⟨by rfl, ?_⟩) ?_ ?_
                   rotate_left
                   ·intro w'
                    go_simp
                    with_reducible rfl
                   rotate_left
                   ·simp only [Act.put, List.setIfInBounds_toArray, List.set_cons_zero, List.set_cons_succ, i64_w, i32_w]
                    rfl
                   refine pure_ (i := 9) (N := some 157) (v := ?_) (a' := ?_) #[true, true, true, true, true, true, true, true, true, true, false, false, false, false] rfl rfl (any_of HT_.out (by kernel_rfl)) (fun _ _ _ h => h) (Or.inl ⟨by rfl, ?_⟩) ?_ ?_
                   rotate_left
                   ·intro w'
                    go_simp
                    with_reducible rfl
                   rotate_left
                   ·simp only [Act.put, List.setIfInBounds_toArray, List.set_cons_zero, List.set_cons_succ, i64_w, i32_w]
                    rfl
                   refine pure_ (i := 10) (N := some 158) (v := ?_) (a' := ?_) #[true, true, true, true, true, true, true, true, true, true, true, false, false, false] rfl rfl (any_of HT_.out (by kernel_rfl)) (fun _ _ _ h => h) (Or.inl ⟨by rfl, ?_⟩) ?_ ?_
                   rotate_left
                   ·intro w'
                    go_simp
                    with_reducible rfl
                   rotate_left
                   ·simp only [Act.put, List.setIfInBounds_toArray, List.set_cons_zero, List.set_cons_succ, i64_w, i32_w]
                    rfl
                   refine one_ (i := 11) (N := some 23) #[true, true, true, true, true, true, true, true, true, true, true, true, false, false] rfl rfl (one_of HT_.out (by kernel_rfl)) (by decide) (fun K hK => ?_)
                   refine box_step ?hg (N := 23) ?hd (cs := #[.bool false, .int .i64 0, .int .i64 0, .int .i64 0]) (t := 27) ?hr ?_; (case hd => rfl); (case hg => rfl); (case hr => first | (go_simp; done) | (go_simp; rfl))
                   intro gb231 hg w146 hbox hb
                   have n0_ := Aside0.mk (blk_below (tk BK192.out) hb)
                   have n1_ := Aside0.mk (blk_below (tk BK198.out) hb)
                   have n2_ := Aside0.mk (blk_below (tk BK212.out) hb)
                   have n3_ := Aside0.mk (blk_below (tk BK220.out) hb)
                   have n4_ := Aside0.mk (below_step tb hb)
                   have n5_ := Aside0.mk (hbox)
                   have n6_ := Aside0.mk ((by rw [hg]; exact (below_size tb) : w.heap.size ≤ gb231))
                   have n7_ := Aside0.mk ((by rw [hg]; exact (below_size tb) : w.heap.size ≤ gb231))
                   have n8_ := Aside0.mk ((by rw [hg]; exact Nat.ne_of_lt (blk_lt (tk BK192.out)) : gb192 ≠ gb231))
                   have n9_ := Aside0.mk ((by rw [hg]; exact Nat.ne_of_gt (blk_lt (tk BK192.out)) : gb231 ≠ gb192))
                   have n10_ := Aside0.mk ((by rw [hg]; exact Nat.ne_of_lt (blk_lt (tk BK198.out)) : gb198 ≠ gb231))
                   have n11_ := Aside0.mk ((by rw [hg]; exact Nat.ne_of_gt (blk_lt (tk BK198.out)) : gb231 ≠ gb198))
                   have n12_ := Aside0.mk ((by rw [hg]; exact Nat.ne_of_lt (blk_lt (tk BK212.out)) : gb212 ≠ gb231))
                   have n13_ := Aside0.mk ((by rw [hg]; exact Nat.ne_of_gt (blk_lt (tk BK212.out)) : gb231 ≠ gb212))
                   have n14_ := Aside0.mk ((by rw [hg]; exact Nat.ne_of_lt (blk_lt (tk BK220.out)) : gb220 ≠ gb231))
                   have n15_ := Aside0.mk ((by rw [hg]; exact Nat.ne_of_gt (blk_lt (tk BK220.out)) : gb231 ≠ gb220))
                   clear BK192
                   clear BK198
                   clear BK212
                   clear BK220
                   clear HB
                   have BK192 := n0_
                   have BK198 := n1_
                   have BK212 := n2_
                   have BK220 := n3_
                   have HB := n4_
                   have BK231 := n5_
                   have GW231 := n6_
                   have GE231 := n7_
                   have NB192_231 := n8_
                   have NB231_192 := n9_
                   have NB198_231 := n10_
                   have NB231_198 := n11_
                   have NB212_231 := n12_
                   have NB231_212 := n13_
                   have NB220_231 := n14_
                   have NB231_220 := n15_
                   clear n0_ n1_ n2_ n3_ n4_ n5_ n6_ n7_ n8_ n9_ n10_ n11_ n12_ n13_ n14_ n15_
                   clear hb hbox hg
                   refine hK.out _ _ ⟨(blk_cell BK212.out 0).trans rfl, (blk_cell BK212.out 1).trans rfl, (blk_cell BK212.out 2).trans rfl, (blk_cell BK212.out 3).trans rfl, (blk_cell BK192.out 0).trans rfl, (blk_cell BK192.out 1).trans rfl, (blk_cell BK192.out 2).trans rfl, (blk_cell BK192.out 3).trans rfl, (blk_cell BK192.out 4).trans rfl, ((HB.out.cell (World.block_lt_of_cell? w _ hw225_0)).trans hw225_0)⟩ (fun hHeld => ?_)
                   clear hK K
                   refine norm_ (a' := ?_) ?_ ?_
                   rotate_left
                   ·show Act.put _ (some 23) _ = _
                    simp only [Act.put, List.setIfInBounds_toArray, List.set_cons_zero, List.set_cons_succ, i64_w, i32_w]
                    rfl
                   exact norm_ (by simp only [putAll, Act.put, List.setIfInBounds_toArray, List.set_cons_zero, List.set_cons_succ] <;> rfl) (hCont (gb231) _ ⟨hHeld, (tk BK192.out), (tk BK198.out), (tk BK212.out), (tk BK220.out), (tk BK231.out), GW231.out, GE231.out, NB192_231.out, NB231_192.out, NB198_231.out, NB231_198.out, NB212_231.out, NB231_212.out, NB220_231.out, NB231_220.out, tb⟩)
                  ·skip
                   refine box_step ?hg (N := 23) ?hd (cs := #[.bool false, .int .i64 0, .int .i64 0, .int .i64 0]) (t := 27) ?hr ?_; (case hd => rfl); (case hg => rfl); (case hr => first | (go_simp; done) | (go_simp; rfl))
                   intro gb231 hg w145 hbox hb
                   have n0_ := Aside0.mk (blk_below (tk BK192.out) hb)
                   have n1_ := Aside0.mk (blk_below (tk BK198.out) hb)
                   have n2_ := Aside0.mk (blk_below (tk BK212.out) hb)
                   have n3_ := Aside0.mk (blk_below (tk BK220.out) hb)
                   have n4_ := Aside0.mk (below_step tb hb)
                   have n5_ := Aside0.mk (hbox)
                   have n6_ := Aside0.mk ((by rw [hg]; exact (below_size tb) : w.heap.size ≤ gb231))
                   have n7_ := Aside0.mk ((by rw [hg]; exact (below_size tb) : w.heap.size ≤ gb231))
                   have n8_ := Aside0.mk ((by rw [hg]; exact Nat.ne_of_lt (blk_lt (tk BK192.out)) : gb192 ≠ gb231))
                   have n9_ := Aside0.mk ((by rw [hg]; exact Nat.ne_of_gt (blk_lt (tk BK192.out)) : gb231 ≠ gb192))
                   have n10_ := Aside0.mk ((by rw [hg]; exact Nat.ne_of_lt (blk_lt (tk BK198.out)) : gb198 ≠ gb231))
                   have n11_ := Aside0.mk ((by rw [hg]; exact Nat.ne_of_gt (blk_lt (tk BK198.out)) : gb231 ≠ gb198))
                   have n12_ := Aside0.mk ((by rw [hg]; exact Nat.ne_of_lt (blk_lt (tk BK212.out)) : gb212 ≠ gb231))
                   have n13_ := Aside0.mk ((by rw [hg]; exact Nat.ne_of_gt (blk_lt (tk BK212.out)) : gb231 ≠ gb212))
                   have n14_ := Aside0.mk ((by rw [hg]; exact Nat.ne_of_lt (blk_lt (tk BK220.out)) : gb220 ≠ gb231))
                   have n15_ := Aside0.mk ((by rw [hg]; exact Nat.ne_of_gt (blk_lt (tk BK220.out)) : gb231 ≠ gb220))
                   clear BK192
                   clear BK198
                   clear BK212
                   clear BK220
                   clear HB
                   have BK192 := n0_
                   have BK198 := n1_
                   have BK212 := n2_
                   have BK220 := n3_
                   have HB := n4_
                   have BK231 := n5_
                   have GW231 := n6_
                   have GE231 := n7_
                   have NB192_231 := n8_
                   have NB231_192 := n9_
                   have NB198_231 := n10_
                   have NB231_198 := n11_
                   have NB212_231 := n12_
                   have NB231_212 := n13_
                   have NB220_231 := n14_
                   have NB231_220 := n15_
                   clear n0_ n1_ n2_ n3_ n4_ n5_ n6_ n7_ n8_ n9_ n10_ n11_ n12_ n13_ n14_ n15_
                   clear hb hbox hg
                   refine hK.out _ _ ⟨(blk_cell BK212.out 0).trans rfl, (blk_cell BK212.out 1).trans rfl, (blk_cell BK212.out 2).trans rfl, (blk_cell BK212.out 3).trans rfl, (blk_cell BK192.out 0).trans rfl, (blk_cell BK192.out 1).trans rfl, (blk_cell BK192.out 2).trans rfl, (blk_cell BK192.out 3).trans rfl, (blk_cell BK192.out 4).trans rfl, ((HB.out.cell (World.block_lt_of_cell? w _ hw225_0)).trans hw225_0)⟩ (fun hHeld => ?_)
                   clear hK K
                   refine norm_ (a' := ?_) ?_ ?_
                   rotate_left
                   ·show Act.put _ (some 23) _ = _
                    simp only [Act.put, List.setIfInBounds_toArray, List.set_cons_zero, List.set_cons_succ, i64_w, i32_w]
                    rfl
                   refine one_ (i := 7) (N := some 156) #[true, true, true, true, true, true, true, true, false, false, false, true, false, false] rfl rfl (one_of HT_.out (by kernel_rfl)) (by decide) (fun K hK => ?_)
                   refine goes_ Tryd.func10 (by kernel_rfl) rfl #[.agg #[.bool t207, .int .i64 t208, .int .i64 t209, .int .i64 t210], .agg #[.string a0_0, .int .i64 a0_1, .int .i64 a0_2, .int .i64 a0_3, .int .i64 a0_4], .bool (rdOf false l1 x13_2), .int .i64 (wrap64 ((ji33) + x14_29))] (by rfl) rfl rfl (by (try simp only [List.map_toArray, List.map_cons, List.map_nil]); first | done | (simp only [hji33]; rfl) | rfl | (simp only [List.length_drop, List.length_take]; rfl)) ?_
                   with_reducible refine (health_Said.calls kj37 t207 t208 t209 t210 a0_0 a0_1 a0_2 a0_3 a0_4 (rdOf false l1 x13_2) (wrap64 ((ji33) + x14_29)) t226 t227 t228 t229 (some q232) _ ?side1 A84.out).mono ?_
                   (case side1 => first | exact hG | exact GInv.step hG tb)
                   rintro e w146 ⟨rfl, hb⟩
                   refine ⟨_, rfl, ?_⟩
                   have n0_ := Aside0.mk (blk_below (tk BK192.out) hb)
                   have n1_ := Aside0.mk (blk_below (tk BK198.out) hb)
                   have n2_ := Aside0.mk (blk_below (tk BK212.out) hb)
                   have n3_ := Aside0.mk (blk_below (tk BK220.out) hb)
                   have n4_ := Aside0.mk (blk_below (tk BK231.out) hb)
                   have n5_ := Aside0.mk (below_step tb hb)
                   clear BK192
                   clear BK198
                   clear BK212
                   clear BK220
                   clear BK231
                   clear HB
                   have BK192 := n0_
                   have BK198 := n1_
                   have BK212 := n2_
                   have BK220 := n3_
                   have BK231 := n4_
                   have HB := n5_
                   clear n0_ n1_ n2_ n3_ n4_ n5_
                   (try clear hb)
                   (try clear hb2)
                   (try clear hk)
                   (try clear hi)
                   (try simp only [errW_none, errW_some])
                   refine hK.out _ _ ⟨(blk_cell BK212.out 0).trans rfl, (blk_cell BK212.out 1).trans rfl, (blk_cell BK212.out 2).trans rfl, (blk_cell BK212.out 3).trans rfl, (blk_cell BK192.out 0).trans rfl, (blk_cell BK192.out 1).trans rfl, (blk_cell BK192.out 2).trans rfl, (blk_cell BK192.out 3).trans rfl, (blk_cell BK192.out 4).trans rfl, ((HB.out.cell (World.block_lt_of_cell? w _ hw225_0)).trans hw225_0)⟩ (fun hHeld => ?_)
                   clear hK K
                   refine norm_ (a' := ?_) ?_ ?_
                   rotate_left
                   ·show Act.put _ (some 156) _ = _
                    simp only [Act.put, List.setIfInBounds_toArray, List.set_cons_zero, List.set_cons_succ, i64_w, i32_w]
                    rfl
                   refine pure_ (i := 8) (N := some 148) (v := ?_) (a' := ?_) #[true, true, true, true, true, true, true, true, true, false, false, true, false, false] rfl rfl (any_of HT_.out (by kernel_rfl)) (fun _ _ _ h => h) (Or.inl ⟨by rfl, ?_⟩) ?_ ?_
                   rotate_left
                   ·intro w'
                    go_simp
                    with_reducible rfl
                   rotate_left
                   ·simp only [Act.put, List.setIfInBounds_toArray, List.set_cons_zero, List.set_cons_succ, i64_w, i32_w]
                    rfl
                   refine pure_ (i := 9) (N := some 157) (v := ?_) (a' := ?_) #[true, true, true, true, true, true, true, true, true, true, false, true, false, false] rfl rfl (any_of HT_.out (by kernel_rfl)) (fun _ _ _ h => h) (Or.inl ⟨by rfl, ?_⟩) ?_ ?_
                   rotate_left
                   ·intro w'
                    go_simp
                    with_reducible rfl
                   rotate_left
                   ·simp only [Act.put, List.setIfInBounds_toArray, List.set_cons_zero, List.set_cons_succ, i64_w, i32_w]
                    rfl
                   refine pure_ (i := 10) (N := some 158) (v := ?_) (a' := ?_) #[true, true, true, true, true, true, true, true, true, true, true, true, false, false] rfl rfl (any_of HT_.out (by kernel_rfl)) (fun _ _ _ h => h) (Or.inl ⟨by rfl, ?_⟩) ?_ ?_
                   rotate_left
                   ·intro w'
                    go_simp
                    with_reducible rfl
                   rotate_left
                   ·simp only [Act.put, List.setIfInBounds_toArray, List.set_cons_zero, List.set_cons_succ, i64_w, i32_w]
                    rfl
                   exact norm_ (by simp only [putAll, Act.put, List.setIfInBounds_toArray, List.set_cons_zero, List.set_cons_succ] <;> rfl) (hCont (gb231) _ ⟨hHeld, (tk BK192.out), (tk BK198.out), (tk BK212.out), (tk BK220.out), (tk BK231.out), GW231.out, GE231.out, NB192_231.out, NB231_192.out, NB198_231.out, NB231_198.out, NB212_231.out, NB231_212.out, NB220_231.out, NB231_220.out, tb⟩)
                 rintro gb231 w147 ⟨hS_, h0_, h1_, h2_, h3_, h4_, h5_, h6_, h7_, h8_, h9_, h10_, h11_, h12_, h13_, h14_, h15_⟩
                 have n0_ : Aside0 (w147.heap[gb192]? = some (.cells #[.string a0_0, .int .i64 a0_1, .int .i64 a0_2, .int .i64 a0_3, .int .i64 a0_4] 23 (0, 0))) := ⟨h0_⟩
                 have n1_ : Aside0 (w147.heap[gb198]? = some (.cells #[.bool x199000_2, .int .i64 x199001_2, .int .i64 x199002_2, .int .i64 x199003_2] 27 (0, 0))) := ⟨h1_⟩
                 have n2_ : Aside0 (w147.heap[gb212]? = some (.cells #[.bool t207, .int .i64 t208, .int .i64 t209, .int .i64 t210] 27 (0, 0))) := ⟨h2_⟩
                 have n3_ : Aside0 (w147.heap[gb220]? = some (.cells #[.bool t215, .int .i64 t216, .int .i64 t217, .int .i64 t218] 27 (0, 0))) := ⟨h3_⟩
                 have n4_ : Aside0 (w147.heap[gb231]? = some (.cells #[.bool false, .int .i64 0, .int .i64 0, .int .i64 0] 27 (0, 0))) := ⟨h4_⟩
                 have n5_ : Aside0 (w.heap.size ≤ gb231) := ⟨h5_⟩
                 have n6_ : Aside0 (w.heap.size ≤ gb231) := ⟨h6_⟩
                 have n7_ : Aside0 (gb192 ≠ gb231) := ⟨h7_⟩
                 have n8_ : Aside0 (gb231 ≠ gb192) := ⟨h8_⟩
                 have n9_ : Aside0 (gb198 ≠ gb231) := ⟨h9_⟩
                 have n10_ : Aside0 (gb231 ≠ gb198) := ⟨h10_⟩
                 have n11_ : Aside0 (gb212 ≠ gb231) := ⟨h11_⟩
                 have n12_ : Aside0 (gb231 ≠ gb212) := ⟨h12_⟩
                 have n13_ : Aside0 (gb220 ≠ gb231) := ⟨h13_⟩
                 have n14_ : Aside0 (gb231 ≠ gb220) := ⟨h14_⟩
                 have n15_ : Aside0 (Below w.heap.size w w147) := ⟨h15_⟩
                 clear BK192
                 clear BK198
                 clear BK212
                 clear BK220
                 clear HB
                 clear h0_ h1_ h2_ h3_ h4_ h5_ h6_ h7_ h8_ h9_ h10_ h11_ h12_ h13_ h14_ h15_
                 have BK192 := n0_
                 have BK198 := n1_
                 have BK212 := n2_
                 have BK220 := n3_
                 have BK231 := n4_
                 have GW231 := n5_
                 have GE231 := n6_
                 have NB192_231 := n7_
                 have NB231_192 := n8_
                 have NB198_231 := n9_
                 have NB231_198 := n10_
                 have NB212_231 := n11_
                 have NB231_212 := n12_
                 have NB220_231 := n13_
                 have NB231_220 := n14_
                 have HB := n15_
                 clear n0_ n1_ n2_ n3_ n4_ n5_ n6_ n7_ n8_ n9_ n10_ n11_ n12_ n13_ n14_ n15_
                 have hHeld : w147.cell? ⟨gb212, 0, none⟩ = some (.bool t207) ∧ w147.cell? ⟨gb212, 1, none⟩ = some (.int .i64 t208) ∧ w147.cell? ⟨gb212, 2, none⟩ = some (.int .i64 t209) ∧ w147.cell? ⟨gb212, 3, none⟩ = some (.int .i64 t210) ∧ w147.cell? ⟨gb192, 0, none⟩ = some (.string a0_0) ∧ w147.cell? ⟨gb192, 1, none⟩ = some (.int .i64 a0_1) ∧ w147.cell? ⟨gb192, 2, none⟩ = some (.int .i64 a0_2) ∧ w147.cell? ⟨gb192, 3, none⟩ = some (.int .i64 a0_3) ∧ w147.cell? ⟨gb192, 4, none⟩ = some (.int .i64 a0_4) ∧ w147.cell? (ad225.add (x13_2).toNat) = some (.bool (rdOf false l1 x13_2)) := hS_
                 refine norm_ (a' := ?_) ?_ ?_
                 rotate_left
                 ·simp only [putAll, Act.put, List.setIfInBounds_toArray, List.set_cons_zero, List.set_cons_succ]
                  rfl
                 refine one_ (i := 12) (N := none) #[true, true, true, true, true, true, true, true, true, true, true, true, true, false] rfl rfl (one_of HT_.out (by kernel_rfl)) (by decide) (fun K hK => ?_)
                 have hs148 : w147.cell? ⟨gb231, 0, none⟩ = some (.bool false) := (blk_cell BK231.out 0).trans rfl
                 have hfs148 := blk_frozen BK231.out 0
                 have hns148_0 := NB192_231.out
                 have hns148_1 := NB198_231.out
                 have hns148_2 := NB212_231.out
                 have hns148_3 := NB220_231.out
                 have hms148_0 := NB231_192.out
                 have hms148_1 := NB231_198.out
                 have hms148_2 := NB231_212.out
                 have hms148_3 := NB231_220.out
                 have hs149 : w147.cell? ⟨gb231, 1, none⟩ = some (.int .i64 0) := (blk_cell BK231.out 1).trans rfl
                 have hfs149 := blk_frozen BK231.out 1
                 have hns149_0 := NB192_231.out
                 have hns149_1 := NB198_231.out
                 have hns149_2 := NB212_231.out
                 have hns149_3 := NB220_231.out
                 have hms149_0 := NB231_192.out
                 have hms149_1 := NB231_198.out
                 have hms149_2 := NB231_212.out
                 have hms149_3 := NB231_220.out
                 have hs150 : w147.cell? ⟨gb231, 2, none⟩ = some (.int .i64 0) := (blk_cell BK231.out 2).trans rfl
                 have hfs150 := blk_frozen BK231.out 2
                 have hns150_0 := NB192_231.out
                 have hns150_1 := NB198_231.out
                 have hns150_2 := NB212_231.out
                 have hns150_3 := NB220_231.out
                 have hms150_0 := NB231_192.out
                 have hms150_1 := NB231_198.out
                 have hms150_2 := NB231_212.out
                 have hms150_3 := NB231_220.out
                 have hs151 : w147.cell? ⟨gb231, 3, none⟩ = some (.int .i64 0) := (blk_cell BK231.out 3).trans rfl
                 have hfs151 := blk_frozen BK231.out 3
                 have hns151_0 := NB192_231.out
                 have hns151_1 := NB198_231.out
                 have hns151_2 := NB212_231.out
                 have hns151_3 := NB220_231.out
                 have hms151_0 := NB231_192.out
                 have hms151_1 := NB231_198.out
                 have hms151_2 := NB231_212.out
                 have hms151_3 := NB231_220.out
                 refine skip_ (w1 := ?_) (by rfl) rfl ?_ ?_
                 rotate_left
                 ·go_simp
                  rfl
                 refine hK.out _ _ ⟨((cell_far (p := ⟨gb231, _, none⟩) NB212_231.out _).trans (((cell_far (p := ⟨gb231, _, none⟩) NB212_231.out _).trans (((cell_far (p := ⟨gb231, _, none⟩) NB212_231.out _).trans (((cell_far (p := ⟨gb231, _, none⟩) NB212_231.out _).trans (hHeld.1)))))))), ((cell_far (p := ⟨gb231, _, none⟩) NB212_231.out _).trans (((cell_far (p := ⟨gb231, _, none⟩) NB212_231.out _).trans (((cell_far (p := ⟨gb231, _, none⟩) NB212_231.out _).trans (((cell_far (p := ⟨gb231, _, none⟩) NB212_231.out _).trans (hHeld.2.1)))))))), ((cell_far (p := ⟨gb231, _, none⟩) NB212_231.out _).trans (((cell_far (p := ⟨gb231, _, none⟩) NB212_231.out _).trans (((cell_far (p := ⟨gb231, _, none⟩) NB212_231.out _).trans (((cell_far (p := ⟨gb231, _, none⟩) NB212_231.out _).trans (hHeld.2.2.1)))))))), ((cell_far (p := ⟨gb231, _, none⟩) NB212_231.out _).trans (((cell_far (p := ⟨gb231, _, none⟩) NB212_231.out _).trans (((cell_far (p := ⟨gb231, _, none⟩) NB212_231.out _).trans (((cell_far (p := ⟨gb231, _, none⟩) NB212_231.out _).trans (hHeld.2.2.2.1)))))))), ((cell_far (p := ⟨gb231, _, none⟩) NB192_231.out _).trans (((cell_far (p := ⟨gb231, _, none⟩) NB192_231.out _).trans (((cell_far (p := ⟨gb231, _, none⟩) NB192_231.out _).trans (((cell_far (p := ⟨gb231, _, none⟩) NB192_231.out _).trans (hHeld.2.2.2.2.1)))))))), ((cell_far (p := ⟨gb231, _, none⟩) NB192_231.out _).trans (((cell_far (p := ⟨gb231, _, none⟩) NB192_231.out _).trans (((cell_far (p := ⟨gb231, _, none⟩) NB192_231.out _).trans (((cell_far (p := ⟨gb231, _, none⟩) NB192_231.out _).trans (hHeld.2.2.2.2.2.1)))))))), ((cell_far (p := ⟨gb231, _, none⟩) NB192_231.out _).trans (((cell_far (p := ⟨gb231, _, none⟩) NB192_231.out _).trans (((cell_far (p := ⟨gb231, _, none⟩) NB192_231.out _).trans (((cell_far (p := ⟨gb231, _, none⟩) NB192_231.out _).trans (hHeld.2.2.2.2.2.2.1)))))))), ((cell_far (p := ⟨gb231, _, none⟩) NB192_231.out _).trans (((cell_far (p := ⟨gb231, _, none⟩) NB192_231.out _).trans (((cell_far (p := ⟨gb231, _, none⟩) NB192_231.out _).trans (((cell_far (p := ⟨gb231, _, none⟩) NB192_231.out _).trans (hHeld.2.2.2.2.2.2.2.1)))))))), ((cell_far (p := ⟨gb231, _, none⟩) NB192_231.out _).trans (((cell_far (p := ⟨gb231, _, none⟩) NB192_231.out _).trans (((cell_far (p := ⟨gb231, _, none⟩) NB192_231.out _).trans (((cell_far (p := ⟨gb231, _, none⟩) NB192_231.out _).trans (hHeld.2.2.2.2.2.2.2.2.1)))))))), ((cell_far (p := ⟨gb231, _, none⟩) (by first | exact Nat.ne_of_lt (Nat.lt_of_lt_of_le (by have := World.block_lt_of_cell? _ _ hw225_0; first | rwa [add_block] at this | exact this) GW231.out) | (rw [add_block]; exact Nat.ne_of_lt (Nat.lt_of_lt_of_le (by have := World.block_lt_of_cell? _ _ hw225_0; first | rwa [add_block] at this | exact this) GW231.out)) | (show (Addr.add _ _).block ≠ _; rw [add_block]; exact Nat.ne_of_lt (Nat.lt_of_lt_of_le (by have := World.block_lt_of_cell? _ _ hw225_0; first | rwa [add_block] at this | exact this) GW231.out)) | (dsimp only; exact Nat.ne_of_lt (Nat.lt_of_lt_of_le (by have := World.block_lt_of_cell? _ _ hw225_0; first | rwa [add_block] at this | exact this) GW231.out))) _).trans (((cell_far (p := ⟨gb231, _, none⟩) (by first | exact Nat.ne_of_lt (Nat.lt_of_lt_of_le (by have := World.block_lt_of_cell? _ _ hw225_0; first | rwa [add_block] at this | exact this) GW231.out) | (rw [add_block]; exact Nat.ne_of_lt (Nat.lt_of_lt_of_le (by have := World.block_lt_of_cell? _ _ hw225_0; first | rwa [add_block] at this | exact this) GW231.out)) | (show (Addr.add _ _).block ≠ _; rw [add_block]; exact Nat.ne_of_lt (Nat.lt_of_lt_of_le (by have := World.block_lt_of_cell? _ _ hw225_0; first | rwa [add_block] at this | exact this) GW231.out)) | (dsimp only; exact Nat.ne_of_lt (Nat.lt_of_lt_of_le (by have := World.block_lt_of_cell? _ _ hw225_0; first | rwa [add_block] at this | exact this) GW231.out))) _).trans (((cell_far (p := ⟨gb231, _, none⟩) (by first | exact Nat.ne_of_lt (Nat.lt_of_lt_of_le (by have := World.block_lt_of_cell? _ _ hw225_0; first | rwa [add_block] at this | exact this) GW231.out) | (rw [add_block]; exact Nat.ne_of_lt (Nat.lt_of_lt_of_le (by have := World.block_lt_of_cell? _ _ hw225_0; first | rwa [add_block] at this | exact this) GW231.out)) | (show (Addr.add _ _).block ≠ _; rw [add_block]; exact Nat.ne_of_lt (Nat.lt_of_lt_of_le (by have := World.block_lt_of_cell? _ _ hw225_0; first | rwa [add_block] at this | exact this) GW231.out)) | (dsimp only; exact Nat.ne_of_lt (Nat.lt_of_lt_of_le (by have := World.block_lt_of_cell? _ _ hw225_0; first | rwa [add_block] at this | exact this) GW231.out))) _).trans (((cell_far (p := ⟨gb231, _, none⟩) (by first | exact Nat.ne_of_lt (Nat.lt_of_lt_of_le (by have := World.block_lt_of_cell? _ _ hw225_0; first | rwa [add_block] at this | exact this) GW231.out) | (rw [add_block]; exact Nat.ne_of_lt (Nat.lt_of_lt_of_le (by have := World.block_lt_of_cell? _ _ hw225_0; first | rwa [add_block] at this | exact this) GW231.out)) | (show (Addr.add _ _).block ≠ _; rw [add_block]; exact Nat.ne_of_lt (Nat.lt_of_lt_of_le (by have := World.block_lt_of_cell? _ _ hw225_0; first | rwa [add_block] at this | exact this) GW231.out)) | (dsimp only; exact Nat.ne_of_lt (Nat.lt_of_lt_of_le (by have := World.block_lt_of_cell? _ _ hw225_0; first | rwa [add_block] at this | exact this) GW231.out))) _).trans (hHeld.2.2.2.2.2.2.2.2.2))))))))⟩ (fun hHeld => ?_)
                 clear hK K
                 refine pure_ (i := 13) (N := some 24) (v := ?_) (a' := ?_) #[true, true, true, true, true, true, true, true, true, true, true, true, true, true] rfl rfl (any_of HT_.out (by kernel_rfl)) (fun _ _ _ h => h) (Or.inl ⟨by rfl, ?_⟩) ?_ ?_
                 rotate_left
                 ·intro w'
                  go_simp
                  with_reducible rfl
                 rotate_left
                 ·simp only [Act.put, List.setIfInBounds_toArray, List.set_cons_zero, List.set_cons_succ, i64_w, i32_w]
                  rfl
                 refine done_ (done_of HT_.out (by kernel_rfl)) ?_
                 try go_wp2
                 go_ret
                 exact ⟨by first | rfl | (simp [errW_none, errW_some] <;> rfl) | (simp only [← hji33]; first | rfl | (simp [errW_none, errW_some] <;> rfl)) | (simp [*, errW_none, errW_some] <;> rfl), tb⟩
               ·rw [if_neg c83] at H
                exact absurd H (by simp)
              ·rw [if_neg c82] at H
               exact absurd H (by simp)
        ·replace c29 := Bool.eq_false_iff.mpr c29
         subst c29
         have H1 : ((turnstilelaw24_works.f kj26).bind fun t203 => (some t203)) = some r := by rw [if_neg (show ¬ (false = true) by decide)] at H; exact H
         clear H
         have H := H1
         clear H1
         replace H := Option.bind_eq_some_iff.mp H
         obtain ⟨t203, A1520, H⟩ := H
         replace H : (some t203) = some r := H
         have A152 := Aside0.mk A1520
         clear A1520
         obtain rfl := Option.some.inj H
         go_wp2_with (first | ((with_reducible refine gate_callee (f := 6) rfl ?_); refine goesL_ (some 193) rfl rfl Tryd.func6 (by kernel_rfl) rfl #[] rfl (by (try simp only [List.map_toArray, List.map_cons, List.map_nil]); first | done | rfl | (simp only [List.length_drop, List.length_take]; rfl)) ?_; (with_reducible refine (turnstilelaw24_works.calls kj26  t203 _ ?side1 A152.out).mono ?_); (case side1 => first | exact hG | exact GInv.step hG tb); rintro e w153 ⟨rfl, hb⟩; refine ⟨_, rfl, ?_⟩; have n0_ := Aside0.mk (blk_below (tk BK192.out) hb); have n1_ := Aside0.mk (blk_below (tk BK198.out) hb); have n2_ := Aside0.mk (below_step tb hb); clear BK192; clear BK198; clear HB; have BK192 := n0_; have BK198 := n1_; have HB := n2_; clear n0_ n1_ n2_; (try clear hb); (try clear hb2); (try clear hk); (try clear hi)))
         go_ret
         exact ⟨by first | rfl | (simp [errW_none, errW_some] <;> rfl) | (simp [*, errW_none, errW_some] <;> rfl), tb⟩

end Go.Proofs.YtcjlekakgjbiiaaDoor.XA
-- shrunk
end
