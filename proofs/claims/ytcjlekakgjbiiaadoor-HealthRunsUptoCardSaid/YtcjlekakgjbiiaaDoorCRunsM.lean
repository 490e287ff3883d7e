/- Proved: HealthRuns answers true for every rule, every row of answers and every row of waits, where what it reads is of bulk at most 1048576: the law's card in its second form. -/
import Derived.Test.YtcjlekakgjbiiaaDoorZR3
import Derived.Test.YtcjlekakgjbiiaaDoorZR4
import Derived.Test.YtcjlekakgjbiiaaDoorZR5
import Derived.Test.YtcjlekakgjbiiaaDoorCards
import Derived.Test.YtcjlekakgjbiiaaDoorTie
import Derived.ProofKit
import Derived.OpenShut
import Derived.Deep.DeepHandedRow
import Derived.ShutString
import Derived.Lay
import Derived.PinnedBridge
import Derived.Lib.LaidU8
import Derived.Lib.LaidCaseMet
import Derived.Lib.SmallJoins
import Derived.Carry
import Derived.ChangeArms
import Derived.WalkKit
import Derived.ChangeOld
import Derived.Below
import Derived.Deep.Grids
import Derived.ChangeSlices
/- Go functions of this seat as Lean functions, and their contracts, written by our program xprint.py over the kit's printer. -/
section
namespace Go.Proofs.YtcjlekakgjbiiaaDoor.XA
open Go.Proofs.YtcjlekakgjbiiaaDoor.Gv
attribute [local go_sem] Go.Proofs.YtcjlekakgjbiiaaDoor.Gv.set_again
open Go.RowKit Go.Proofs.YtcjlekakgjbiiaaDoorW.PrintWords Go.Proofs.YtcjlekakgjbiiaaDoorW.PrintLast Go.Proofs.YtcjlekakgjbiiaaDoorW.PrintMore
attribute [local go_sem] max2_int min2_int max_two min_two max_three min_three max_four min_four   -- for this text's walks alone
set_option linter.unusedVariables false
set_option linter.unusedSimpArgs false

/-! ### health_Late: function 11 -/
def health_Late.f (k : Nat) (a0_0 : Bool) (a0_1 : Int) (a0_2 : Int) (a0_3 : Int) (a1_0 : ByteArray) (a1_1 : Int) (a1_2 : Int) (a1_3 : Int) (a1_4 : Int) (a2 : Int) : Option (Bool × Option Int) := (health_check.f k a0_0 a0_1 a0_2 a0_3 a1_0 a1_1 a1_2 a1_3 a1_4 a2).bind fun t236 => (if t236.isNone = true then (if a0_3 ≥ 0 then (some (decide (a2 ≥ (wrap64 (a0_3 + a1_2))), none)) else (some (false, none))) else (some (false, some (t236.getD 0))))
theorem health_Late.mono : ∀ a0 a1 a2 a3 a4 a5 a6 a7 a8 a9 k, LeO (health_Late.f k a0 a1 a2 a3 a4 a5 a6 a7 a8 a9) (health_Late.f (k + 1) a0 a1 a2 a3 a4 a5 a6 a7 a8 a9) := by
 intro a0 a1 a2 a3 a4 a5 a6 a7 a8 a9 k
 unfold health_Late.f
 repeat' first
   | (with_reducible exact health_check.mono _ _ _ _ _ _ _ _ _ _ _)
   | (with_reducible exact LeO.refl _)
   | (with_reducible exact LeO.none _)
   | (with_reducible refine LeO.ite ?_ ?_)
   | (with_reducible refine LeO.bind ?_ (fun _ => ?_))
   | exact health_check.mono _ _ _ _ _ _ _ _ _ _ _
   | exact LeO.none _
   | refine LeO.ite ?_ ?_
   | refine LeO.bind ?_ (fun _ => ?_)
set_option maxHeartbeats 8000000 in
set_option maxRecDepth 100000 in
theorem health_Late.calls (k : Nat) (a0_0 : Bool) (a0_1 : Int) (a0_2 : Int) (a0_3 : Int) (a1_0 : ByteArray) (a1_1 : Int) (a1_2 : Int) (a1_3 : Int) (a1_4 : Int) (a2 : Int) (r1 : Bool) (r2 : Option Int) (w : World) (hG : Aside0 (GInv w)) (h : health_Late.f k a0_0 a0_1 a0_2 a0_3 a1_0 a1_1 a1_2 a1_3 a1_4 a2 = some (r1, r2)) :
  Calls Tryd.prog 11 #[.agg #[.bool a0_0, .int .i64 a0_1, .int .i64 a0_2, .int .i64 a0_3], .agg #[.string a1_0, .int .i64 a1_1, .int .i64 a1_2, .int .i64 a1_3, .int .i64 a1_4], .int .i64 a2] w fun e w' => e = .returned (.tuple #[.bool r1, errW r2]) ∧ Below w.heap.size w w' := by
 have hu27 := Tryd.underlying27
 have hu23 := Tryd.underlying23
 have hu29 := Tryd.underlying29
 have hu42 := Tryd.underlying42
 have HB := Aside0.mk (Below.refl w.heap.size w)
 have H : ((health_check.f k a0_0 a0_1 a0_2 a0_3 a1_0 a1_1 a1_2 a1_3 a1_4 a2).bind fun t236 => (if t236.isNone = true then (if a0_3 ≥ 0 then (some (decide (a2 ≥ (wrap64 (a0_3 + a1_2))), none)) else (some (false, none))) else (some (false, some (t236.getD 0))))) = some (r1, r2) := h
 clear h
 replace H := Option.bind_eq_some_iff.mp H
 obtain ⟨t236, A40, H⟩ := H
 replace H : (if t236.isNone = true then (if a0_3 ≥ 0 then (some (decide (a2 ≥ (wrap64 (a0_3 + a1_2))), none)) else (some (false, none))) else (some (false, some (t236.getD 0)))) = some (r1, r2) := H
 have A4 := Aside0.mk A40
 clear A40
 rcases t236 with _ | q237
 ·have H1 : (if a0_3 ≥ 0 then (some (decide (a2 ≥ (wrap64 (a0_3 + a1_2))), none)) else (some (false, none))) = some (r1, r2) := by rw [if_pos (show (none : Option Int).isNone = true by rfl)] at H; exact H
  clear H
  have H := H1
  clear H1
  try simp only [errW_none, errW_some]
  by_cases c5 : a0_3 ≥ 0
  ·rw [if_pos c5] at H
   have c5b0 : decide (0 ≤ a0_3) = true := decide_eq_true c5
   clear c5
   simp only [Option.some.injEq, Prod.mk.injEq] at H
   obtain ⟨rfl, rfl⟩ := H
   go_enter Tryd.func11, Tryd.ntmps11
   go_wp2_with (first | ((with_reducible refine gate_dst (N := 3) rfl ?_); refine box_event ?hg (N := 3) ?hd (cs := #[.bool a0_0, .int .i64 a0_1, .int .i64 a0_2, .int .i64 a0_3]) (t := 27) ?hr ?_; (case hd => rfl); (case hg => rfl); (case hr => first | (go_simp; done) | (go_simp; rfl)); intro gb234 hg w6 hbox hb; have n0_ := Aside0.mk (below_step tb hb); have n1_ := Aside0.mk (hbox); have n2_ := Aside0.mk ((by rw [hg]; exact (below_size tb) : w.heap.size ≤ gb234)); have n3_ := Aside0.mk ((by rw [hg]; exact (below_size tb) : w.heap.size ≤ gb234)); clear HB; have HB := n0_; have BK234 := n1_; have GW234 := n2_; have GE234 := n3_; clear n0_ n1_ n2_ n3_; clear hb hbox hg) | ((with_reducible refine gate_dst (N := 4) rfl ?_); refine box_event ?hg (N := 4) ?hd (cs := #[.string a1_0, .int .i64 a1_1, .int .i64 a1_2, .int .i64 a1_3, .int .i64 a1_4]) (t := 23) ?hr ?_; (case hd => rfl); (case hg => rfl); (case hr => first | (go_simp; done) | (go_simp; rfl)); intro gb235 hg w7 hbox hb; have n0_ := Aside0.mk (blk_below (tk BK234.out) hb); have n1_ := Aside0.mk (below_step tb hb); have n2_ := Aside0.mk (hbox); have n3_ := Aside0.mk ((by rw [hg]; exact (below_size tb) : w.heap.size ≤ gb235)); have n4_ := Aside0.mk ((by rw [hg]; exact (below_size tb) : w.heap.size ≤ gb235)); have n5_ := Aside0.mk ((by rw [hg]; exact Nat.ne_of_lt (blk_lt (tk BK234.out)) : gb234 ≠ gb235)); have n6_ := Aside0.mk ((by rw [hg]; exact Nat.ne_of_gt (blk_lt (tk BK234.out)) : gb235 ≠ gb234)); clear BK234; clear HB; have BK234 := n0_; have HB := n1_; have BK235 := n2_; have GW235 := n3_; have GE235 := n4_; have NB234_235 := n5_; have NB235_234 := n6_; clear n0_ n1_ n2_ n3_ n4_ n5_ n6_; clear hb hbox hg; have hnb8 := NB234_235.out; have hnc8 := NB235_234.out; have hcz9_0 : w7.cell? ⟨gb234, 0, none⟩ = some (.bool a0_0) := (blk_cell BK234.out 0).trans rfl; have hcz9_1 : w7.cell? ⟨gb234, 1, none⟩ = some (.int .i64 a0_1) := (blk_cell BK234.out 1).trans rfl; have hcz9_2 : w7.cell? ⟨gb234, 2, none⟩ = some (.int .i64 a0_2) := (blk_cell BK234.out 2).trans rfl; have hcz9_3 : w7.cell? ⟨gb234, 3, none⟩ = some (.int .i64 a0_3) := (blk_cell BK234.out 3).trans rfl; have hfz9_0 := blk_frozen BK234.out 0; have hfz9_1 := blk_frozen BK234.out 1; have hfz9_2 := blk_frozen BK234.out 2; have hfz9_3 := blk_frozen BK234.out 3; have hcz10_0 : w7.cell? ⟨gb235, 0, none⟩ = some (.string a1_0) := (blk_cell BK235.out 0).trans rfl; have hcz10_1 : w7.cell? ⟨gb235, 1, none⟩ = some (.int .i64 a1_1) := (blk_cell BK235.out 1).trans rfl; have hcz10_2 : w7.cell? ⟨gb235, 2, none⟩ = some (.int .i64 a1_2) := (blk_cell BK235.out 2).trans rfl; have hcz10_3 : w7.cell? ⟨gb235, 3, none⟩ = some (.int .i64 a1_3) := (blk_cell BK235.out 3).trans rfl; have hcz10_4 : w7.cell? ⟨gb235, 4, none⟩ = some (.int .i64 a1_4) := (blk_cell BK235.out 4).trans rfl; have hfz10_0 := blk_frozen BK235.out 0; have hfz10_1 := blk_frozen BK235.out 1; have hfz10_2 := blk_frozen BK235.out 2; have hfz10_3 := blk_frozen BK235.out 3; have hfz10_4 := blk_frozen BK235.out 4) | ((with_reducible refine gate_callee (f := 12) rfl ?_); refine goesL_ (some 12) rfl rfl Tryd.func12 (by kernel_rfl) rfl #[.agg #[.bool a0_0, .int .i64 a0_1, .int .i64 a0_2, .int .i64 a0_3], .agg #[.string a1_0, .int .i64 a1_1, .int .i64 a1_2, .int .i64 a1_3, .int .i64 a1_4], .int .i64 a2] rfl (by (try simp only [List.map_toArray, List.map_cons, List.map_nil]); first | done | rfl | (simp only [List.length_drop, List.length_take]; rfl)) ?_; (with_reducible refine (health_check.calls k a0_0 a0_1 a0_2 a0_3 a1_0 a1_1 a1_2 a1_3 a1_4 a2 none _ ?side1 A4.out).mono ?_); (case side1 => first | exact hG | exact GInv.step hG tb); rintro e w11 ⟨rfl, hb⟩; refine ⟨_, rfl, ?_⟩; have n0_ := Aside0.mk (blk_below (tk BK234.out) hb); have n1_ := Aside0.mk (blk_below (tk BK235.out) hb); have n2_ := Aside0.mk (below_step tb hb); clear BK234; clear BK235; clear HB; have BK234 := n0_; have BK235 := n1_; have HB := n2_; clear n0_ n1_ n2_; (try clear hb); (try clear hb2); (try clear hk); (try clear hi); (try simp only [errW_none, errW_some]); have hcz12_0 : w11.cell? ⟨gb234, 0, none⟩ = some (.bool a0_0) := (blk_cell BK234.out 0).trans rfl; have hcz12_1 : w11.cell? ⟨gb234, 1, none⟩ = some (.int .i64 a0_1) := (blk_cell BK234.out 1).trans rfl; have hcz12_2 : w11.cell? ⟨gb234, 2, none⟩ = some (.int .i64 a0_2) := (blk_cell BK234.out 2).trans rfl; have hcz12_3 : w11.cell? ⟨gb234, 3, none⟩ = some (.int .i64 a0_3) := (blk_cell BK234.out 3).trans rfl; have hfz12_0 := blk_frozen BK234.out 0; have hfz12_1 := blk_frozen BK234.out 1; have hfz12_2 := blk_frozen BK234.out 2; have hfz12_3 := blk_frozen BK234.out 3; have hcz13_0 : w11.cell? ⟨gb235, 0, none⟩ = some (.string a1_0) := (blk_cell BK235.out 0).trans rfl; have hcz13_1 : w11.cell? ⟨gb235, 1, none⟩ = some (.int .i64 a1_1) := (blk_cell BK235.out 1).trans rfl; have hcz13_2 : w11.cell? ⟨gb235, 2, none⟩ = some (.int .i64 a1_2) := (blk_cell BK235.out 2).trans rfl; have hcz13_3 : w11.cell? ⟨gb235, 3, none⟩ = some (.int .i64 a1_3) := (blk_cell BK235.out 3).trans rfl; have hcz13_4 : w11.cell? ⟨gb235, 4, none⟩ = some (.int .i64 a1_4) := (blk_cell BK235.out 4).trans rfl; have hfz13_0 := blk_frozen BK235.out 0; have hfz13_1 := blk_frozen BK235.out 1; have hfz13_2 := blk_frozen BK235.out 2; have hfz13_3 := blk_frozen BK235.out 3; have hfz13_4 := blk_frozen BK235.out 4))
   go_ret2
   exact ⟨by first | rfl | (simp [errW_none, errW_some] <;> rfl) | (simp [*, errW_none, errW_some] <;> rfl), tb⟩
  ·rw [if_neg c5] at H
   have c5b0 : decide (0 ≤ a0_3) = false := decide_eq_false c5
   clear c5
   simp only [Option.some.injEq, Prod.mk.injEq] at H
   obtain ⟨rfl, rfl⟩ := H
   go_enter Tryd.func11, Tryd.ntmps11
   go_wp2_with (first | ((with_reducible refine gate_dst (N := 3) rfl ?_); refine box_event ?hg (N := 3) ?hd (cs := #[.bool a0_0, .int .i64 a0_1, .int .i64 a0_2, .int .i64 a0_3]) (t := 27) ?hr ?_; (case hd => rfl); (case hg => rfl); (case hr => first | (go_simp; done) | (go_simp; rfl)); intro gb234 hg w14 hbox hb; have n0_ := Aside0.mk (below_step tb hb); have n1_ := Aside0.mk (hbox); have n2_ := Aside0.mk ((by rw [hg]; exact (below_size tb) : w.heap.size ≤ gb234)); have n3_ := Aside0.mk ((by rw [hg]; exact (below_size tb) : w.heap.size ≤ gb234)); clear HB; have HB := n0_; have BK234 := n1_; have GW234 := n2_; have GE234 := n3_; clear n0_ n1_ n2_ n3_; clear hb hbox hg) | ((with_reducible refine gate_dst (N := 4) rfl ?_); refine box_event ?hg (N := 4) ?hd (cs := #[.string a1_0, .int .i64 a1_1, .int .i64 a1_2, .int .i64 a1_3, .int .i64 a1_4]) (t := 23) ?hr ?_; (case hd => rfl); (case hg => rfl); (case hr => first | (go_simp; done) | (go_simp; rfl)); intro gb235 hg w15 hbox hb; have n0_ := Aside0.mk (blk_below (tk BK234.out) hb); have n1_ := Aside0.mk (below_step tb hb); have n2_ := Aside0.mk (hbox); have n3_ := Aside0.mk ((by rw [hg]; exact (below_size tb) : w.heap.size ≤ gb235)); have n4_ := Aside0.mk ((by rw [hg]; exact (below_size tb) : w.heap.size ≤ gb235)); have n5_ := Aside0.mk ((by rw [hg]; exact Nat.ne_of_lt (blk_lt (tk BK234.out)) : gb234 ≠ gb235)); have n6_ := Aside0.mk ((by rw [hg]; exact Nat.ne_of_gt (blk_lt (tk BK234.out)) : gb235 ≠ gb234)); clear BK234; clear HB; have BK234 := n0_; have HB := n1_; have BK235 := n2_; have GW235 := n3_; have GE235 := n4_; have NB234_235 := n5_; have NB235_234 := n6_; clear n0_ n1_ n2_ n3_ n4_ n5_ n6_; clear hb hbox hg; have hnb16 := NB234_235.out; have hnc16 := NB235_234.out; have hcz17_0 : w15.cell? ⟨gb234, 0, none⟩ = some (.bool a0_0) := (blk_cell BK234.out 0).trans rfl; have hcz17_1 : w15.cell? ⟨gb234, 1, none⟩ = some (.int .i64 a0_1) := (blk_cell BK234.out 1).trans rfl; have hcz17_2 : w15.cell? ⟨gb234, 2, none⟩ = some (.int .i64 a0_2) := (blk_cell BK234.out 2).trans rfl; have hcz17_3 : w15.cell? ⟨gb234, 3, none⟩ = some (.int .i64 a0_3) := (blk_cell BK234.out 3).trans rfl; have hfz17_0 := blk_frozen BK234.out 0; have hfz17_1 := blk_frozen BK234.out 1; have hfz17_2 := blk_frozen BK234.out 2; have hfz17_3 := blk_frozen BK234.out 3; have hcz18_0 : w15.cell? ⟨gb235, 0, none⟩ = some (.string a1_0) := (blk_cell BK235.out 0).trans rfl; have hcz18_1 : w15.cell? ⟨gb235, 1, none⟩ = some (.int .i64 a1_1) := (blk_cell BK235.out 1).trans rfl; have hcz18_2 : w15.cell? ⟨gb235, 2, none⟩ = some (.int .i64 a1_2) := (blk_cell BK235.out 2).trans rfl; have hcz18_3 : w15.cell? ⟨gb235, 3, none⟩ = some (.int .i64 a1_3) := (blk_cell BK235.out 3).trans rfl; have hcz18_4 : w15.cell? ⟨gb235, 4, none⟩ = some (.int .i64 a1_4) := (blk_cell BK235.out 4).trans rfl; have hfz18_0 := blk_frozen BK235.out 0; have hfz18_1 := blk_frozen BK235.out 1; have hfz18_2 := blk_frozen BK235.out 2; have hfz18_3 := blk_frozen BK235.out 3; have hfz18_4 := blk_frozen BK235.out 4) | ((with_reducible refine gate_callee (f := 12) rfl ?_); refine goesL_ (some 12) rfl rfl Tryd.func12 (by kernel_rfl) rfl #[.agg #[.bool a0_0, .int .i64 a0_1, .int .i64 a0_2, .int .i64 a0_3], .agg #[.string a1_0, .int .i64 a1_1, .int .i64 a1_2, .int .i64 a1_3, .int .i64 a1_4], .int .i64 a2] rfl (by (try simp only [List.map_toArray, List.map_cons, List.map_nil]); first | done | rfl | (simp only [List.length_drop, List.length_take]; rfl)) ?_; (with_reducible refine (health_check.calls k a0_0 a0_1 a0_2 a0_3 a1_0 a1_1 a1_2 a1_3 a1_4 a2 none _ ?side1 A4.out).mono ?_); (case side1 => first | exact hG | exact GInv.step hG tb); rintro e w19 ⟨rfl, hb⟩; refine ⟨_, rfl, ?_⟩; have n0_ := Aside0.mk (blk_below (tk BK234.out) hb); have n1_ := Aside0.mk (blk_below (tk BK235.out) hb); have n2_ := Aside0.mk (below_step tb hb); clear BK234; clear BK235; clear HB; have BK234 := n0_; have BK235 := n1_; have HB := n2_; clear n0_ n1_ n2_; (try clear hb); (try clear hb2); (try clear hk); (try clear hi); (try simp only [errW_none, errW_some]); have hcz20_0 : w19.cell? ⟨gb234, 0, none⟩ = some (.bool a0_0) := (blk_cell BK234.out 0).trans rfl; have hcz20_1 : w19.cell? ⟨gb234, 1, none⟩ = some (.int .i64 a0_1) := (blk_cell BK234.out 1).trans rfl; have hcz20_2 : w19.cell? ⟨gb234, 2, none⟩ = some (.int .i64 a0_2) := (blk_cell BK234.out 2).trans rfl; have hcz20_3 : w19.cell? ⟨gb234, 3, none⟩ = some (.int .i64 a0_3) := (blk_cell BK234.out 3).trans rfl; have hfz20_0 := blk_frozen BK234.out 0; have hfz20_1 := blk_frozen BK234.out 1; have hfz20_2 := blk_frozen BK234.out 2; have hfz20_3 := blk_frozen BK234.out 3))
   go_ret2
   exact ⟨by first | rfl | (simp [errW_none, errW_some] <;> rfl) | (simp [*, errW_none, errW_some] <;> rfl), tb⟩
 ·have H1 : (some (false, some q237)) = some (r1, r2) := by rw [if_neg (show ¬ (some q237).isNone = true by simp)] at H; exact H
  clear H
  have H := H1
  clear H1
  try simp only [errW_none, errW_some]
  simp only [Option.some.injEq, Prod.mk.injEq] at H
  obtain ⟨rfl, rfl⟩ := H
  go_enter Tryd.func11, Tryd.ntmps11
  go_wp2_with (first | ((with_reducible refine gate_dst (N := 3) rfl ?_); refine box_event ?hg (N := 3) ?hd (cs := #[.bool a0_0, .int .i64 a0_1, .int .i64 a0_2, .int .i64 a0_3]) (t := 27) ?hr ?_; (case hd => rfl); (case hg => rfl); (case hr => first | (go_simp; done) | (go_simp; rfl)); intro gb234 hg w21 hbox hb; have n0_ := Aside0.mk (below_step tb hb); have n1_ := Aside0.mk (hbox); have n2_ := Aside0.mk ((by rw [hg]; exact (below_size tb) : w.heap.size ≤ gb234)); have n3_ := Aside0.mk ((by rw [hg]; exact (below_size tb) : w.heap.size ≤ gb234)); clear HB; have HB := n0_; have BK234 := n1_; have GW234 := n2_; have GE234 := n3_; clear n0_ n1_ n2_ n3_; clear hb hbox hg) | ((with_reducible refine gate_dst (N := 4) rfl ?_); refine box_event ?hg (N := 4) ?hd (cs := #[.string a1_0, .int .i64 a1_1, .int .i64 a1_2, .int .i64 a1_3, .int .i64 a1_4]) (t := 23) ?hr ?_; (case hd => rfl); (case hg => rfl); (case hr => first | (go_simp; done) | (go_simp; rfl)); intro gb235 hg w22 hbox hb; have n0_ := Aside0.mk (blk_below (tk BK234.out) hb); have n1_ := Aside0.mk (below_step tb hb); have n2_ := Aside0.mk (hbox); have n3_ := Aside0.mk ((by rw [hg]; exact (below_size tb) : w.heap.size ≤ gb235)); have n4_ := Aside0.mk ((by rw [hg]; exact (below_size tb) : w.heap.size ≤ gb235)); have n5_ := Aside0.mk ((by rw [hg]; exact Nat.ne_of_lt (blk_lt (tk BK234.out)) : gb234 ≠ gb235)); have n6_ := Aside0.mk ((by rw [hg]; exact Nat.ne_of_gt (blk_lt (tk BK234.out)) : gb235 ≠ gb234)); clear BK234; clear HB; have BK234 := n0_; have HB := n1_; have BK235 := n2_; have GW235 := n3_; have GE235 := n4_; have NB234_235 := n5_; have NB235_234 := n6_; clear n0_ n1_ n2_ n3_ n4_ n5_ n6_; clear hb hbox hg; have hnb23 := NB234_235.out; have hnc23 := NB235_234.out; have hcz24_0 : w22.cell? ⟨gb234, 0, none⟩ = some (.bool a0_0) := (blk_cell BK234.out 0).trans rfl; have hcz24_1 : w22.cell? ⟨gb234, 1, none⟩ = some (.int .i64 a0_1) := (blk_cell BK234.out 1).trans rfl; have hcz24_2 : w22.cell? ⟨gb234, 2, none⟩ = some (.int .i64 a0_2) := (blk_cell BK234.out 2).trans rfl; have hcz24_3 : w22.cell? ⟨gb234, 3, none⟩ = some (.int .i64 a0_3) := (blk_cell BK234.out 3).trans rfl; have hfz24_0 := blk_frozen BK234.out 0; have hfz24_1 := blk_frozen BK234.out 1; have hfz24_2 := blk_frozen BK234.out 2; have hfz24_3 := blk_frozen BK234.out 3; have hcz25_0 : w22.cell? ⟨gb235, 0, none⟩ = some (.string a1_0) := (blk_cell BK235.out 0).trans rfl; have hcz25_1 : w22.cell? ⟨gb235, 1, none⟩ = some (.int .i64 a1_1) := (blk_cell BK235.out 1).trans rfl; have hcz25_2 : w22.cell? ⟨gb235, 2, none⟩ = some (.int .i64 a1_2) := (blk_cell BK235.out 2).trans rfl; have hcz25_3 : w22.cell? ⟨gb235, 3, none⟩ = some (.int .i64 a1_3) := (blk_cell BK235.out 3).trans rfl; have hcz25_4 : w22.cell? ⟨gb235, 4, none⟩ = some (.int .i64 a1_4) := (blk_cell BK235.out 4).trans rfl; have hfz25_0 := blk_frozen BK235.out 0; have hfz25_1 := blk_frozen BK235.out 1; have hfz25_2 := blk_frozen BK235.out 2; have hfz25_3 := blk_frozen BK235.out 3; have hfz25_4 := blk_frozen BK235.out 4) | ((with_reducible refine gate_callee (f := 12) rfl ?_); refine goesL_ (some 12) rfl rfl Tryd.func12 (by kernel_rfl) rfl #[.agg #[.bool a0_0, .int .i64 a0_1, .int .i64 a0_2, .int .i64 a0_3], .agg #[.string a1_0, .int .i64 a1_1, .int .i64 a1_2, .int .i64 a1_3, .int .i64 a1_4], .int .i64 a2] rfl (by (try simp only [List.map_toArray, List.map_cons, List.map_nil]); first | done | rfl | (simp only [List.length_drop, List.length_take]; rfl)) ?_; (with_reducible refine (health_check.calls k a0_0 a0_1 a0_2 a0_3 a1_0 a1_1 a1_2 a1_3 a1_4 a2 (some q237) _ ?side1 A4.out).mono ?_); (case side1 => first | exact hG | exact GInv.step hG tb); rintro e w26 ⟨rfl, hb⟩; refine ⟨_, rfl, ?_⟩; have n0_ := Aside0.mk (blk_below (tk BK234.out) hb); have n1_ := Aside0.mk (blk_below (tk BK235.out) hb); have n2_ := Aside0.mk (below_step tb hb); clear BK234; clear BK235; clear HB; have BK234 := n0_; have BK235 := n1_; have HB := n2_; clear n0_ n1_ n2_; (try clear hb); (try clear hb2); (try clear hk); (try clear hi); (try simp only [errW_none, errW_some])))
  go_ret2
  exact ⟨by first | rfl | (simp [errW_none, errW_some] <;> rfl) | (simp [*, errW_none, errW_some] <;> rfl), tb⟩

/-! ### turnstilelaw24_HealthLate: function 4 -/
def turnstilelaw24_HealthLate.j0 : Nat → Int → Int → Bool → ByteArray → Int → Int → Int → Int → Bool → Int → Int → Int → Option (Bool)
 | 0, _, _, _, _, _, _, _, _, _, _, _, _ => none
 | k + 1, x1, x2, x36, x239000, x239001, x239002, x239003, x239004, x245000, x245001, x245002, x245003 => if x36 = true then ((turnstilelaw24_works.f k).bind fun t246 => (some t246)) else ((health_Late.f k x245000 x245001 x245002 x245003 x239000 x239001 x239002 x239003 x239004 x1).bind fun bt247 => ((health_Send.f k x245000 x245001 x245002 x245003 x239000 x239001 x239002 x239003 x239004 x1).bind fun bt249 => ((health_Late.f k bt249.1 bt249.2.1 bt249.2.2.1 bt249.2.2.2.1 x239000 x239001 x239002 x239003 x239004 (wrap64 (x1 + (Int.tmod (wrap64 ((Int.tmod x2 100) + 100)) 100)))).bind fun bt255 => (if bt247.1 = true then (some false) else (if bt247.2.isNone = true then (if bt249.2.2.2.2.isNone = true then (if bt255.2.isNone = true then (if (bt255.1 == (decide ((Int.tmod (wrap64 ((Int.tmod x2 100) + 100)) 100) ≥ x239002))) = true then ((turnstilelaw24_works.f k).bind fun t260 => (some t260)) else (some false)) else (some false)) else (some false)) else (some false))))))
def turnstilelaw24_HealthLate.f (k : Nat) (a0_0 : ByteArray) (a0_1 : Int) (a0_2 : Int) (a0_3 : Int) (a0_4 : Int) (a1 : Int) (a2 : Int) : Option (Bool) := (health_New.f k a0_0 a0_1 a0_2 a0_3 a0_4 a1).bind fun bt239 => (if bt239.2.2.2.2.isNone = true then (if a0_1 = 0 then (turnstilelaw24_HealthLate.j0 k a1 a2 true a0_0 a0_1 a0_2 a0_3 a0_4 bt239.1 bt239.2.1 bt239.2.2.1 bt239.2.2.2.1) else (if a1 > 549755813888 then (turnstilelaw24_HealthLate.j0 k a1 a2 true a0_0 a0_1 a0_2 a0_3 a0_4 bt239.1 bt239.2.1 bt239.2.2.1 bt239.2.2.2.1) else (turnstilelaw24_HealthLate.j0 k a1 a2 (decide (a0_1 > 1073741824)) a0_0 a0_1 a0_2 a0_3 a0_4 bt239.1 bt239.2.1 bt239.2.2.1 bt239.2.2.2.1))) else (turnstilelaw24_HealthLate.j0 k a1 a2 true a0_0 a0_1 a0_2 a0_3 a0_4 bt239.1 bt239.2.1 bt239.2.2.1 bt239.2.2.2.1))
theorem turnstilelaw24_HealthLate.mono_l : ∀ k, (∀ y0 y1 y2 y3 y4 y5 y6 y7 y8 y9 y10 y11, LeO (turnstilelaw24_HealthLate.j0 k y0 y1 y2 y3 y4 y5 y6 y7 y8 y9 y10 y11) (turnstilelaw24_HealthLate.j0 (k + 1) y0 y1 y2 y3 y4 y5 y6 y7 y8 y9 y10 y11))
 | 0 => fun _ _ _ _ _ _ _ _ _ _ _ _ r h => by simp [turnstilelaw24_HealthLate.j0] at h
 | k + 1 => by
  have ih0 := turnstilelaw24_HealthLate.mono_l k
  ·intro y0 y1 y2 y3 y4 y5 y6 y7 y8 y9 y10 y11
   unfold turnstilelaw24_HealthLate.j0
   repeat' first
   | (with_reducible exact ih0 _ _ _ _ _ _ _ _ _ _ _ _)
   | (with_reducible exact health_Late.mono _ _ _ _ _ _ _ _ _ _ _)
   | (with_reducible exact health_New.mono _ _ _ _ _ _ _)
   | (with_reducible exact health_Send.mono _ _ _ _ _ _ _ _ _ _ _)
   | (with_reducible exact turnstilelaw24_works.mono _)
   | (with_reducible exact LeO.refl _)
   | (with_reducible exact LeO.none _)
   | (with_reducible refine LeO.ite ?_ ?_)
   | (with_reducible refine LeO.bind ?_ (fun _ => ?_))
   | exact ih0 _ _ _ _ _ _ _ _ _ _ _ _
   | exact health_Late.mono _ _ _ _ _ _ _ _ _ _ _
   | exact health_New.mono _ _ _ _ _ _ _
   | exact health_Send.mono _ _ _ _ _ _ _ _ _ _ _
   | exact turnstilelaw24_works.mono _
   | exact LeO.none _
   | refine LeO.ite ?_ ?_
   | refine LeO.bind ?_ (fun _ => ?_)
theorem turnstilelaw24_HealthLate.mono : ∀ a0 a1 a2 a3 a4 a5 a6 k, LeO (turnstilelaw24_HealthLate.f k a0 a1 a2 a3 a4 a5 a6) (turnstilelaw24_HealthLate.f (k + 1) a0 a1 a2 a3 a4 a5 a6) := by
 intro a0 a1 a2 a3 a4 a5 a6 k
 have ih0 := turnstilelaw24_HealthLate.mono_l k
 unfold turnstilelaw24_HealthLate.f
 repeat' first
   | (with_reducible exact ih0 _ _ _ _ _ _ _ _ _ _ _ _)
   | (with_reducible exact health_Late.mono _ _ _ _ _ _ _ _ _ _ _)
   | (with_reducible exact health_New.mono _ _ _ _ _ _ _)
   | (with_reducible exact health_Send.mono _ _ _ _ _ _ _ _ _ _ _)
   | (with_reducible exact turnstilelaw24_works.mono _)
   | (with_reducible exact LeO.refl _)
   | (with_reducible exact LeO.none _)
   | (with_reducible refine LeO.ite ?_ ?_)
   | (with_reducible refine LeO.bind ?_ (fun _ => ?_))
   | exact ih0 _ _ _ _ _ _ _ _ _ _ _ _
   | exact health_Late.mono _ _ _ _ _ _ _ _ _ _ _
   | exact health_New.mono _ _ _ _ _ _ _
   | exact health_Send.mono _ _ _ _ _ _ _ _ _ _ _
   | exact turnstilelaw24_works.mono _
   | exact LeO.none _
   | refine LeO.ite ?_ ?_
   | refine LeO.bind ?_ (fun _ => ?_)
set_option maxHeartbeats 8000000 in
set_option maxRecDepth 100000 in
theorem turnstilelaw24_HealthLate.calls (k : Nat) (a0_0 : ByteArray) (a0_1 : Int) (a0_2 : Int) (a0_3 : Int) (a0_4 : Int) (a1 : Int) (a2 : Int) (r : Bool) (w : World) (hG : Aside0 (GInv w)) (h : turnstilelaw24_HealthLate.f k a0_0 a0_1 a0_2 a0_3 a0_4 a1 a2 = some r) :
  Calls Tryd.prog 4 #[.agg #[.string a0_0, .int .i64 a0_1, .int .i64 a0_2, .int .i64 a0_3, .int .i64 a0_4], .int .i64 a1, .int .i64 a2] w fun e w' => e = .returned (.bool r) ∧ Below w.heap.size w w' := by
 have hu23 := Tryd.underlying23
 have hu27 := Tryd.underlying27
 have hu29 := Tryd.underlying29
 have hu42 := Tryd.underlying42
 have HB := Aside0.mk (Below.refl w.heap.size w)
 have H : ((health_New.f k a0_0 a0_1 a0_2 a0_3 a0_4 a1).bind fun bt239 => (if bt239.2.2.2.2.isNone = true then (if a0_1 = 0 then (turnstilelaw24_HealthLate.j0 k a1 a2 true a0_0 a0_1 a0_2 a0_3 a0_4 bt239.1 bt239.2.1 bt239.2.2.1 bt239.2.2.2.1) else (if a1 > 549755813888 then (turnstilelaw24_HealthLate.j0 k a1 a2 true a0_0 a0_1 a0_2 a0_3 a0_4 bt239.1 bt239.2.1 bt239.2.2.1 bt239.2.2.2.1) else (turnstilelaw24_HealthLate.j0 k a1 a2 (decide (a0_1 > 1073741824)) a0_0 a0_1 a0_2 a0_3 a0_4 bt239.1 bt239.2.1 bt239.2.2.1 bt239.2.2.2.1))) else (turnstilelaw24_HealthLate.j0 k a1 a2 true a0_0 a0_1 a0_2 a0_3 a0_4 bt239.1 bt239.2.1 bt239.2.2.1 bt239.2.2.2.1))) = some r := h
 clear h
 replace H := Option.bind_eq_some_iff.mp H
 obtain ⟨⟨t239, t240, t241, t242, t243⟩, A40, H⟩ := H
 replace H : (if t243.isNone = true then (if a0_1 = 0 then (turnstilelaw24_HealthLate.j0 k a1 a2 true a0_0 a0_1 a0_2 a0_3 a0_4 t239 t240 t241 t242) else (if a1 > 549755813888 then (turnstilelaw24_HealthLate.j0 k a1 a2 true a0_0 a0_1 a0_2 a0_3 a0_4 t239 t240 t241 t242) else (turnstilelaw24_HealthLate.j0 k a1 a2 (decide (a0_1 > 1073741824)) a0_0 a0_1 a0_2 a0_3 a0_4 t239 t240 t241 t242))) else (turnstilelaw24_HealthLate.j0 k a1 a2 true a0_0 a0_1 a0_2 a0_3 a0_4 t239 t240 t241 t242)) = some r := H
 have A4 := Aside0.mk A40
 clear A40
 have HC5 := Aside0.mk H
 clear H
 go_enter Tryd.func4, Tryd.ntmps4
 go_upto_region 2 with (first | ((with_reducible refine gate_dst (N := 3) rfl ?_); refine box_event ?hg (N := 3) ?hd (cs := #[.string a0_0, .int .i64 a0_1, .int .i64 a0_2, .int .i64 a0_3, .int .i64 a0_4]) (t := 23) ?hr ?_; (case hd => rfl); (case hg => rfl); (case hr => first | (go_simp; done) | (go_simp; rfl)); intro gb238 hg w6 hbox hb; have n0_ := Aside0.mk (below_step tb hb); have n1_ := Aside0.mk (hbox); have n2_ := Aside0.mk ((by rw [hg]; exact (below_size tb) : w.heap.size ≤ gb238)); have n3_ := Aside0.mk ((by rw [hg]; exact (below_size tb) : w.heap.size ≤ gb238)); clear HB; have HB := n0_; have BK238 := n1_; have GW238 := n2_; have GE238 := n3_; clear n0_ n1_ n2_ n3_; clear hb hbox hg; have hcz7_0 : w6.cell? ⟨gb238, 0, none⟩ = some (.string a0_0) := (blk_cell BK238.out 0).trans rfl; have hcz7_1 : w6.cell? ⟨gb238, 1, none⟩ = some (.int .i64 a0_1) := (blk_cell BK238.out 1).trans rfl; have hcz7_2 : w6.cell? ⟨gb238, 2, none⟩ = some (.int .i64 a0_2) := (blk_cell BK238.out 2).trans rfl; have hcz7_3 : w6.cell? ⟨gb238, 3, none⟩ = some (.int .i64 a0_3) := (blk_cell BK238.out 3).trans rfl; have hcz7_4 : w6.cell? ⟨gb238, 4, none⟩ = some (.int .i64 a0_4) := (blk_cell BK238.out 4).trans rfl; have hfz7_0 := blk_frozen BK238.out 0; have hfz7_1 := blk_frozen BK238.out 1; have hfz7_2 := blk_frozen BK238.out 2; have hfz7_3 := blk_frozen BK238.out 3; have hfz7_4 := blk_frozen BK238.out 4) | ((with_reducible refine gate_callee (f := 5) rfl ?_); refine goesL_ (some 18) rfl rfl Tryd.func5 (by kernel_rfl) rfl #[.agg #[.string a0_0, .int .i64 a0_1, .int .i64 a0_2, .int .i64 a0_3, .int .i64 a0_4], .int .i64 a1] rfl (by (try simp only [List.map_toArray, List.map_cons, List.map_nil]); first | done | rfl | (simp only [List.length_drop, List.length_take]; rfl)) ?_; (with_reducible refine (health_New.calls k a0_0 a0_1 a0_2 a0_3 a0_4 a1 t239 t240 t241 t242 t243 _ ?side1 A4.out).mono ?_); (case side1 => first | exact hG | exact GInv.step hG tb); rintro e w8 ⟨rfl, hb⟩; refine ⟨_, rfl, ?_⟩; have n0_ := Aside0.mk (blk_below (tk BK238.out) hb); have n1_ := Aside0.mk (below_step tb hb); clear BK238; clear HB; have BK238 := n0_; have HB := n1_; clear n0_ n1_; (try clear hb); (try clear hb2); (try clear hk); (try clear hi); (try simp only [errW_none, errW_some])) | ((with_reducible refine gate_dst (N := 7) rfl ?_); refine box_event ?hg (N := 7) ?hd (cs := #[.bool false, .int .i64 0, .int .i64 0, .int .i64 0]) (t := 27) ?hr ?_; (case hd => rfl); (case hg => rfl); (case hr => first | (go_simp; done) | (go_simp; rfl)); intro gb244 hg w9 hbox hb; have n0_ := Aside0.mk (blk_below (tk BK238.out) hb); have n1_ := Aside0.mk (below_step tb hb); have n2_ := Aside0.mk (hbox); have n3_ := Aside0.mk ((by rw [hg]; exact (below_size tb) : w.heap.size ≤ gb244)); have n4_ := Aside0.mk ((by rw [hg]; exact (below_size tb) : w.heap.size ≤ gb244)); have n5_ := Aside0.mk ((by rw [hg]; exact Nat.ne_of_lt (blk_lt (tk BK238.out)) : gb238 ≠ gb244)); have n6_ := Aside0.mk ((by rw [hg]; exact Nat.ne_of_gt (blk_lt (tk BK238.out)) : gb244 ≠ gb238)); clear BK238; clear HB; have BK238 := n0_; have HB := n1_; have BK244 := n2_; have GW244 := n3_; have GE244 := n4_; have NB238_244 := n5_; have NB244_238 := n6_; clear n0_ n1_ n2_ n3_ n4_ n5_ n6_; clear hb hbox hg; have hnb10 := NB244_238.out; have hnc10 := NB238_244.out; have hcz11_0 : w9.cell? ⟨gb244, 0, none⟩ = some (.bool false) := (blk_cell BK244.out 0).trans rfl; have hcz11_1 : w9.cell? ⟨gb244, 1, none⟩ = some (.int .i64 0) := (blk_cell BK244.out 1).trans rfl; have hcz11_2 : w9.cell? ⟨gb244, 2, none⟩ = some (.int .i64 0) := (blk_cell BK244.out 2).trans rfl; have hcz11_3 : w9.cell? ⟨gb244, 3, none⟩ = some (.int .i64 0) := (blk_cell BK244.out 3).trans rfl; have hfz11_0 := blk_frozen BK244.out 0; have hfz11_1 := blk_frozen BK244.out 1; have hfz11_2 := blk_frozen BK244.out 2; have hfz11_3 := blk_frozen BK244.out 3))
 (try simp only [Act.put, List.setIfInBounds_toArray, List.set_cons_zero, List.set_cons_succ])
 go_cut [36] (fun v36 wc => ∃ (kq : Nat) (x36_4 : Bool), v36 = .bool x36_4 ∧ Aside0 (turnstilelaw24_HealthLate.j0 kq a1 a2 x36_4 a0_0 a0_1 a0_2 a0_3 a0_4 t239 t240 t241 t242 = some r) ∧ Aside0 (kq ≤ k) ∧ Aside0 (wc.heap[gb238]? = some (.cells #[.string a0_0, .int .i64 a0_1, .int .i64 a0_2, .int .i64 a0_3, .int .i64 a0_4] 23 (0, 0))) ∧ Aside0 (wc.heap[gb244]? = some (.cells #[.bool t239, .int .i64 t240, .int .i64 t241, .int .i64 t242] 27 (0, 0))) ∧ Aside0 (Below w.heap.size w wc))
 case first =>
  have H := HC5.out
  clear HC5
  rcases t243 with _ | q245
  ·have H1 : (if a0_1 = 0 then (turnstilelaw24_HealthLate.j0 k a1 a2 true a0_0 a0_1 a0_2 a0_3 a0_4 t239 t240 t241 t242) else (if a1 > 549755813888 then (turnstilelaw24_HealthLate.j0 k a1 a2 true a0_0 a0_1 a0_2 a0_3 a0_4 t239 t240 t241 t242) else (turnstilelaw24_HealthLate.j0 k a1 a2 (decide (a0_1 > 1073741824)) a0_0 a0_1 a0_2 a0_3 a0_4 t239 t240 t241 t242))) = some r := by rw [if_pos (show (none : Option Int).isNone = true by rfl)] at H; exact H
   clear H
   have H := H1
   clear H1
   try simp only [errW_none, errW_some]
   by_cases c12 : a0_1 = 0
   ·rw [if_pos c12] at H
    have c12b0 : (a0_1 == 0) = true := beq_iff_eq.mpr c12
    have c12b1 : (a0_1 != 0) = false := bne_eq_false_iff_eq.mpr c12
    clear c12
    (first | rw [c12b0] | (simp only [i64_w, i32_w]; rw [c12b0]) | skip)
    have H' := Aside0.mk H
    clear H
    have hnb13 := NB238_244.out
    have hnc13 := NB244_238.out
    have hcz14_0 : w9.cell? ⟨gb238, 0, none⟩ = some (.string a0_0) := (blk_cell BK238.out 0).trans rfl
    have hcz14_1 : w9.cell? ⟨gb238, 1, none⟩ = some (.int .i64 a0_1) := (blk_cell BK238.out 1).trans rfl
    have hcz14_2 : w9.cell? ⟨gb238, 2, none⟩ = some (.int .i64 a0_2) := (blk_cell BK238.out 2).trans rfl
    have hcz14_3 : w9.cell? ⟨gb238, 3, none⟩ = some (.int .i64 a0_3) := (blk_cell BK238.out 3).trans rfl
    have hcz14_4 : w9.cell? ⟨gb238, 4, none⟩ = some (.int .i64 a0_4) := (blk_cell BK238.out 4).trans rfl
    have hfz14_0 := blk_frozen BK238.out 0
    have hfz14_1 := blk_frozen BK238.out 1
    have hfz14_2 := blk_frozen BK238.out 2
    have hfz14_3 := blk_frozen BK238.out 3
    have hfz14_4 := blk_frozen BK238.out 4
    go_wp2
    go_meet
    case rel => exact ⟨_, (true), (by first | rfl | (simp; done) | (simp [*]; done)), H', ⟨by first | omega | exact Nat.le_refl _⟩, ⟨by (with_reducible repeat (first | refine blk_drewN ?_ _ | refine blk_drew ?_ | refine blk_alloc ?_ _)); refine blk_far ?_ NB238_244.out _; (with_reducible repeat (first | refine blk_drewN ?_ _ | refine blk_drew ?_ | refine blk_alloc ?_ _)); refine blk_far ?_ NB238_244.out _; (with_reducible repeat (first | refine blk_drewN ?_ _ | refine blk_drew ?_ | refine blk_alloc ?_ _)); refine blk_far ?_ NB238_244.out _; (with_reducible repeat (first | refine blk_drewN ?_ _ | refine blk_drew ?_ | refine blk_alloc ?_ _)); refine blk_far ?_ NB238_244.out _; (with_reducible repeat (first | refine blk_drewN ?_ _ | refine blk_drew ?_ | refine blk_alloc ?_ _)); exact BK238.out⟩, ⟨by (with_reducible repeat (first | refine blk_drewN ?_ _ | refine blk_drew ?_ | refine blk_alloc ?_ _)); refine blk_put (cs := #[.bool t239, .int .i64 t240, .int .i64 t241, .int .i64 0]) ?_ 3 _ rfl; (with_reducible repeat (first | refine blk_drewN ?_ _ | refine blk_drew ?_ | refine blk_alloc ?_ _)); refine blk_put (cs := #[.bool t239, .int .i64 t240, .int .i64 0, .int .i64 0]) ?_ 2 _ rfl; (with_reducible repeat (first | refine blk_drewN ?_ _ | refine blk_drew ?_ | refine blk_alloc ?_ _)); refine blk_put (cs := #[.bool t239, .int .i64 0, .int .i64 0, .int .i64 0]) ?_ 1 _ rfl; (with_reducible repeat (first | refine blk_drewN ?_ _ | refine blk_drew ?_ | refine blk_alloc ?_ _)); refine blk_put (cs := #[.bool false, .int .i64 0, .int .i64 0, .int .i64 0]) ?_ 0 _ rfl; (with_reducible repeat (first | refine blk_drewN ?_ _ | refine blk_drew ?_ | refine blk_alloc ?_ _)); exact BK244.out⟩, ⟨tb⟩⟩
   ·rw [if_neg c12] at H
    have c12b0 : (a0_1 == 0) = false := beq_eq_false_iff_ne.mpr c12
    have c12b1 : (a0_1 != 0) = true := bne_iff_ne.mpr c12
    (first | rw [c12b0] | (simp only [i64_w, i32_w]; rw [c12b0]) | skip)
    by_cases c15 : a1 > 549755813888
    ·rw [if_pos c15] at H
     have c15b0 : decide (549755813888 < a1) = true := decide_eq_true c15
     clear c15
     have H' := Aside0.mk H
     clear H
     have hnb16 := NB238_244.out
     have hnc16 := NB244_238.out
     have hcz17_0 : w9.cell? ⟨gb238, 0, none⟩ = some (.string a0_0) := (blk_cell BK238.out 0).trans rfl
     have hcz17_1 : w9.cell? ⟨gb238, 1, none⟩ = some (.int .i64 a0_1) := (blk_cell BK238.out 1).trans rfl
     have hcz17_2 : w9.cell? ⟨gb238, 2, none⟩ = some (.int .i64 a0_2) := (blk_cell BK238.out 2).trans rfl
     have hcz17_3 : w9.cell? ⟨gb238, 3, none⟩ = some (.int .i64 a0_3) := (blk_cell BK238.out 3).trans rfl
     have hcz17_4 : w9.cell? ⟨gb238, 4, none⟩ = some (.int .i64 a0_4) := (blk_cell BK238.out 4).trans rfl
     have hfz17_0 := blk_frozen BK238.out 0
     have hfz17_1 := blk_frozen BK238.out 1
     have hfz17_2 := blk_frozen BK238.out 2
     have hfz17_3 := blk_frozen BK238.out 3
     have hfz17_4 := blk_frozen BK238.out 4
     go_wp2
     go_meet
     case rel => exact ⟨_, (true), (by first | rfl | (simp; done) | (simp [*]; done)), H', ⟨by first | omega | exact Nat.le_refl _⟩, ⟨by (with_reducible repeat (first | refine blk_drewN ?_ _ | refine blk_drew ?_ | refine blk_alloc ?_ _)); refine blk_far ?_ NB238_244.out _; (with_reducible repeat (first | refine blk_drewN ?_ _ | refine blk_drew ?_ | refine blk_alloc ?_ _)); refine blk_far ?_ NB238_244.out _; (with_reducible repeat (first | refine blk_drewN ?_ _ | refine blk_drew ?_ | refine blk_alloc ?_ _)); refine blk_far ?_ NB238_244.out _; (with_reducible repeat (first | refine blk_drewN ?_ _ | refine blk_drew ?_ | refine blk_alloc ?_ _)); refine blk_far ?_ NB238_244.out _; (with_reducible repeat (first | refine blk_drewN ?_ _ | refine blk_drew ?_ | refine blk_alloc ?_ _)); exact BK238.out⟩, ⟨by (with_reducible repeat (first | refine blk_drewN ?_ _ | refine blk_drew ?_ | refine blk_alloc ?_ _)); refine blk_put (cs := #[.bool t239, .int .i64 t240, .int .i64 t241, .int .i64 0]) ?_ 3 _ rfl; (with_reducible repeat (first | refine blk_drewN ?_ _ | refine blk_drew ?_ | refine blk_alloc ?_ _)); refine blk_put (cs := #[.bool t239, .int .i64 t240, .int .i64 0, .int .i64 0]) ?_ 2 _ rfl; (with_reducible repeat (first | refine blk_drewN ?_ _ | refine blk_drew ?_ | refine blk_alloc ?_ _)); refine blk_put (cs := #[.bool t239, .int .i64 0, .int .i64 0, .int .i64 0]) ?_ 1 _ rfl; (with_reducible repeat (first | refine blk_drewN ?_ _ | refine blk_drew ?_ | refine blk_alloc ?_ _)); refine blk_put (cs := #[.bool false, .int .i64 0, .int .i64 0, .int .i64 0]) ?_ 0 _ rfl; (with_reducible repeat (first | refine blk_drewN ?_ _ | refine blk_drew ?_ | refine blk_alloc ?_ _)); exact BK244.out⟩, ⟨tb⟩⟩
    ·rw [if_neg c15] at H
     have c15b0 : decide (549755813888 < a1) = false := decide_eq_false c15
     clear c15
     have H' := Aside0.mk H
     clear H
     have hnb18 := NB238_244.out
     have hnc18 := NB244_238.out
     have hcz19_0 : w9.cell? ⟨gb238, 0, none⟩ = some (.string a0_0) := (blk_cell BK238.out 0).trans rfl
     have hcz19_1 : w9.cell? ⟨gb238, 1, none⟩ = some (.int .i64 a0_1) := (blk_cell BK238.out 1).trans rfl
     have hcz19_2 : w9.cell? ⟨gb238, 2, none⟩ = some (.int .i64 a0_2) := (blk_cell BK238.out 2).trans rfl
     have hcz19_3 : w9.cell? ⟨gb238, 3, none⟩ = some (.int .i64 a0_3) := (blk_cell BK238.out 3).trans rfl
     have hcz19_4 : w9.cell? ⟨gb238, 4, none⟩ = some (.int .i64 a0_4) := (blk_cell BK238.out 4).trans rfl
     have hfz19_0 := blk_frozen BK238.out 0
     have hfz19_1 := blk_frozen BK238.out 1
     have hfz19_2 := blk_frozen BK238.out 2
     have hfz19_3 := blk_frozen BK238.out 3
     have hfz19_4 := blk_frozen BK238.out 4
     go_wp2
     go_meet
     case rel => exact ⟨_, (decide (a0_1 > 1073741824)), (by first | rfl | (simp; done) | (simp [*]; done)), H', ⟨by first | omega | exact Nat.le_refl _⟩, ⟨by (with_reducible repeat (first | refine blk_drewN ?_ _ | refine blk_drew ?_ | refine blk_alloc ?_ _)); refine blk_far ?_ NB238_244.out _; (with_reducible repeat (first | refine blk_drewN ?_ _ | refine blk_drew ?_ | refine blk_alloc ?_ _)); refine blk_far ?_ NB238_244.out _; (with_reducible repeat (first | refine blk_drewN ?_ _ | refine blk_drew ?_ | refine blk_alloc ?_ _)); refine blk_far ?_ NB238_244.out _; (with_reducible repeat (first | refine blk_drewN ?_ _ | refine blk_drew ?_ | refine blk_alloc ?_ _)); refine blk_far ?_ NB238_244.out _; (with_reducible repeat (first | refine blk_drewN ?_ _ | refine blk_drew ?_ | refine blk_alloc ?_ _)); exact BK238.out⟩, ⟨by (with_reducible repeat (first | refine blk_drewN ?_ _ | refine blk_drew ?_ | refine blk_alloc ?_ _)); refine blk_put (cs := #[.bool t239, .int .i64 t240, .int .i64 t241, .int .i64 0]) ?_ 3 _ rfl; (with_reducible repeat (first | refine blk_drewN ?_ _ | refine blk_drew ?_ | refine blk_alloc ?_ _)); refine blk_put (cs := #[.bool t239, .int .i64 t240, .int .i64 0, .int .i64 0]) ?_ 2 _ rfl; (with_reducible repeat (first | refine blk_drewN ?_ _ | refine blk_drew ?_ | refine blk_alloc ?_ _)); refine blk_put (cs := #[.bool t239, .int .i64 0, .int .i64 0, .int .i64 0]) ?_ 1 _ rfl; (with_reducible repeat (first | refine blk_drewN ?_ _ | refine blk_drew ?_ | refine blk_alloc ?_ _)); refine blk_put (cs := #[.bool false, .int .i64 0, .int .i64 0, .int .i64 0]) ?_ 0 _ rfl; (with_reducible repeat (first | refine blk_drewN ?_ _ | refine blk_drew ?_ | refine blk_alloc ?_ _)); exact BK244.out⟩, ⟨tb⟩⟩
  ·have H1 : (turnstilelaw24_HealthLate.j0 k a1 a2 true a0_0 a0_1 a0_2 a0_3 a0_4 t239 t240 t241 t242) = some r := by rw [if_neg (show ¬ (some q245).isNone = true by simp)] at H; exact H
   clear H
   have H := H1
   clear H1
   try simp only [errW_none, errW_some]
   have H' := Aside0.mk H
   clear H
   go_wp2
   go_meet
   case rel => exact ⟨_, (true), (by first | rfl | (simp; done) | (simp [*]; done)), H', ⟨by first | omega | exact Nat.le_refl _⟩, ⟨by (with_reducible repeat (first | refine blk_drewN ?_ _ | refine blk_drew ?_ | refine blk_alloc ?_ _)); refine blk_far ?_ NB238_244.out _; (with_reducible repeat (first | refine blk_drewN ?_ _ | refine blk_drew ?_ | refine blk_alloc ?_ _)); refine blk_far ?_ NB238_244.out _; (with_reducible repeat (first | refine blk_drewN ?_ _ | refine blk_drew ?_ | refine blk_alloc ?_ _)); refine blk_far ?_ NB238_244.out _; (with_reducible repeat (first | refine blk_drewN ?_ _ | refine blk_drew ?_ | refine blk_alloc ?_ _)); refine blk_far ?_ NB238_244.out _; (with_reducible repeat (first | refine blk_drewN ?_ _ | refine blk_drew ?_ | refine blk_alloc ?_ _)); exact BK238.out⟩, ⟨by (with_reducible repeat (first | refine blk_drewN ?_ _ | refine blk_drew ?_ | refine blk_alloc ?_ _)); refine blk_put (cs := #[.bool t239, .int .i64 t240, .int .i64 t241, .int .i64 0]) ?_ 3 _ rfl; (with_reducible repeat (first | refine blk_drewN ?_ _ | refine blk_drew ?_ | refine blk_alloc ?_ _)); refine blk_put (cs := #[.bool t239, .int .i64 t240, .int .i64 0, .int .i64 0]) ?_ 2 _ rfl; (with_reducible repeat (first | refine blk_drewN ?_ _ | refine blk_drew ?_ | refine blk_alloc ?_ _)); refine blk_put (cs := #[.bool t239, .int .i64 0, .int .i64 0, .int .i64 0]) ?_ 1 _ rfl; (with_reducible repeat (first | refine blk_drewN ?_ _ | refine blk_drew ?_ | refine blk_alloc ?_ _)); refine blk_put (cs := #[.bool false, .int .i64 0, .int .i64 0, .int .i64 0]) ?_ 0 _ rfl; (with_reducible repeat (first | refine blk_drewN ?_ _ | refine blk_drew ?_ | refine blk_alloc ?_ _)); exact BK244.out⟩, ⟨tb⟩⟩
 case rest =>
  clear HC5
  (try clear c1); (try clear p2); (try clear q2); (try clear c4); (try clear c5); (try clear c10); (try clear c12); (try clear c12b0); (try clear c12b1); (try clear c13); (try clear c15); (try clear c15b0); (try clear c16); (try clear c18); (try clear hcz11_0); (try clear hcz11_1); (try clear hcz11_2); (try clear hcz11_3); (try clear hcz14_0); (try clear hcz14_1); (try clear hcz14_2); (try clear hcz14_3); (try clear hcz14_4); (try clear hcz17_0); (try clear hcz17_1); (try clear hcz17_2); (try clear hcz17_3); (try clear hcz17_4); (try clear hcz19_0); (try clear hcz19_1); (try clear hcz19_2); (try clear hcz19_3); (try clear hcz19_4); (try clear hcz7_0); (try clear hcz7_1); (try clear hcz7_2); (try clear hcz7_3); (try clear hcz7_4); (try clear hfz11_0); (try clear hfz11_1); (try clear hfz11_2); (try clear hfz11_3); (try clear hfz14_0); (try clear hfz14_1); (try clear hfz14_2); (try clear hfz14_3); (try clear hfz14_4); (try clear hfz17_0); (try clear hfz17_1); (try clear hfz17_2); (try clear hfz17_3); (try clear hfz17_4); (try clear hfz19_0); (try clear hfz19_1); (try clear hfz19_2); (try clear hfz19_3); (try clear hfz19_4); (try clear hfz7_0); (try clear hfz7_1); (try clear hfz7_2); (try clear hfz7_3); (try clear hfz7_4); (try clear q245)
  obtain ⟨kq, x36_4, rfl, HA, HJ4, BK238, BK244, HB⟩ := hcut
  cases kq with
  | zero => exact absurd HA.out (by simp [turnstilelaw24_HealthLate.j0])
  | succ kj4 =>
   have H := HA.out
   clear HA
   simp only [turnstilelaw24_HealthLate.j0] at H
   by_cases c20 : x36_4 = true
   ·subst c20
    have H1 : ((turnstilelaw24_works.f kj4).bind fun t246 => (some t246)) = some r := by rw [if_pos rfl] at H; exact H
    clear H
    have H := H1
    clear H1
    replace H := Option.bind_eq_some_iff.mp H
    obtain ⟨t246, A210, H⟩ := H
    replace H : (some t246) = some r := H
    have A21 := Aside0.mk A210
    clear A210
    obtain rfl := Option.some.inj H
    go_wp2_with (first | ((with_reducible refine gate_callee (f := 6) rfl ?_); refine goesL_ (some 37) rfl rfl Tryd.func6 (by kernel_rfl) rfl #[] rfl (by (try simp only [List.map_toArray, List.map_cons, List.map_nil]); first | done | rfl | (simp only [List.length_drop, List.length_take]; rfl)) ?_; (with_reducible refine (turnstilelaw24_works.calls kj4  t246 _ ?side1 A21.out).mono ?_); (case side1 => first | exact hG | exact GInv.step hG tb); rintro e w22 ⟨rfl, hb⟩; refine ⟨_, rfl, ?_⟩; have n0_ := Aside0.mk (blk_below (tk BK238.out) hb); have n1_ := Aside0.mk (blk_below (tk BK244.out) hb); have n2_ := Aside0.mk (below_step tb hb); clear BK238; clear BK244; clear HB; have BK238 := n0_; have BK244 := n1_; have HB := n2_; clear n0_ n1_ n2_; (try clear hb); (try clear hb2); (try clear hk); (try clear hi)))
    go_ret
    exact ⟨by first | rfl | (simp [errW_none, errW_some] <;> rfl) | (simp [*, errW_none, errW_some] <;> rfl), tb⟩
   ·replace c20 := Bool.eq_false_iff.mpr c20
    subst c20
    have H1 : ((health_Late.f kj4 t239 t240 t241 t242 a0_0 a0_1 a0_2 a0_3 a0_4 a1).bind fun bt247 => ((health_Send.f kj4 t239 t240 t241 t242 a0_0 a0_1 a0_2 a0_3 a0_4 a1).bind fun bt249 => ((health_Late.f kj4 bt249.1 bt249.2.1 bt249.2.2.1 bt249.2.2.2.1 a0_0 a0_1 a0_2 a0_3 a0_4 (wrap64 (a1 + (Int.tmod (wrap64 ((Int.tmod a2 100) + 100)) 100)))).bind fun bt255 => (if bt247.1 = true then (some false) else (if bt247.2.isNone = true then (if bt249.2.2.2.2.isNone = true then (if bt255.2.isNone = true then (if (bt255.1 == (decide ((Int.tmod (wrap64 ((Int.tmod a2 100) + 100)) 100) ≥ a0_2))) = true then ((turnstilelaw24_works.f kj4).bind fun t260 => (some t260)) else (some false)) else (some false)) else (some false)) else (some false)))))) = some r := by rw [if_neg (show ¬ (false = true) by decide)] at H; exact H
    clear H
    have H := H1
    clear H1
    replace H := Option.bind_eq_some_iff.mp H
    obtain ⟨⟨t247, t248⟩, A230, H⟩ := H
    replace H : ((health_Send.f kj4 t239 t240 t241 t242 a0_0 a0_1 a0_2 a0_3 a0_4 a1).bind fun bt249 => ((health_Late.f kj4 bt249.1 bt249.2.1 bt249.2.2.1 bt249.2.2.2.1 a0_0 a0_1 a0_2 a0_3 a0_4 (wrap64 (a1 + (Int.tmod (wrap64 ((Int.tmod a2 100) + 100)) 100)))).bind fun bt255 => (if t247 = true then (some false) else (if t248.isNone = true then (if bt249.2.2.2.2.isNone = true then (if bt255.2.isNone = true then (if (bt255.1 == (decide ((Int.tmod (wrap64 ((Int.tmod a2 100) + 100)) 100) ≥ a0_2))) = true then ((turnstilelaw24_works.f kj4).bind fun t260 => (some t260)) else (some false)) else (some false)) else (some false)) else (some false))))) = some r := H
    have A23 := Aside0.mk A230
    clear A230
    replace H := Option.bind_eq_some_iff.mp H
    obtain ⟨⟨t249, t250, t251, t252, t253⟩, A240, H⟩ := H
    replace H : ((health_Late.f kj4 t249 t250 t251 t252 a0_0 a0_1 a0_2 a0_3 a0_4 (wrap64 (a1 + (Int.tmod (wrap64 ((Int.tmod a2 100) + 100)) 100)))).bind fun bt255 => (if t247 = true then (some false) else (if t248.isNone = true then (if t253.isNone = true then (if bt255.2.isNone = true then (if (bt255.1 == (decide ((Int.tmod (wrap64 ((Int.tmod a2 100) + 100)) 100) ≥ a0_2))) = true then ((turnstilelaw24_works.f kj4).bind fun t260 => (some t260)) else (some false)) else (some false)) else (some false)) else (some false)))) = some r := H
    have A24 := Aside0.mk A240
    clear A240
    replace H := Option.bind_eq_some_iff.mp H
    obtain ⟨⟨t255, t256⟩, A250, H⟩ := H
    replace H : (if t247 = true then (some false) else (if t248.isNone = true then (if t253.isNone = true then (if t256.isNone = true then (if (t255 == (decide ((Int.tmod (wrap64 ((Int.tmod a2 100) + 100)) 100) ≥ a0_2))) = true then ((turnstilelaw24_works.f kj4).bind fun t260 => (some t260)) else (some false)) else (some false)) else (some false)) else (some false))) = some r := H
    have A25 := Aside0.mk A250
    clear A250
    by_cases c26 : t247 = true
    ·subst c26
     have H1 : (some false) = some r := by rw [if_pos rfl] at H; exact H
     clear H
     have H := H1
     clear H1
     obtain rfl := Option.some.inj H
     have hnb27 := NB244_238.out
     have hnc27 := NB238_244.out
     have hcz28_0 : wc.cell? ⟨gb244, 0, none⟩ = some (.bool t239) := (blk_cell BK244.out 0).trans rfl
     have hcz28_1 : wc.cell? ⟨gb244, 1, none⟩ = some (.int .i64 t240) := (blk_cell BK244.out 1).trans rfl
     have hcz28_2 : wc.cell? ⟨gb244, 2, none⟩ = some (.int .i64 t241) := (blk_cell BK244.out 2).trans rfl
     have hcz28_3 : wc.cell? ⟨gb244, 3, none⟩ = some (.int .i64 t242) := (blk_cell BK244.out 3).trans rfl
     have hfz28_0 := blk_frozen BK244.out 0
     have hfz28_1 := blk_frozen BK244.out 1
     have hfz28_2 := blk_frozen BK244.out 2
     have hfz28_3 := blk_frozen BK244.out 3
     have hcz29_0 : wc.cell? ⟨gb238, 0, none⟩ = some (.string a0_0) := (blk_cell BK238.out 0).trans rfl
     have hcz29_1 : wc.cell? ⟨gb238, 1, none⟩ = some (.int .i64 a0_1) := (blk_cell BK238.out 1).trans rfl
     have hcz29_2 : wc.cell? ⟨gb238, 2, none⟩ = some (.int .i64 a0_2) := (blk_cell BK238.out 2).trans rfl
     have hcz29_3 : wc.cell? ⟨gb238, 3, none⟩ = some (.int .i64 a0_3) := (blk_cell BK238.out 3).trans rfl
     have hcz29_4 : wc.cell? ⟨gb238, 4, none⟩ = some (.int .i64 a0_4) := (blk_cell BK238.out 4).trans rfl
     have hfz29_0 := blk_frozen BK238.out 0
     have hfz29_1 := blk_frozen BK238.out 1
     have hfz29_2 := blk_frozen BK238.out 2
     have hfz29_3 := blk_frozen BK238.out 3
     have hfz29_4 := blk_frozen BK238.out 4
     go_wp2_with (first | ((with_reducible refine gate_callee (f := 11) rfl ?_); refine goesL_ (some 46) rfl rfl Tryd.func11 (by kernel_rfl) rfl #[.agg #[.bool t239, .int .i64 t240, .int .i64 t241, .int .i64 t242], .agg #[.string a0_0, .int .i64 a0_1, .int .i64 a0_2, .int .i64 a0_3, .int .i64 a0_4], .int .i64 a1] rfl (by (try simp only [List.map_toArray, List.map_cons, List.map_nil]); first | done | rfl | (simp only [List.length_drop, List.length_take]; rfl)) ?_; (with_reducible refine (health_Late.calls kj4 t239 t240 t241 t242 a0_0 a0_1 a0_2 a0_3 a0_4 a1 true t248 _ ?side1 A23.out).mono ?_); (case side1 => first | exact hG | exact GInv.step hG tb); rintro e w30 ⟨rfl, hb⟩; refine ⟨_, rfl, ?_⟩; have n0_ := Aside0.mk (blk_below (tk BK238.out) hb); have n1_ := Aside0.mk (blk_below (tk BK244.out) hb); have n2_ := Aside0.mk (below_step tb hb); clear BK238; clear BK244; clear HB; have BK238 := n0_; have BK244 := n1_; have HB := n2_; clear n0_ n1_ n2_; (try clear hb); (try clear hb2); (try clear hk); (try clear hi); (try simp only [errW_none, errW_some]); have hcz31_0 : w30.cell? ⟨gb244, 0, none⟩ = some (.bool t239) := (blk_cell BK244.out 0).trans rfl; have hcz31_1 : w30.cell? ⟨gb244, 1, none⟩ = some (.int .i64 t240) := (blk_cell BK244.out 1).trans rfl; have hcz31_2 : w30.cell? ⟨gb244, 2, none⟩ = some (.int .i64 t241) := (blk_cell BK244.out 2).trans rfl; have hcz31_3 : w30.cell? ⟨gb244, 3, none⟩ = some (.int .i64 t242) := (blk_cell BK244.out 3).trans rfl; have hfz31_0 := blk_frozen BK244.out 0; have hfz31_1 := blk_frozen BK244.out 1; have hfz31_2 := blk_frozen BK244.out 2; have hfz31_3 := blk_frozen BK244.out 3; have hcz32_0 : w30.cell? ⟨gb238, 0, none⟩ = some (.string a0_0) := (blk_cell BK238.out 0).trans rfl; have hcz32_1 : w30.cell? ⟨gb238, 1, none⟩ = some (.int .i64 a0_1) := (blk_cell BK238.out 1).trans rfl; have hcz32_2 : w30.cell? ⟨gb238, 2, none⟩ = some (.int .i64 a0_2) := (blk_cell BK238.out 2).trans rfl; have hcz32_3 : w30.cell? ⟨gb238, 3, none⟩ = some (.int .i64 a0_3) := (blk_cell BK238.out 3).trans rfl; have hcz32_4 : w30.cell? ⟨gb238, 4, none⟩ = some (.int .i64 a0_4) := (blk_cell BK238.out 4).trans rfl; have hfz32_0 := blk_frozen BK238.out 0; have hfz32_1 := blk_frozen BK238.out 1; have hfz32_2 := blk_frozen BK238.out 2; have hfz32_3 := blk_frozen BK238.out 3; have hfz32_4 := blk_frozen BK238.out 4) | ((with_reducible refine gate_callee (f := 8) rfl ?_); refine goesL_ (some 53) rfl rfl Tryd.func8 (by kernel_rfl) rfl #[.agg #[.bool t239, .int .i64 t240, .int .i64 t241, .int .i64 t242], .agg #[.string a0_0, .int .i64 a0_1, .int .i64 a0_2, .int .i64 a0_3, .int .i64 a0_4], .int .i64 a1] rfl (by (try simp only [List.map_toArray, List.map_cons, List.map_nil]); first | done | rfl | (simp only [List.length_drop, List.length_take]; rfl)) ?_; (with_reducible refine (health_Send.calls kj4 t239 t240 t241 t242 a0_0 a0_1 a0_2 a0_3 a0_4 a1 t249 t250 t251 t252 t253 _ ?side1 A24.out).mono ?_); (case side1 => first | exact hG | exact GInv.step hG tb); rintro e w33 ⟨rfl, hb⟩; refine ⟨_, rfl, ?_⟩; have n0_ := Aside0.mk (blk_below (tk BK238.out) hb); have n1_ := Aside0.mk (blk_below (tk BK244.out) hb); have n2_ := Aside0.mk (below_step tb hb); clear BK238; clear BK244; clear HB; have BK238 := n0_; have BK244 := n1_; have HB := n2_; clear n0_ n1_ n2_; (try clear hb); (try clear hb2); (try clear hk); (try clear hi); (try simp only [errW_none, errW_some])) | ((with_reducible refine gate_dst (N := 11) rfl ?_); refine box_event ?hg (N := 11) ?hd (cs := #[.bool false, .int .i64 0, .int .i64 0, .int .i64 0]) (t := 27) ?hr ?_; (case hd => rfl); (case hg => rfl); (case hr => first | (go_simp; done) | (go_simp; rfl)); intro gb254 hg w34 hbox hb; have n0_ := Aside0.mk (blk_below (tk BK238.out) hb); have n1_ := Aside0.mk (blk_below (tk BK244.out) hb); have n2_ := Aside0.mk (below_step tb hb); have n3_ := Aside0.mk (hbox); have n4_ := Aside0.mk ((by rw [hg]; exact (below_size tb) : w.heap.size ≤ gb254)); have n5_ := Aside0.mk ((by rw [hg]; exact (below_size tb) : w.heap.size ≤ gb254)); have n6_ := Aside0.mk ((by rw [hg]; exact Nat.ne_of_lt (blk_lt (tk BK238.out)) : gb238 ≠ gb254)); have n7_ := Aside0.mk ((by rw [hg]; exact Nat.ne_of_gt (blk_lt (tk BK238.out)) : gb254 ≠ gb238)); have n8_ := Aside0.mk ((by rw [hg]; exact Nat.ne_of_lt (blk_lt (tk BK244.out)) : gb244 ≠ gb254)); have n9_ := Aside0.mk ((by rw [hg]; exact Nat.ne_of_gt (blk_lt (tk BK244.out)) : gb254 ≠ gb244)); clear BK238; clear BK244; clear HB; have BK238 := n0_; have BK244 := n1_; have HB := n2_; have BK254 := n3_; have GW254 := n4_; have GE254 := n5_; have NB238_254 := n6_; have NB254_238 := n7_; have NB244_254 := n8_; have NB254_244 := n9_; clear n0_ n1_ n2_ n3_ n4_ n5_ n6_ n7_ n8_ n9_; clear hb hbox hg; have hnb35 := NB254_238.out; have hnc35 := NB238_254.out; have hnb36 := NB254_244.out; have hnc36 := NB244_254.out; have hcz37_0 : w34.cell? ⟨gb254, 0, none⟩ = some (.bool false) := (blk_cell BK254.out 0).trans rfl; have hcz37_1 : w34.cell? ⟨gb254, 1, none⟩ = some (.int .i64 0) := (blk_cell BK254.out 1).trans rfl; have hcz37_2 : w34.cell? ⟨gb254, 2, none⟩ = some (.int .i64 0) := (blk_cell BK254.out 2).trans rfl; have hcz37_3 : w34.cell? ⟨gb254, 3, none⟩ = some (.int .i64 0) := (blk_cell BK254.out 3).trans rfl; have hfz37_0 := blk_frozen BK254.out 0; have hfz37_1 := blk_frozen BK254.out 1; have hfz37_2 := blk_frozen BK254.out 2; have hfz37_3 := blk_frozen BK254.out 3; have hcz38_0 : w34.cell? ⟨gb238, 0, none⟩ = some (.string a0_0) := (blk_cell BK238.out 0).trans rfl; have hcz38_1 : w34.cell? ⟨gb238, 1, none⟩ = some (.int .i64 a0_1) := (blk_cell BK238.out 1).trans rfl; have hcz38_2 : w34.cell? ⟨gb238, 2, none⟩ = some (.int .i64 a0_2) := (blk_cell BK238.out 2).trans rfl; have hcz38_3 : w34.cell? ⟨gb238, 3, none⟩ = some (.int .i64 a0_3) := (blk_cell BK238.out 3).trans rfl; have hcz38_4 : w34.cell? ⟨gb238, 4, none⟩ = some (.int .i64 a0_4) := (blk_cell BK238.out 4).trans rfl; have hfz38_0 := blk_frozen BK238.out 0; have hfz38_1 := blk_frozen BK238.out 1; have hfz38_2 := blk_frozen BK238.out 2; have hfz38_3 := blk_frozen BK238.out 3; have hfz38_4 := blk_frozen BK238.out 4) | ((with_reducible refine gate_callee (f := 11) rfl ?_); refine goesL_ (some 62) rfl rfl Tryd.func11 (by kernel_rfl) rfl #[.agg #[.bool t249, .int .i64 t250, .int .i64 t251, .int .i64 t252], .agg #[.string a0_0, .int .i64 a0_1, .int .i64 a0_2, .int .i64 a0_3, .int .i64 a0_4], .int .i64 (wrap64 (a1 + (Int.tmod (wrap64 ((Int.tmod a2 100) + 100)) 100)))] rfl (by (try simp only [List.map_toArray, List.map_cons, List.map_nil]); first | done | rfl | (simp only [List.length_drop, List.length_take]; rfl)) ?_; (with_reducible refine (health_Late.calls kj4 t249 t250 t251 t252 a0_0 a0_1 a0_2 a0_3 a0_4 (wrap64 (a1 + (Int.tmod (wrap64 ((Int.tmod a2 100) + 100)) 100))) t255 t256 _ ?side1 A25.out).mono ?_); (case side1 => first | exact hG | exact GInv.step hG tb); rintro e w39 ⟨rfl, hb⟩; refine ⟨_, rfl, ?_⟩; have n0_ := Aside0.mk (blk_below (g := gb238) (o := .cells #[.string a0_0, .int .i64 a0_1, .int .i64 a0_2, .int .i64 a0_3, .int .i64 a0_4] 23 (0, 0)) (by (with_reducible repeat (first | refine blk_drewN ?_ _ | refine blk_drew ?_ | refine blk_alloc ?_ _)); refine blk_far ?_ NB238_254.out _; (with_reducible repeat (first | refine blk_drewN ?_ _ | refine blk_drew ?_ | refine blk_alloc ?_ _)); refine blk_far ?_ NB238_254.out _; (with_reducible repeat (first | refine blk_drewN ?_ _ | refine blk_drew ?_ | refine blk_alloc ?_ _)); refine blk_far ?_ NB238_254.out _; (with_reducible repeat (first | refine blk_drewN ?_ _ | refine blk_drew ?_ | refine blk_alloc ?_ _)); refine blk_far ?_ NB238_254.out _; (with_reducible repeat (first | refine blk_drewN ?_ _ | refine blk_drew ?_ | refine blk_alloc ?_ _)); exact BK238.out) hb); have n1_ := Aside0.mk (blk_below (g := gb244) (o := .cells #[.bool t239, .int .i64 t240, .int .i64 t241, .int .i64 t242] 27 (0, 0)) (by (with_reducible repeat (first | refine blk_drewN ?_ _ | refine blk_drew ?_ | refine blk_alloc ?_ _)); refine blk_far ?_ NB244_254.out _; (with_reducible repeat (first | refine blk_drewN ?_ _ | refine blk_drew ?_ | refine blk_alloc ?_ _)); refine blk_far ?_ NB244_254.out _; (with_reducible repeat (first | refine blk_drewN ?_ _ | refine blk_drew ?_ | refine blk_alloc ?_ _)); refine blk_far ?_ NB244_254.out _; (with_reducible repeat (first | refine blk_drewN ?_ _ | refine blk_drew ?_ | refine blk_alloc ?_ _)); refine blk_far ?_ NB244_254.out _; (with_reducible repeat (first | refine blk_drewN ?_ _ | refine blk_drew ?_ | refine blk_alloc ?_ _)); exact BK244.out) hb); have n2_ := Aside0.mk (blk_below (g := gb254) (o := .cells #[.bool t249, .int .i64 t250, .int .i64 t251, .int .i64 t252] 27 (0, 0)) (by (with_reducible repeat (first | refine blk_drewN ?_ _ | refine blk_drew ?_ | refine blk_alloc ?_ _)); refine blk_put (cs := #[.bool t249, .int .i64 t250, .int .i64 t251, .int .i64 0]) ?_ 3 _ rfl; (with_reducible repeat (first | refine blk_drewN ?_ _ | refine blk_drew ?_ | refine blk_alloc ?_ _)); refine blk_put (cs := #[.bool t249, .int .i64 t250, .int .i64 0, .int .i64 0]) ?_ 2 _ rfl; (with_reducible repeat (first | refine blk_drewN ?_ _ | refine blk_drew ?_ | refine blk_alloc ?_ _)); refine blk_put (cs := #[.bool t249, .int .i64 0, .int .i64 0, .int .i64 0]) ?_ 1 _ rfl; (with_reducible repeat (first | refine blk_drewN ?_ _ | refine blk_drew ?_ | refine blk_alloc ?_ _)); refine blk_put (cs := #[.bool false, .int .i64 0, .int .i64 0, .int .i64 0]) ?_ 0 _ rfl; (with_reducible repeat (first | refine blk_drewN ?_ _ | refine blk_drew ?_ | refine blk_alloc ?_ _)); exact BK254.out) hb); have n3_ := Aside0.mk (below_step tb hb); clear BK238; clear BK244; clear BK254; clear HB; have BK238 := n0_; have BK244 := n1_; have BK254 := n2_; have HB := n3_; clear n0_ n1_ n2_ n3_; (try clear hb); (try clear hb2); (try clear hk); (try clear hi); (try simp only [errW_none, errW_some])))
     go_ret
     exact ⟨by first | rfl | (simp [errW_none, errW_some] <;> rfl) | (simp [*, errW_none, errW_some] <;> rfl), tb⟩
    ·replace c26 := Bool.eq_false_iff.mpr c26
     subst c26
     have H1 : (if t248.isNone = true then (if t253.isNone = true then (if t256.isNone = true then (if (t255 == (decide ((Int.tmod (wrap64 ((Int.tmod a2 100) + 100)) 100) ≥ a0_2))) = true then ((turnstilelaw24_works.f kj4).bind fun t260 => (some t260)) else (some false)) else (some false)) else (some false)) else (some false)) = some r := by rw [if_neg (show ¬ (false = true) by decide)] at H; exact H
     clear H
     have H := H1
     clear H1
     rcases t248 with _ | q257
     ·have H1 : (if t253.isNone = true then (if t256.isNone = true then (if (t255 == (decide ((Int.tmod (wrap64 ((Int.tmod a2 100) + 100)) 100) ≥ a0_2))) = true then ((turnstilelaw24_works.f kj4).bind fun t260 => (some t260)) else (some false)) else (some false)) else (some false)) = some r := by rw [if_pos (show (none : Option Int).isNone = true by rfl)] at H; exact H
      clear H
      have H := H1
      clear H1
      try simp only [errW_none, errW_some]
      rcases t253 with _ | q258
      ·have H1 : (if t256.isNone = true then (if (t255 == (decide ((Int.tmod (wrap64 ((Int.tmod a2 100) + 100)) 100) ≥ a0_2))) = true then ((turnstilelaw24_works.f kj4).bind fun t260 => (some t260)) else (some false)) else (some false)) = some r := by rw [if_pos (show (none : Option Int).isNone = true by rfl)] at H; exact H
       clear H
       have H := H1
       clear H1
       try simp only [errW_none, errW_some]
       rcases t256 with _ | q259
       ·have H1 : (if (t255 == (decide ((Int.tmod (wrap64 ((Int.tmod a2 100) + 100)) 100) ≥ a0_2))) = true then ((turnstilelaw24_works.f kj4).bind fun t260 => (some t260)) else (some false)) = some r := by rw [if_pos (show (none : Option Int).isNone = true by rfl)] at H; exact H
        clear H
        have H := H1
        clear H1
        try simp only [errW_none, errW_some]
        by_cases c40 : (t255 == (decide ((Int.tmod (wrap64 ((Int.tmod a2 100) + 100)) 100) ≥ a0_2))) = true
        ·rw [if_pos c40] at H
         have c40b0 : (t255 == (decide ((Int.tmod (wrap64 ((Int.tmod a2 100) + 100)) 100) ≥ a0_2))) = true := c40
         (try (have c40b1 : decide (t255 = (decide ((Int.tmod (wrap64 ((Int.tmod a2 100) + 100)) 100) ≥ a0_2))) = true := by simpa using c40))
         (try (have c40b2 : (t255 == (decide ((Int.tmod (wrap64 ((Int.tmod a2 100) + 100)) 100) ≥ a0_2))) = true := by simpa using c40))
         clear c40
         replace H := Option.bind_eq_some_iff.mp H
         obtain ⟨t260, A410, H⟩ := H
         replace H : (some t260) = some r := H
         have A41 := Aside0.mk A410
         clear A410
         obtain rfl := Option.some.inj H
         have hnb42 := NB244_238.out
         have hnc42 := NB238_244.out
         have hcz43_0 : wc.cell? ⟨gb244, 0, none⟩ = some (.bool t239) := (blk_cell BK244.out 0).trans rfl
         have hcz43_1 : wc.cell? ⟨gb244, 1, none⟩ = some (.int .i64 t240) := (blk_cell BK244.out 1).trans rfl
         have hcz43_2 : wc.cell? ⟨gb244, 2, none⟩ = some (.int .i64 t241) := (blk_cell BK244.out 2).trans rfl
         have hcz43_3 : wc.cell? ⟨gb244, 3, none⟩ = some (.int .i64 t242) := (blk_cell BK244.out 3).trans rfl
         have hfz43_0 := blk_frozen BK244.out 0
         have hfz43_1 := blk_frozen BK244.out 1
         have hfz43_2 := blk_frozen BK244.out 2
         have hfz43_3 := blk_frozen BK244.out 3
         have hcz44_0 : wc.cell? ⟨gb238, 0, none⟩ = some (.string a0_0) := (blk_cell BK238.out 0).trans rfl
         have hcz44_1 : wc.cell? ⟨gb238, 1, none⟩ = some (.int .i64 a0_1) := (blk_cell BK238.out 1).trans rfl
         have hcz44_2 : wc.cell? ⟨gb238, 2, none⟩ = some (.int .i64 a0_2) := (blk_cell BK238.out 2).trans rfl
         have hcz44_3 : wc.cell? ⟨gb238, 3, none⟩ = some (.int .i64 a0_3) := (blk_cell BK238.out 3).trans rfl
         have hcz44_4 : wc.cell? ⟨gb238, 4, none⟩ = some (.int .i64 a0_4) := (blk_cell BK238.out 4).trans rfl
         have hfz44_0 := blk_frozen BK238.out 0
         have hfz44_1 := blk_frozen BK238.out 1
         have hfz44_2 := blk_frozen BK238.out 2
         have hfz44_3 := blk_frozen BK238.out 3
         have hfz44_4 := blk_frozen BK238.out 4
         go_wp2_with (first | ((with_reducible refine gate_callee (f := 11) rfl ?_); refine goesL_ (some 46) rfl rfl Tryd.func11 (by kernel_rfl) rfl #[.agg #[.bool t239, .int .i64 t240, .int .i64 t241, .int .i64 t242], .agg #[.string a0_0, .int .i64 a0_1, .int .i64 a0_2, .int .i64 a0_3, .int .i64 a0_4], .int .i64 a1] rfl (by (try simp only [List.map_toArray, List.map_cons, List.map_nil]); first | done | rfl | (simp only [List.length_drop, List.length_take]; rfl)) ?_; (with_reducible refine (health_Late.calls kj4 t239 t240 t241 t242 a0_0 a0_1 a0_2 a0_3 a0_4 a1 false none _ ?side1 A23.out).mono ?_); (case side1 => first | exact hG | exact GInv.step hG tb); rintro e w45 ⟨rfl, hb⟩; refine ⟨_, rfl, ?_⟩; have n0_ := Aside0.mk (blk_below (tk BK238.out) hb); have n1_ := Aside0.mk (blk_below (tk BK244.out) hb); have n2_ := Aside0.mk (below_step tb hb); clear BK238; clear BK244; clear HB; have BK238 := n0_; have BK244 := n1_; have HB := n2_; clear n0_ n1_ n2_; (try clear hb); (try clear hb2); (try clear hk); (try clear hi); (try simp only [errW_none, errW_some]); have hcz46_0 : w45.cell? ⟨gb244, 0, none⟩ = some (.bool t239) := (blk_cell BK244.out 0).trans rfl; have hcz46_1 : w45.cell? ⟨gb244, 1, none⟩ = some (.int .i64 t240) := (blk_cell BK244.out 1).trans rfl; have hcz46_2 : w45.cell? ⟨gb244, 2, none⟩ = some (.int .i64 t241) := (blk_cell BK244.out 2).trans rfl; have hcz46_3 : w45.cell? ⟨gb244, 3, none⟩ = some (.int .i64 t242) := (blk_cell BK244.out 3).trans rfl; have hfz46_0 := blk_frozen BK244.out 0; have hfz46_1 := blk_frozen BK244.out 1; have hfz46_2 := blk_frozen BK244.out 2; have hfz46_3 := blk_frozen BK244.out 3; have hcz47_0 : w45.cell? ⟨gb238, 0, none⟩ = some (.string a0_0) := (blk_cell BK238.out 0).trans rfl; have hcz47_1 : w45.cell? ⟨gb238, 1, none⟩ = some (.int .i64 a0_1) := (blk_cell BK238.out 1).trans rfl; have hcz47_2 : w45.cell? ⟨gb238, 2, none⟩ = some (.int .i64 a0_2) := (blk_cell BK238.out 2).trans rfl; have hcz47_3 : w45.cell? ⟨gb238, 3, none⟩ = some (.int .i64 a0_3) := (blk_cell BK238.out 3).trans rfl; have hcz47_4 : w45.cell? ⟨gb238, 4, none⟩ = some (.int .i64 a0_4) := (blk_cell BK238.out 4).trans rfl; have hfz47_0 := blk_frozen BK238.out 0; have hfz47_1 := blk_frozen BK238.out 1; have hfz47_2 := blk_frozen BK238.out 2; have hfz47_3 := blk_frozen BK238.out 3; have hfz47_4 := blk_frozen BK238.out 4) | ((with_reducible refine gate_callee (f := 8) rfl ?_); refine goesL_ (some 53) rfl rfl Tryd.func8 (by kernel_rfl) rfl #[.agg #[.bool t239, .int .i64 t240, .int .i64 t241, .int .i64 t242], .agg #[.string a0_0, .int .i64 a0_1, .int .i64 a0_2, .int .i64 a0_3, .int .i64 a0_4], .int .i64 a1] rfl (by (try simp only [List.map_toArray, List.map_cons, List.map_nil]); first | done | rfl | (simp only [List.length_drop, List.length_take]; rfl)) ?_; (with_reducible refine (health_Send.calls kj4 t239 t240 t241 t242 a0_0 a0_1 a0_2 a0_3 a0_4 a1 t249 t250 t251 t252 none _ ?side1 A24.out).mono ?_); (case side1 => first | exact hG | exact GInv.step hG tb); rintro e w48 ⟨rfl, hb⟩; refine ⟨_, rfl, ?_⟩; have n0_ := Aside0.mk (blk_below (tk BK238.out) hb); have n1_ := Aside0.mk (blk_below (tk BK244.out) hb); have n2_ := Aside0.mk (below_step tb hb); clear BK238; clear BK244; clear HB; have BK238 := n0_; have BK244 := n1_; have HB := n2_; clear n0_ n1_ n2_; (try clear hb); (try clear hb2); (try clear hk); (try clear hi); (try simp only [errW_none, errW_some])) | ((with_reducible refine gate_dst (N := 11) rfl ?_); refine box_event ?hg (N := 11) ?hd (cs := #[.bool false, .int .i64 0, .int .i64 0, .int .i64 0]) (t := 27) ?hr ?_; (case hd => rfl); (case hg => rfl); (case hr => first | (go_simp; done) | (go_simp; rfl)); intro gb254 hg w49 hbox hb; have n0_ := Aside0.mk (blk_below (tk BK238.out) hb); have n1_ := Aside0.mk (blk_below (tk BK244.out) hb); have n2_ := Aside0.mk (below_step tb hb); have n3_ := Aside0.mk (hbox); have n4_ := Aside0.mk ((by rw [hg]; exact (below_size tb) : w.heap.size ≤ gb254)); have n5_ := Aside0.mk ((by rw [hg]; exact (below_size tb) : w.heap.size ≤ gb254)); have n6_ := Aside0.mk ((by rw [hg]; exact Nat.ne_of_lt (blk_lt (tk BK238.out)) : gb238 ≠ gb254)); have n7_ := Aside0.mk ((by rw [hg]; exact Nat.ne_of_gt (blk_lt (tk BK238.out)) : gb254 ≠ gb238)); have n8_ := Aside0.mk ((by rw [hg]; exact Nat.ne_of_lt (blk_lt (tk BK244.out)) : gb244 ≠ gb254)); have n9_ := Aside0.mk ((by rw [hg]; exact Nat.ne_of_gt (blk_lt (tk BK244.out)) : gb254 ≠ gb244)); clear BK238; clear BK244; clear HB; have BK238 := n0_; have BK244 := n1_; have HB := n2_; have BK254 := n3_; have GW254 := n4_; have GE254 := n5_; have NB238_254 := n6_; have NB254_238 := n7_; have NB244_254 := n8_; have NB254_244 := n9_; clear n0_ n1_ n2_ n3_ n4_ n5_ n6_ n7_ n8_ n9_; clear hb hbox hg; have hnb50 := NB254_238.out; have hnc50 := NB238_254.out; have hnb51 := NB254_244.out; have hnc51 := NB244_254.out; have hcz52_0 : w49.cell? ⟨gb254, 0, none⟩ = some (.bool false) := (blk_cell BK254.out 0).trans rfl; have hcz52_1 : w49.cell? ⟨gb254, 1, none⟩ = some (.int .i64 0) := (blk_cell BK254.out 1).trans rfl; have hcz52_2 : w49.cell? ⟨gb254, 2, none⟩ = some (.int .i64 0) := (blk_cell BK254.out 2).trans rfl; have hcz52_3 : w49.cell? ⟨gb254, 3, none⟩ = some (.int .i64 0) := (blk_cell BK254.out 3).trans rfl; have hfz52_0 := blk_frozen BK254.out 0; have hfz52_1 := blk_frozen BK254.out 1; have hfz52_2 := blk_frozen BK254.out 2; have hfz52_3 := blk_frozen BK254.out 3; have hcz53_0 : w49.cell? ⟨gb238, 0, none⟩ = some (.string a0_0) := (blk_cell BK238.out 0).trans rfl; have hcz53_1 : w49.cell? ⟨gb238, 1, none⟩ = some (.int .i64 a0_1) := (blk_cell BK238.out 1).trans rfl; have hcz53_2 : w49.cell? ⟨gb238, 2, none⟩ = some (.int .i64 a0_2) := (blk_cell BK238.out 2).trans rfl; have hcz53_3 : w49.cell? ⟨gb238, 3, none⟩ = some (.int .i64 a0_3) := (blk_cell BK238.out 3).trans rfl; have hcz53_4 : w49.cell? ⟨gb238, 4, none⟩ = some (.int .i64 a0_4) := (blk_cell BK238.out 4).trans rfl; have hfz53_0 := blk_frozen BK238.out 0; have hfz53_1 := blk_frozen BK238.out 1; have hfz53_2 := blk_frozen BK238.out 2; have hfz53_3 := blk_frozen BK238.out 3; have hfz53_4 := blk_frozen BK238.out 4) | ((with_reducible refine gate_callee (f := 11) rfl ?_); refine goesL_ (some 62) rfl rfl Tryd.func11 (by kernel_rfl) rfl #[.agg #[.bool t249, .int .i64 t250, .int .i64 t251, .int .i64 t252], .agg #[.string a0_0, .int .i64 a0_1, .int .i64 a0_2, .int .i64 a0_3, .int .i64 a0_4], .int .i64 (wrap64 (a1 + (Int.tmod (wrap64 ((Int.tmod a2 100) + 100)) 100)))] rfl (by (try simp only [List.map_toArray, List.map_cons, List.map_nil]); first | done | rfl | (simp only [List.length_drop, List.length_take]; rfl)) ?_; (with_reducible refine (health_Late.calls kj4 t249 t250 t251 t252 a0_0 a0_1 a0_2 a0_3 a0_4 (wrap64 (a1 + (Int.tmod (wrap64 ((Int.tmod a2 100) + 100)) 100))) t255 none _ ?side1 A25.out).mono ?_); (case side1 => first | exact hG | exact GInv.step hG tb); rintro e w54 ⟨rfl, hb⟩; refine ⟨_, rfl, ?_⟩; have n0_ := Aside0.mk (blk_below (g := gb238) (o := .cells #[.string a0_0, .int .i64 a0_1, .int .i64 a0_2, .int .i64 a0_3, .int .i64 a0_4] 23 (0, 0)) (by (with_reducible repeat (first | refine blk_drewN ?_ _ | refine blk_drew ?_ | refine blk_alloc ?_ _)); refine blk_far ?_ NB238_254.out _; (with_reducible repeat (first | refine blk_drewN ?_ _ | refine blk_drew ?_ | refine blk_alloc ?_ _)); refine blk_far ?_ NB238_254.out _; (with_reducible repeat (first | refine blk_drewN ?_ _ | refine blk_drew ?_ | refine blk_alloc ?_ _)); refine blk_far ?_ NB238_254.out _; (with_reducible repeat (first | refine blk_drewN ?_ _ | refine blk_drew ?_ | refine blk_alloc ?_ _)); refine blk_far ?_ NB238_254.out _; (with_reducible repeat (first | refine blk_drewN ?_ _ | refine blk_drew ?_ | refine blk_alloc ?_ _)); exact BK238.out) hb); have n1_ := Aside0.mk (blk_below (g := gb244) (o := .cells #[.bool t239, .int .i64 t240, .int .i64 t241, .int .i64 t242] 27 (0, 0)) (by (with_reducible repeat (first | refine blk_drewN ?_ _ | refine blk_drew ?_ | refine blk_alloc ?_ _)); refine blk_far ?_ NB244_254.out _; (with_reducible repeat (first | refine blk_drewN ?_ _ | refine blk_drew ?_ | refine blk_alloc ?_ _)); refine blk_far ?_ NB244_254.out _; (with_reducible repeat (first | refine blk_drewN ?_ _ | refine blk_drew ?_ | refine blk_alloc ?_ _)); refine blk_far ?_ NB244_254.out _; (with_reducible repeat (first | refine blk_drewN ?_ _ | refine blk_drew ?_ | refine blk_alloc ?_ _)); refine blk_far ?_ NB244_254.out _; (with_reducible repeat (first | refine blk_drewN ?_ _ | refine blk_drew ?_ | refine blk_alloc ?_ _)); exact BK244.out) hb); have n2_ := Aside0.mk (blk_below (g := gb254) (o := .cells #[.bool t249, .int .i64 t250, .int .i64 t251, .int .i64 t252] 27 (0, 0)) (by (with_reducible repeat (first | refine blk_drewN ?_ _ | refine blk_drew ?_ | refine blk_alloc ?_ _)); refine blk_put (cs := #[.bool t249, .int .i64 t250, .int .i64 t251, .int .i64 0]) ?_ 3 _ rfl; (with_reducible repeat (first | refine blk_drewN ?_ _ | refine blk_drew ?_ | refine blk_alloc ?_ _)); refine blk_put (cs := #[.bool t249, .int .i64 t250, .int .i64 0, .int .i64 0]) ?_ 2 _ rfl; (with_reducible repeat (first | refine blk_drewN ?_ _ | refine blk_drew ?_ | refine blk_alloc ?_ _)); refine blk_put (cs := #[.bool t249, .int .i64 0, .int .i64 0, .int .i64 0]) ?_ 1 _ rfl; (with_reducible repeat (first | refine blk_drewN ?_ _ | refine blk_drew ?_ | refine blk_alloc ?_ _)); refine blk_put (cs := #[.bool false, .int .i64 0, .int .i64 0, .int .i64 0]) ?_ 0 _ rfl; (with_reducible repeat (first | refine blk_drewN ?_ _ | refine blk_drew ?_ | refine blk_alloc ?_ _)); exact BK254.out) hb); have n3_ := Aside0.mk (below_step tb hb); clear BK238; clear BK244; clear BK254; clear HB; have BK238 := n0_; have BK244 := n1_; have BK254 := n2_; have HB := n3_; clear n0_ n1_ n2_ n3_; (try clear hb); (try clear hb2); (try clear hk); (try clear hi); (try simp only [errW_none, errW_some]); have hcz55_0 : w54.cell? ⟨gb238, 0, none⟩ = some (.string a0_0) := (blk_cell BK238.out 0).trans rfl; have hcz55_1 : w54.cell? ⟨gb238, 1, none⟩ = some (.int .i64 a0_1) := (blk_cell BK238.out 1).trans rfl; have hcz55_2 : w54.cell? ⟨gb238, 2, none⟩ = some (.int .i64 a0_2) := (blk_cell BK238.out 2).trans rfl; have hcz55_3 : w54.cell? ⟨gb238, 3, none⟩ = some (.int .i64 a0_3) := (blk_cell BK238.out 3).trans rfl; have hcz55_4 : w54.cell? ⟨gb238, 4, none⟩ = some (.int .i64 a0_4) := (blk_cell BK238.out 4).trans rfl; have hfz55_0 := blk_frozen BK238.out 0; have hfz55_1 := blk_frozen BK238.out 1; have hfz55_2 := blk_frozen BK238.out 2; have hfz55_3 := blk_frozen BK238.out 3; have hfz55_4 := blk_frozen BK238.out 4) | (go_at_call 6; (with_reducible refine (turnstilelaw24_works.calls kj4  t260 _ ?side1 A41.out).mono ?_); (case side1 => first | exact hG | exact GInv.step hG tb); rintro e w56 ⟨rfl, hb⟩; have n0_ := Aside0.mk (blk_below (tk BK238.out) hb); have n1_ := Aside0.mk (blk_below (tk BK244.out) hb); have n2_ := Aside0.mk (blk_below (tk BK254.out) hb); have n3_ := Aside0.mk (below_step tb hb); clear BK238; clear BK244; clear BK254; clear HB; have BK238 := n0_; have BK244 := n1_; have BK254 := n2_; have HB := n3_; clear n0_ n1_ n2_ n3_; (try clear hb); (try clear hb2); (try clear hk); (try clear hi)))
         go_ret
         exact ⟨by first | rfl | (simp [errW_none, errW_some] <;> rfl) | (simp [*, errW_none, errW_some] <;> rfl), tb⟩
        ·rw [if_neg c40] at H
         have c40b0 : (t255 == (decide ((Int.tmod (wrap64 ((Int.tmod a2 100) + 100)) 100) ≥ a0_2))) = false := by simpa using c40
         (try (have c40b1 : decide (t255 = (decide ((Int.tmod (wrap64 ((Int.tmod a2 100) + 100)) 100) ≥ a0_2))) = false := by simpa using c40))
         (try (have c40b2 : (t255 == (decide ((Int.tmod (wrap64 ((Int.tmod a2 100) + 100)) 100) ≥ a0_2))) = false := by simpa using c40))
         (try (have c40b3 : ¬ (t255 = (decide ((Int.tmod (wrap64 ((Int.tmod a2 100) + 100)) 100) ≥ a0_2))) := by simpa using c40))
         clear c40
         obtain rfl := Option.some.inj H
         have hnb57 := NB244_238.out
         have hnc57 := NB238_244.out
         have hcz58_0 : wc.cell? ⟨gb244, 0, none⟩ = some (.bool t239) := (blk_cell BK244.out 0).trans rfl
         have hcz58_1 : wc.cell? ⟨gb244, 1, none⟩ = some (.int .i64 t240) := (blk_cell BK244.out 1).trans rfl
         have hcz58_2 : wc.cell? ⟨gb244, 2, none⟩ = some (.int .i64 t241) := (blk_cell BK244.out 2).trans rfl
         have hcz58_3 : wc.cell? ⟨gb244, 3, none⟩ = some (.int .i64 t242) := (blk_cell BK244.out 3).trans rfl
         have hfz58_0 := blk_frozen BK244.out 0
         have hfz58_1 := blk_frozen BK244.out 1
         have hfz58_2 := blk_frozen BK244.out 2
         have hfz58_3 := blk_frozen BK244.out 3
         have hcz59_0 : wc.cell? ⟨gb238, 0, none⟩ = some (.string a0_0) := (blk_cell BK238.out 0).trans rfl
         have hcz59_1 : wc.cell? ⟨gb238, 1, none⟩ = some (.int .i64 a0_1) := (blk_cell BK238.out 1).trans rfl
         have hcz59_2 : wc.cell? ⟨gb238, 2, none⟩ = some (.int .i64 a0_2) := (blk_cell BK238.out 2).trans rfl
         have hcz59_3 : wc.cell? ⟨gb238, 3, none⟩ = some (.int .i64 a0_3) := (blk_cell BK238.out 3).trans rfl
         have hcz59_4 : wc.cell? ⟨gb238, 4, none⟩ = some (.int .i64 a0_4) := (blk_cell BK238.out 4).trans rfl
         have hfz59_0 := blk_frozen BK238.out 0
         have hfz59_1 := blk_frozen BK238.out 1
         have hfz59_2 := blk_frozen BK238.out 2
         have hfz59_3 := blk_frozen BK238.out 3
         have hfz59_4 := blk_frozen BK238.out 4
         go_wp2_with (first | ((with_reducible refine gate_callee (f := 11) rfl ?_); refine goesL_ (some 46) rfl rfl Tryd.func11 (by kernel_rfl) rfl #[.agg #[.bool t239, .int .i64 t240, .int .i64 t241, .int .i64 t242], .agg #[.string a0_0, .int .i64 a0_1, .int .i64 a0_2, .int .i64 a0_3, .int .i64 a0_4], .int .i64 a1] rfl (by (try simp only [List.map_toArray, List.map_cons, List.map_nil]); first | done | rfl | (simp only [List.length_drop, List.length_take]; rfl)) ?_; (with_reducible refine (health_Late.calls kj4 t239 t240 t241 t242 a0_0 a0_1 a0_2 a0_3 a0_4 a1 false none _ ?side1 A23.out).mono ?_); (case side1 => first | exact hG | exact GInv.step hG tb); rintro e w60 ⟨rfl, hb⟩; refine ⟨_, rfl, ?_⟩; have n0_ := Aside0.mk (blk_below (tk BK238.out) hb); have n1_ := Aside0.mk (blk_below (tk BK244.out) hb); have n2_ := Aside0.mk (below_step tb hb); clear BK238; clear BK244; clear HB; have BK238 := n0_; have BK244 := n1_; have HB := n2_; clear n0_ n1_ n2_; (try clear hb); (try clear hb2); (try clear hk); (try clear hi); (try simp only [errW_none, errW_some]); have hcz61_0 : w60.cell? ⟨gb244, 0, none⟩ = some (.bool t239) := (blk_cell BK244.out 0).trans rfl; have hcz61_1 : w60.cell? ⟨gb244, 1, none⟩ = some (.int .i64 t240) := (blk_cell BK244.out 1).trans rfl; have hcz61_2 : w60.cell? ⟨gb244, 2, none⟩ = some (.int .i64 t241) := (blk_cell BK244.out 2).trans rfl; have hcz61_3 : w60.cell? ⟨gb244, 3, none⟩ = some (.int .i64 t242) := (blk_cell BK244.out 3).trans rfl; have hfz61_0 := blk_frozen BK244.out 0; have hfz61_1 := blk_frozen BK244.out 1; have hfz61_2 := blk_frozen BK244.out 2; have hfz61_3 := blk_frozen BK244.out 3; have hcz62_0 : w60.cell? ⟨gb238, 0, none⟩ = some (.string a0_0) := (blk_cell BK238.out 0).trans rfl; have hcz62_1 : w60.cell? ⟨gb238, 1, none⟩ = some (.int .i64 a0_1) := (blk_cell BK238.out 1).trans rfl; have hcz62_2 : w60.cell? ⟨gb238, 2, none⟩ = some (.int .i64 a0_2) := (blk_cell BK238.out 2).trans rfl; have hcz62_3 : w60.cell? ⟨gb238, 3, none⟩ = some (.int .i64 a0_3) := (blk_cell BK238.out 3).trans rfl; have hcz62_4 : w60.cell? ⟨gb238, 4, none⟩ = some (.int .i64 a0_4) := (blk_cell BK238.out 4).trans rfl; have hfz62_0 := blk_frozen BK238.out 0; have hfz62_1 := blk_frozen BK238.out 1; have hfz62_2 := blk_frozen BK238.out 2; have hfz62_3 := blk_frozen BK238.out 3; have hfz62_4 := blk_frozen BK238.out 4) | ((with_reducible refine gate_callee (f := 8) rfl ?_); refine goesL_ (some 53) rfl rfl Tryd.func8 (by kernel_rfl) rfl #[.agg #[.bool t239, .int .i64 t240, .int .i64 t241, .int .i64 t242], .agg #[.string a0_0, .int .i64 a0_1, .int .i64 a0_2, .int .i64 a0_3, .int .i64 a0_4], .int .i64 a1] rfl (by (try simp only [List.map_toArray, List.map_cons, List.map_nil]); first | done | rfl | (simp only [List.length_drop, List.length_take]; rfl)) ?_; (with_reducible refine (health_Send.calls kj4 t239 t240 t241 t242 a0_0 a0_1 a0_2 a0_3 a0_4 a1 t249 t250 t251 t252 none _ ?side1 A24.out).mono ?_); (case side1 => first | exact hG | exact GInv.step hG tb); rintro e w63 ⟨rfl, hb⟩; refine ⟨_, rfl, ?_⟩; have n0_ := Aside0.mk (blk_below (tk BK238.out) hb); have n1_ := Aside0.mk (blk_below (tk BK244.out) hb); have n2_ := Aside0.mk (below_step tb hb); clear BK238; clear BK244; clear HB; have BK238 := n0_; have BK244 := n1_; have HB := n2_; clear n0_ n1_ n2_; (try clear hb); (try clear hb2); (try clear hk); (try clear hi); (try simp only [errW_none, errW_some])) | ((with_reducible refine gate_dst (N := 11) rfl ?_); refine box_event ?hg (N := 11) ?hd (cs := #[.bool false, .int .i64 0, .int .i64 0, .int .i64 0]) (t := 27) ?hr ?_; (case hd => rfl); (case hg => rfl); (case hr => first | (go_simp; done) | (go_simp; rfl)); intro gb254 hg w64 hbox hb; have n0_ := Aside0.mk (blk_below (tk BK238.out) hb); have n1_ := Aside0.mk (blk_below (tk BK244.out) hb); have n2_ := Aside0.mk (below_step tb hb); have n3_ := Aside0.mk (hbox); have n4_ := Aside0.mk ((by rw [hg]; exact (below_size tb) : w.heap.size ≤ gb254)); have n5_ := Aside0.mk ((by rw [hg]; exact (below_size tb) : w.heap.size ≤ gb254)); have n6_ := Aside0.mk ((by rw [hg]; exact Nat.ne_of_lt (blk_lt (tk BK238.out)) : gb238 ≠ gb254)); have n7_ := Aside0.mk ((by rw [hg]; exact Nat.ne_of_gt (blk_lt (tk BK238.out)) : gb254 ≠ gb238)); have n8_ := Aside0.mk ((by rw [hg]; exact Nat.ne_of_lt (blk_lt (tk BK244.out)) : gb244 ≠ gb254)); have n9_ := Aside0.mk ((by rw [hg]; exact Nat.ne_of_gt (blk_lt (tk BK244.out)) : gb254 ≠ gb244)); clear BK238; clear BK244; clear HB; have BK238 := n0_; have BK244 := n1_; have HB := n2_; have BK254 := n3_; have GW254 := n4_; have GE254 := n5_; have NB238_254 := n6_; have NB254_238 := n7_; have NB244_254 := n8_; have NB254_244 := n9_; clear n0_ n1_ n2_ n3_ n4_ n5_ n6_ n7_ n8_ n9_; clear hb hbox hg; have hnb65 := NB254_238.out; have hnc65 := NB238_254.out; have hnb66 := NB254_244.out; have hnc66 := NB244_254.out; have hcz67_0 : w64.cell? ⟨gb254, 0, none⟩ = some (.bool false) := (blk_cell BK254.out 0).trans rfl; have hcz67_1 : w64.cell? ⟨gb254, 1, none⟩ = some (.int .i64 0) := (blk_cell BK254.out 1).trans rfl; have hcz67_2 : w64.cell? ⟨gb254, 2, none⟩ = some (.int .i64 0) := (blk_cell BK254.out 2).trans rfl; have hcz67_3 : w64.cell? ⟨gb254, 3, none⟩ = some (.int .i64 0) := (blk_cell BK254.out 3).trans rfl; have hfz67_0 := blk_frozen BK254.out 0; have hfz67_1 := blk_frozen BK254.out 1; have hfz67_2 := blk_frozen BK254.out 2; have hfz67_3 := blk_frozen BK254.out 3; have hcz68_0 : w64.cell? ⟨gb238, 0, none⟩ = some (.string a0_0) := (blk_cell BK238.out 0).trans rfl; have hcz68_1 : w64.cell? ⟨gb238, 1, none⟩ = some (.int .i64 a0_1) := (blk_cell BK238.out 1).trans rfl; have hcz68_2 : w64.cell? ⟨gb238, 2, none⟩ = some (.int .i64 a0_2) := (blk_cell BK238.out 2).trans rfl; have hcz68_3 : w64.cell? ⟨gb238, 3, none⟩ = some (.int .i64 a0_3) := (blk_cell BK238.out 3).trans rfl; have hcz68_4 : w64.cell? ⟨gb238, 4, none⟩ = some (.int .i64 a0_4) := (blk_cell BK238.out 4).trans rfl; have hfz68_0 := blk_frozen BK238.out 0; have hfz68_1 := blk_frozen BK238.out 1; have hfz68_2 := blk_frozen BK238.out 2; have hfz68_3 := blk_frozen BK238.out 3; have hfz68_4 := blk_frozen BK238.out 4) | ((with_reducible refine gate_callee (f := 11) rfl ?_); refine goesL_ (some 62) rfl rfl Tryd.func11 (by kernel_rfl) rfl #[.agg #[.bool t249, .int .i64 t250, .int .i64 t251, .int .i64 t252], .agg #[.string a0_0, .int .i64 a0_1, .int .i64 a0_2, .int .i64 a0_3, .int .i64 a0_4], .int .i64 (wrap64 (a1 + (Int.tmod (wrap64 ((Int.tmod a2 100) + 100)) 100)))] rfl (by (try simp only [List.map_toArray, List.map_cons, List.map_nil]); first | done | rfl | (simp only [List.length_drop, List.length_take]; rfl)) ?_; (with_reducible refine (health_Late.calls kj4 t249 t250 t251 t252 a0_0 a0_1 a0_2 a0_3 a0_4 (wrap64 (a1 + (Int.tmod (wrap64 ((Int.tmod a2 100) + 100)) 100))) t255 none _ ?side1 A25.out).mono ?_); (case side1 => first | exact hG | exact GInv.step hG tb); rintro e w69 ⟨rfl, hb⟩; refine ⟨_, rfl, ?_⟩; have n0_ := Aside0.mk (blk_below (g := gb238) (o := .cells #[.string a0_0, .int .i64 a0_1, .int .i64 a0_2, .int .i64 a0_3, .int .i64 a0_4] 23 (0, 0)) (by (with_reducible repeat (first | refine blk_drewN ?_ _ | refine blk_drew ?_ | refine blk_alloc ?_ _)); refine blk_far ?_ NB238_254.out _; (with_reducible repeat (first | refine blk_drewN ?_ _ | refine blk_drew ?_ | refine blk_alloc ?_ _)); refine blk_far ?_ NB238_254.out _; (with_reducible repeat (first | refine blk_drewN ?_ _ | refine blk_drew ?_ | refine blk_alloc ?_ _)); refine blk_far ?_ NB238_254.out _; (with_reducible repeat (first | refine blk_drewN ?_ _ | refine blk_drew ?_ | refine blk_alloc ?_ _)); refine blk_far ?_ NB238_254.out _; (with_reducible repeat (first | refine blk_drewN ?_ _ | refine blk_drew ?_ | refine blk_alloc ?_ _)); exact BK238.out) hb); have n1_ := Aside0.mk (blk_below (g := gb244) (o := .cells #[.bool t239, .int .i64 t240, .int .i64 t241, .int .i64 t242] 27 (0, 0)) (by (with_reducible repeat (first | refine blk_drewN ?_ _ | refine blk_drew ?_ | refine blk_alloc ?_ _)); refine blk_far ?_ NB244_254.out _; (with_reducible repeat (first | refine blk_drewN ?_ _ | refine blk_drew ?_ | refine blk_alloc ?_ _)); refine blk_far ?_ NB244_254.out _; (with_reducible repeat (first | refine blk_drewN ?_ _ | refine blk_drew ?_ | refine blk_alloc ?_ _)); refine blk_far ?_ NB244_254.out _; (with_reducible repeat (first | refine blk_drewN ?_ _ | refine blk_drew ?_ | refine blk_alloc ?_ _)); refine blk_far ?_ NB244_254.out _; (with_reducible repeat (first | refine blk_drewN ?_ _ | refine blk_drew ?_ | refine blk_alloc ?_ _)); exact BK244.out) hb); have n2_ := Aside0.mk (blk_below (g := gb254) (o := .cells #[.bool t249, .int .i64 t250, .int .i64 t251, .int .i64 t252] 27 (0, 0)) (by (with_reducible repeat (first | refine blk_drewN ?_ _ | refine blk_drew ?_ | refine blk_alloc ?_ _)); refine blk_put (cs := #[.bool t249, .int .i64 t250, .int .i64 t251, .int .i64 0]) ?_ 3 _ rfl; (with_reducible repeat (first | refine blk_drewN ?_ _ | refine blk_drew ?_ | refine blk_alloc ?_ _)); refine blk_put (cs := #[.bool t249, .int .i64 t250, .int .i64 0, .int .i64 0]) ?_ 2 _ rfl; (with_reducible repeat (first | refine blk_drewN ?_ _ | refine blk_drew ?_ | refine blk_alloc ?_ _)); refine blk_put (cs := #[.bool t249, .int .i64 0, .int .i64 0, .int .i64 0]) ?_ 1 _ rfl; (with_reducible repeat (first | refine blk_drewN ?_ _ | refine blk_drew ?_ | refine blk_alloc ?_ _)); refine blk_put (cs := #[.bool false, .int .i64 0, .int .i64 0, .int .i64 0]) ?_ 0 _ rfl; (with_reducible repeat (first | refine blk_drewN ?_ _ | refine blk_drew ?_ | refine blk_alloc ?_ _)); exact BK254.out) hb); have n3_ := Aside0.mk (below_step tb hb); clear BK238; clear BK244; clear BK254; clear HB; have BK238 := n0_; have BK244 := n1_; have BK254 := n2_; have HB := n3_; clear n0_ n1_ n2_ n3_; (try clear hb); (try clear hb2); (try clear hk); (try clear hi); (try simp only [errW_none, errW_some]); have hcz70_0 : w69.cell? ⟨gb238, 0, none⟩ = some (.string a0_0) := (blk_cell BK238.out 0).trans rfl; have hcz70_1 : w69.cell? ⟨gb238, 1, none⟩ = some (.int .i64 a0_1) := (blk_cell BK238.out 1).trans rfl; have hcz70_2 : w69.cell? ⟨gb238, 2, none⟩ = some (.int .i64 a0_2) := (blk_cell BK238.out 2).trans rfl; have hcz70_3 : w69.cell? ⟨gb238, 3, none⟩ = some (.int .i64 a0_3) := (blk_cell BK238.out 3).trans rfl; have hcz70_4 : w69.cell? ⟨gb238, 4, none⟩ = some (.int .i64 a0_4) := (blk_cell BK238.out 4).trans rfl; have hfz70_0 := blk_frozen BK238.out 0; have hfz70_1 := blk_frozen BK238.out 1; have hfz70_2 := blk_frozen BK238.out 2; have hfz70_3 := blk_frozen BK238.out 3; have hfz70_4 := blk_frozen BK238.out 4))
         go_ret
         exact ⟨by first | rfl | (simp [errW_none, errW_some] <;> rfl) | (simp [*, errW_none, errW_some] <;> rfl), tb⟩
       ·have H1 : (some false) = some r := by rw [if_neg (show ¬ (some q259).isNone = true by simp)] at H; exact H
        clear H
        have H := H1
        clear H1
        try simp only [errW_none, errW_some]
        obtain rfl := Option.some.inj H
        have hnb71 := NB244_238.out
        have hnc71 := NB238_244.out
        have hcz72_0 : wc.cell? ⟨gb244, 0, none⟩ = some (.bool t239) := (blk_cell BK244.out 0).trans rfl
        have hcz72_1 : wc.cell? ⟨gb244, 1, none⟩ = some (.int .i64 t240) := (blk_cell BK244.out 1).trans rfl
        have hcz72_2 : wc.cell? ⟨gb244, 2, none⟩ = some (.int .i64 t241) := (blk_cell BK244.out 2).trans rfl
        have hcz72_3 : wc.cell? ⟨gb244, 3, none⟩ = some (.int .i64 t242) := (blk_cell BK244.out 3).trans rfl
        have hfz72_0 := blk_frozen BK244.out 0
        have hfz72_1 := blk_frozen BK244.out 1
        have hfz72_2 := blk_frozen BK244.out 2
        have hfz72_3 := blk_frozen BK244.out 3
        have hcz73_0 : wc.cell? ⟨gb238, 0, none⟩ = some (.string a0_0) := (blk_cell BK238.out 0).trans rfl
        have hcz73_1 : wc.cell? ⟨gb238, 1, none⟩ = some (.int .i64 a0_1) := (blk_cell BK238.out 1).trans rfl
        have hcz73_2 : wc.cell? ⟨gb238, 2, none⟩ = some (.int .i64 a0_2) := (blk_cell BK238.out 2).trans rfl
        have hcz73_3 : wc.cell? ⟨gb238, 3, none⟩ = some (.int .i64 a0_3) := (blk_cell BK238.out 3).trans rfl
        have hcz73_4 : wc.cell? ⟨gb238, 4, none⟩ = some (.int .i64 a0_4) := (blk_cell BK238.out 4).trans rfl
        have hfz73_0 := blk_frozen BK238.out 0
        have hfz73_1 := blk_frozen BK238.out 1
        have hfz73_2 := blk_frozen BK238.out 2
        have hfz73_3 := blk_frozen BK238.out 3
        have hfz73_4 := blk_frozen BK238.out 4
        go_wp2_with (first | ((with_reducible refine gate_callee (f := 11) rfl ?_); refine goesL_ (some 46) rfl rfl Tryd.func11 (by kernel_rfl) rfl #[.agg #[.bool t239, .int .i64 t240, .int .i64 t241, .int .i64 t242], .agg #[.string a0_0, .int .i64 a0_1, .int .i64 a0_2, .int .i64 a0_3, .int .i64 a0_4], .int .i64 a1] rfl (by (try simp only [List.map_toArray, List.map_cons, List.map_nil]); first | done | rfl | (simp only [List.length_drop, List.length_take]; rfl)) ?_; (with_reducible refine (health_Late.calls kj4 t239 t240 t241 t242 a0_0 a0_1 a0_2 a0_3 a0_4 a1 false none _ ?side1 A23.out).mono ?_); (case side1 => first | exact hG | exact GInv.step hG tb); rintro e w74 ⟨rfl, hb⟩; refine ⟨_, rfl, ?_⟩; have n0_ := Aside0.mk (blk_below (tk BK238.out) hb); have n1_ := Aside0.mk (blk_below (tk BK244.out) hb); have n2_ := Aside0.mk (below_step tb hb); clear BK238; clear BK244; clear HB; have BK238 := n0_; have BK244 := n1_; have HB := n2_; clear n0_ n1_ n2_; (try clear hb); (try clear hb2); (try clear hk); (try clear hi); (try simp only [errW_none, errW_some]); have hcz75_0 : w74.cell? ⟨gb244, 0, none⟩ = some (.bool t239) := (blk_cell BK244.out 0).trans rfl; have hcz75_1 : w74.cell? ⟨gb244, 1, none⟩ = some (.int .i64 t240) := (blk_cell BK244.out 1).trans rfl; have hcz75_2 : w74.cell? ⟨gb244, 2, none⟩ = some (.int .i64 t241) := (blk_cell BK244.out 2).trans rfl; have hcz75_3 : w74.cell? ⟨gb244, 3, none⟩ = some (.int .i64 t242) := (blk_cell BK244.out 3).trans rfl; have hfz75_0 := blk_frozen BK244.out 0; have hfz75_1 := blk_frozen BK244.out 1; have hfz75_2 := blk_frozen BK244.out 2; have hfz75_3 := blk_frozen BK244.out 3; have hcz76_0 : w74.cell? ⟨gb238, 0, none⟩ = some (.string a0_0) := (blk_cell BK238.out 0).trans rfl; have hcz76_1 : w74.cell? ⟨gb238, 1, none⟩ = some (.int .i64 a0_1) := (blk_cell BK238.out 1).trans rfl; have hcz76_2 : w74.cell? ⟨gb238, 2, none⟩ = some (.int .i64 a0_2) := (blk_cell BK238.out 2).trans rfl; have hcz76_3 : w74.cell? ⟨gb238, 3, none⟩ = some (.int .i64 a0_3) := (blk_cell BK238.out 3).trans rfl; have hcz76_4 : w74.cell? ⟨gb238, 4, none⟩ = some (.int .i64 a0_4) := (blk_cell BK238.out 4).trans rfl; have hfz76_0 := blk_frozen BK238.out 0; have hfz76_1 := blk_frozen BK238.out 1; have hfz76_2 := blk_frozen BK238.out 2; have hfz76_3 := blk_frozen BK238.out 3; have hfz76_4 := blk_frozen BK238.out 4) | ((with_reducible refine gate_callee (f := 8) rfl ?_); refine goesL_ (some 53) rfl rfl Tryd.func8 (by kernel_rfl) rfl #[.agg #[.bool t239, .int .i64 t240, .int .i64 t241, .int .i64 t242], .agg #[.string a0_0, .int .i64 a0_1, .int .i64 a0_2, .int .i64 a0_3, .int .i64 a0_4], .int .i64 a1] rfl (by (try simp only [List.map_toArray, List.map_cons, List.map_nil]); first | done | rfl | (simp only [List.length_drop, List.length_take]; rfl)) ?_; (with_reducible refine (health_Send.calls kj4 t239 t240 t241 t242 a0_0 a0_1 a0_2 a0_3 a0_4 a1 t249 t250 t251 t252 none _ ?side1 A24.out).mono ?_); (case side1 => first | exact hG | exact GInv.step hG tb); rintro e w77 ⟨rfl, hb⟩; refine ⟨_, rfl, ?_⟩; have n0_ := Aside0.mk (blk_below (tk BK238.out) hb); have n1_ := Aside0.mk (blk_below (tk BK244.out) hb); have n2_ := Aside0.mk (below_step tb hb); clear BK238; clear BK244; clear HB; have BK238 := n0_; have BK244 := n1_; have HB := n2_; clear n0_ n1_ n2_; (try clear hb); (try clear hb2); (try clear hk); (try clear hi); (try simp only [errW_none, errW_some])) | ((with_reducible refine gate_dst (N := 11) rfl ?_); refine box_event ?hg (N := 11) ?hd (cs := #[.bool false, .int .i64 0, .int .i64 0, .int .i64 0]) (t := 27) ?hr ?_; (case hd => rfl); (case hg => rfl); (case hr => first | (go_simp; done) | (go_simp; rfl)); intro gb254 hg w78 hbox hb; have n0_ := Aside0.mk (blk_below (tk BK238.out) hb); have n1_ := Aside0.mk (blk_below (tk BK244.out) hb); have n2_ := Aside0.mk (below_step tb hb); have n3_ := Aside0.mk (hbox); have n4_ := Aside0.mk ((by rw [hg]; exact (below_size tb) : w.heap.size ≤ gb254)); have n5_ := Aside0.mk ((by rw [hg]; exact (below_size tb) : w.heap.size ≤ gb254)); have n6_ := Aside0.mk ((by rw [hg]; exact Nat.ne_of_lt (blk_lt (tk BK238.out)) : gb238 ≠ gb254)); have n7_ := Aside0.mk ((by rw [hg]; exact Nat.ne_of_gt (blk_lt (tk BK238.out)) : gb254 ≠ gb238)); have n8_ := Aside0.mk ((by rw [hg]; exact Nat.ne_of_lt (blk_lt (tk BK244.out)) : gb244 ≠ gb254)); have n9_ := Aside0.mk ((by rw [hg]; exact Nat.ne_of_gt (blk_lt (tk BK244.out)) : gb254 ≠ gb244)); clear BK238; clear BK244; clear HB; have BK238 := n0_; have BK244 := n1_; have HB := n2_; have BK254 := n3_; have GW254 := n4_; have GE254 := n5_; have NB238_254 := n6_; have NB254_238 := n7_; have NB244_254 := n8_; have NB254_244 := n9_; clear n0_ n1_ n2_ n3_ n4_ n5_ n6_ n7_ n8_ n9_; clear hb hbox hg; have hnb79 := NB254_238.out; have hnc79 := NB238_254.out; have hnb80 := NB254_244.out; have hnc80 := NB244_254.out; have hcz81_0 : w78.cell? ⟨gb254, 0, none⟩ = some (.bool false) := (blk_cell BK254.out 0).trans rfl; have hcz81_1 : w78.cell? ⟨gb254, 1, none⟩ = some (.int .i64 0) := (blk_cell BK254.out 1).trans rfl; have hcz81_2 : w78.cell? ⟨gb254, 2, none⟩ = some (.int .i64 0) := (blk_cell BK254.out 2).trans rfl; have hcz81_3 : w78.cell? ⟨gb254, 3, none⟩ = some (.int .i64 0) := (blk_cell BK254.out 3).trans rfl; have hfz81_0 := blk_frozen BK254.out 0; have hfz81_1 := blk_frozen BK254.out 1; have hfz81_2 := blk_frozen BK254.out 2; have hfz81_3 := blk_frozen BK254.out 3; have hcz82_0 : w78.cell? ⟨gb238, 0, none⟩ = some (.string a0_0) := (blk_cell BK238.out 0).trans rfl; have hcz82_1 : w78.cell? ⟨gb238, 1, none⟩ = some (.int .i64 a0_1) := (blk_cell BK238.out 1).trans rfl; have hcz82_2 : w78.cell? ⟨gb238, 2, none⟩ = some (.int .i64 a0_2) := (blk_cell BK238.out 2).trans rfl; have hcz82_3 : w78.cell? ⟨gb238, 3, none⟩ = some (.int .i64 a0_3) := (blk_cell BK238.out 3).trans rfl; have hcz82_4 : w78.cell? ⟨gb238, 4, none⟩ = some (.int .i64 a0_4) := (blk_cell BK238.out 4).trans rfl; have hfz82_0 := blk_frozen BK238.out 0; have hfz82_1 := blk_frozen BK238.out 1; have hfz82_2 := blk_frozen BK238.out 2; have hfz82_3 := blk_frozen BK238.out 3; have hfz82_4 := blk_frozen BK238.out 4) | ((with_reducible refine gate_callee (f := 11) rfl ?_); refine goesL_ (some 62) rfl rfl Tryd.func11 (by kernel_rfl) rfl #[.agg #[.bool t249, .int .i64 t250, .int .i64 t251, .int .i64 t252], .agg #[.string a0_0, .int .i64 a0_1, .int .i64 a0_2, .int .i64 a0_3, .int .i64 a0_4], .int .i64 (wrap64 (a1 + (Int.tmod (wrap64 ((Int.tmod a2 100) + 100)) 100)))] rfl (by (try simp only [List.map_toArray, List.map_cons, List.map_nil]); first | done | rfl | (simp only [List.length_drop, List.length_take]; rfl)) ?_; (with_reducible refine (health_Late.calls kj4 t249 t250 t251 t252 a0_0 a0_1 a0_2 a0_3 a0_4 (wrap64 (a1 + (Int.tmod (wrap64 ((Int.tmod a2 100) + 100)) 100))) t255 (some q259) _ ?side1 A25.out).mono ?_); (case side1 => first | exact hG | exact GInv.step hG tb); rintro e w83 ⟨rfl, hb⟩; refine ⟨_, rfl, ?_⟩; have n0_ := Aside0.mk (blk_below (g := gb238) (o := .cells #[.string a0_0, .int .i64 a0_1, .int .i64 a0_2, .int .i64 a0_3, .int .i64 a0_4] 23 (0, 0)) (by (with_reducible repeat (first | refine blk_drewN ?_ _ | refine blk_drew ?_ | refine blk_alloc ?_ _)); refine blk_far ?_ NB238_254.out _; (with_reducible repeat (first | refine blk_drewN ?_ _ | refine blk_drew ?_ | refine blk_alloc ?_ _)); refine blk_far ?_ NB238_254.out _; (with_reducible repeat (first | refine blk_drewN ?_ _ | refine blk_drew ?_ | refine blk_alloc ?_ _)); refine blk_far ?_ NB238_254.out _; (with_reducible repeat (first | refine blk_drewN ?_ _ | refine blk_drew ?_ | refine blk_alloc ?_ _)); refine blk_far ?_ NB238_254.out _; (with_reducible repeat (first | refine blk_drewN ?_ _ | refine blk_drew ?_ | refine blk_alloc ?_ _)); exact BK238.out) hb); have n1_ := Aside0.mk (blk_below (g := gb244) (o := .cells #[.bool t239, .int .i64 t240, .int .i64 t241, .int .i64 t242] 27 (0, 0)) (by (with_reducible repeat (first | refine blk_drewN ?_ _ | refine blk_drew ?_ | refine blk_alloc ?_ _)); refine blk_far ?_ NB244_254.out _; (with_reducible repeat (first | refine blk_drewN ?_ _ | refine blk_drew ?_ | refine blk_alloc ?_ _)); refine blk_far ?_ NB244_254.out _; (with_reducible repeat (first | refine blk_drewN ?_ _ | refine blk_drew ?_ | refine blk_alloc ?_ _)); refine blk_far ?_ NB244_254.out _; (with_reducible repeat (first | refine blk_drewN ?_ _ | refine blk_drew ?_ | refine blk_alloc ?_ _)); refine blk_far ?_ NB244_254.out _; (with_reducible repeat (first | refine blk_drewN ?_ _ | refine blk_drew ?_ | refine blk_alloc ?_ _)); exact BK244.out) hb); have n2_ := Aside0.mk (blk_below (g := gb254) (o := .cells #[.bool t249, .int .i64 t250, .int .i64 t251, .int .i64 t252] 27 (0, 0)) (by (with_reducible repeat (first | refine blk_drewN ?_ _ | refine blk_drew ?_ | refine blk_alloc ?_ _)); refine blk_put (cs := #[.bool t249, .int .i64 t250, .int .i64 t251, .int .i64 0]) ?_ 3 _ rfl; (with_reducible repeat (first | refine blk_drewN ?_ _ | refine blk_drew ?_ | refine blk_alloc ?_ _)); refine blk_put (cs := #[.bool t249, .int .i64 t250, .int .i64 0, .int .i64 0]) ?_ 2 _ rfl; (with_reducible repeat (first | refine blk_drewN ?_ _ | refine blk_drew ?_ | refine blk_alloc ?_ _)); refine blk_put (cs := #[.bool t249, .int .i64 0, .int .i64 0, .int .i64 0]) ?_ 1 _ rfl; (with_reducible repeat (first | refine blk_drewN ?_ _ | refine blk_drew ?_ | refine blk_alloc ?_ _)); refine blk_put (cs := #[.bool false, .int .i64 0, .int .i64 0, .int .i64 0]) ?_ 0 _ rfl; (with_reducible repeat (first | refine blk_drewN ?_ _ | refine blk_drew ?_ | refine blk_alloc ?_ _)); exact BK254.out) hb); have n3_ := Aside0.mk (below_step tb hb); clear BK238; clear BK244; clear BK254; clear HB; have BK238 := n0_; have BK244 := n1_; have BK254 := n2_; have HB := n3_; clear n0_ n1_ n2_ n3_; (try clear hb); (try clear hb2); (try clear hk); (try clear hi); (try simp only [errW_none, errW_some])))
        go_ret
        exact ⟨by first | rfl | (simp [errW_none, errW_some] <;> rfl) | (simp [*, errW_none, errW_some] <;> rfl), tb⟩
      ·have H1 : (some false) = some r := by rw [if_neg (show ¬ (some q258).isNone = true by simp)] at H; exact H
       clear H
       have H := H1
       clear H1
       try simp only [errW_none, errW_some]
       obtain rfl := Option.some.inj H
       have hnb84 := NB244_238.out
       have hnc84 := NB238_244.out
       have hcz85_0 : wc.cell? ⟨gb244, 0, none⟩ = some (.bool t239) := (blk_cell BK244.out 0).trans rfl
       have hcz85_1 : wc.cell? ⟨gb244, 1, none⟩ = some (.int .i64 t240) := (blk_cell BK244.out 1).trans rfl
       have hcz85_2 : wc.cell? ⟨gb244, 2, none⟩ = some (.int .i64 t241) := (blk_cell BK244.out 2).trans rfl
       have hcz85_3 : wc.cell? ⟨gb244, 3, none⟩ = some (.int .i64 t242) := (blk_cell BK244.out 3).trans rfl
       have hfz85_0 := blk_frozen BK244.out 0
       have hfz85_1 := blk_frozen BK244.out 1
       have hfz85_2 := blk_frozen BK244.out 2
       have hfz85_3 := blk_frozen BK244.out 3
       have hcz86_0 : wc.cell? ⟨gb238, 0, none⟩ = some (.string a0_0) := (blk_cell BK238.out 0).trans rfl
       have hcz86_1 : wc.cell? ⟨gb238, 1, none⟩ = some (.int .i64 a0_1) := (blk_cell BK238.out 1).trans rfl
       have hcz86_2 : wc.cell? ⟨gb238, 2, none⟩ = some (.int .i64 a0_2) := (blk_cell BK238.out 2).trans rfl
       have hcz86_3 : wc.cell? ⟨gb238, 3, none⟩ = some (.int .i64 a0_3) := (blk_cell BK238.out 3).trans rfl
       have hcz86_4 : wc.cell? ⟨gb238, 4, none⟩ = some (.int .i64 a0_4) := (blk_cell BK238.out 4).trans rfl
       have hfz86_0 := blk_frozen BK238.out 0
       have hfz86_1 := blk_frozen BK238.out 1
       have hfz86_2 := blk_frozen BK238.out 2
       have hfz86_3 := blk_frozen BK238.out 3
       have hfz86_4 := blk_frozen BK238.out 4
       go_wp2_with (first | ((with_reducible refine gate_callee (f := 11) rfl ?_); refine goesL_ (some 46) rfl rfl Tryd.func11 (by kernel_rfl) rfl #[.agg #[.bool t239, .int .i64 t240, .int .i64 t241, .int .i64 t242], .agg #[.string a0_0, .int .i64 a0_1, .int .i64 a0_2, .int .i64 a0_3, .int .i64 a0_4], .int .i64 a1] rfl (by (try simp only [List.map_toArray, List.map_cons, List.map_nil]); first | done | rfl | (simp only [List.length_drop, List.length_take]; rfl)) ?_; (with_reducible refine (health_Late.calls kj4 t239 t240 t241 t242 a0_0 a0_1 a0_2 a0_3 a0_4 a1 false none _ ?side1 A23.out).mono ?_); (case side1 => first | exact hG | exact GInv.step hG tb); rintro e w87 ⟨rfl, hb⟩; refine ⟨_, rfl, ?_⟩; have n0_ := Aside0.mk (blk_below (tk BK238.out) hb); have n1_ := Aside0.mk (blk_below (tk BK244.out) hb); have n2_ := Aside0.mk (below_step tb hb); clear BK238; clear BK244; clear HB; have BK238 := n0_; have BK244 := n1_; have HB := n2_; clear n0_ n1_ n2_; (try clear hb); (try clear hb2); (try clear hk); (try clear hi); (try simp only [errW_none, errW_some]); have hcz88_0 : w87.cell? ⟨gb244, 0, none⟩ = some (.bool t239) := (blk_cell BK244.out 0).trans rfl; have hcz88_1 : w87.cell? ⟨gb244, 1, none⟩ = some (.int .i64 t240) := (blk_cell BK244.out 1).trans rfl; have hcz88_2 : w87.cell? ⟨gb244, 2, none⟩ = some (.int .i64 t241) := (blk_cell BK244.out 2).trans rfl; have hcz88_3 : w87.cell? ⟨gb244, 3, none⟩ = some (.int .i64 t242) := (blk_cell BK244.out 3).trans rfl; have hfz88_0 := blk_frozen BK244.out 0; have hfz88_1 := blk_frozen BK244.out 1; have hfz88_2 := blk_frozen BK244.out 2; have hfz88_3 := blk_frozen BK244.out 3; have hcz89_0 : w87.cell? ⟨gb238, 0, none⟩ = some (.string a0_0) := (blk_cell BK238.out 0).trans rfl; have hcz89_1 : w87.cell? ⟨gb238, 1, none⟩ = some (.int .i64 a0_1) := (blk_cell BK238.out 1).trans rfl; have hcz89_2 : w87.cell? ⟨gb238, 2, none⟩ = some (.int .i64 a0_2) := (blk_cell BK238.out 2).trans rfl; have hcz89_3 : w87.cell? ⟨gb238, 3, none⟩ = some (.int .i64 a0_3) := (blk_cell BK238.out 3).trans rfl; have hcz89_4 : w87.cell? ⟨gb238, 4, none⟩ = some (.int .i64 a0_4) := (blk_cell BK238.out 4).trans rfl; have hfz89_0 := blk_frozen BK238.out 0; have hfz89_1 := blk_frozen BK238.out 1; have hfz89_2 := blk_frozen BK238.out 2; have hfz89_3 := blk_frozen BK238.out 3; have hfz89_4 := blk_frozen BK238.out 4) | ((with_reducible refine gate_callee (f := 8) rfl ?_); refine goesL_ (some 53) rfl rfl Tryd.func8 (by kernel_rfl) rfl #[.agg #[.bool t239, .int .i64 t240, .int .i64 t241, .int .i64 t242], .agg #[.string a0_0, .int .i64 a0_1, .int .i64 a0_2, .int .i64 a0_3, .int .i64 a0_4], .int .i64 a1] rfl (by (try simp only [List.map_toArray, List.map_cons, List.map_nil]); first | done | rfl | (simp only [List.length_drop, List.length_take]; rfl)) ?_; (with_reducible refine (health_Send.calls kj4 t239 t240 t241 t242 a0_0 a0_1 a0_2 a0_3 a0_4 a1 t249 t250 t251 t252 (some q258) _ ?side1 A24.out).mono ?_); (case side1 => first | exact hG | exact GInv.step hG tb); rintro e w90 ⟨rfl, hb⟩; refine ⟨_, rfl, ?_⟩; have n0_ := Aside0.mk (blk_below (tk BK238.out) hb); have n1_ := Aside0.mk (blk_below (tk BK244.out) hb); have n2_ := Aside0.mk (below_step tb hb); clear BK238; clear BK244; clear HB; have BK238 := n0_; have BK244 := n1_; have HB := n2_; clear n0_ n1_ n2_; (try clear hb); (try clear hb2); (try clear hk); (try clear hi); (try simp only [errW_none, errW_some])) | ((with_reducible refine gate_dst (N := 11) rfl ?_); refine box_event ?hg (N := 11) ?hd (cs := #[.bool false, .int .i64 0, .int .i64 0, .int .i64 0]) (t := 27) ?hr ?_; (case hd => rfl); (case hg => rfl); (case hr => first | (go_simp; done) | (go_simp; rfl)); intro gb254 hg w91 hbox hb; have n0_ := Aside0.mk (blk_below (tk BK238.out) hb); have n1_ := Aside0.mk (blk_below (tk BK244.out) hb); have n2_ := Aside0.mk (below_step tb hb); have n3_ := Aside0.mk (hbox); have n4_ := Aside0.mk ((by rw [hg]; exact (below_size tb) : w.heap.size ≤ gb254)); have n5_ := Aside0.mk ((by rw [hg]; exact (below_size tb) : w.heap.size ≤ gb254)); have n6_ := Aside0.mk ((by rw [hg]; exact Nat.ne_of_lt (blk_lt (tk BK238.out)) : gb238 ≠ gb254)); have n7_ := Aside0.mk ((by rw [hg]; exact Nat.ne_of_gt (blk_lt (tk BK238.out)) : gb254 ≠ gb238)); have n8_ := Aside0.mk ((by rw [hg]; exact Nat.ne_of_lt (blk_lt (tk BK244.out)) : gb244 ≠ gb254)); have n9_ := Aside0.mk ((by rw [hg]; exact Nat.ne_of_gt (blk_lt (tk BK244.out)) : gb254 ≠ gb244)); clear BK238; clear BK244; clear HB; have BK238 := n0_; have BK244 := n1_; have HB := n2_; have BK254 := n3_; have GW254 := n4_; have GE254 := n5_; have NB238_254 := n6_; have NB254_238 := n7_; have NB244_254 := n8_; have NB254_244 := n9_; clear n0_ n1_ n2_ n3_ n4_ n5_ n6_ n7_ n8_ n9_; clear hb hbox hg; have hnb92 := NB254_238.out; have hnc92 := NB238_254.out; have hnb93 := NB254_244.out; have hnc93 := NB244_254.out; have hcz94_0 : w91.cell? ⟨gb254, 0, none⟩ = some (.bool false) := (blk_cell BK254.out 0).trans rfl; have hcz94_1 : w91.cell? ⟨gb254, 1, none⟩ = some (.int .i64 0) := (blk_cell BK254.out 1).trans rfl; have hcz94_2 : w91.cell? ⟨gb254, 2, none⟩ = some (.int .i64 0) := (blk_cell BK254.out 2).trans rfl; have hcz94_3 : w91.cell? ⟨gb254, 3, none⟩ = some (.int .i64 0) := (blk_cell BK254.out 3).trans rfl; have hfz94_0 := blk_frozen BK254.out 0; have hfz94_1 := blk_frozen BK254.out 1; have hfz94_2 := blk_frozen BK254.out 2; have hfz94_3 := blk_frozen BK254.out 3; have hcz95_0 : w91.cell? ⟨gb238, 0, none⟩ = some (.string a0_0) := (blk_cell BK238.out 0).trans rfl; have hcz95_1 : w91.cell? ⟨gb238, 1, none⟩ = some (.int .i64 a0_1) := (blk_cell BK238.out 1).trans rfl; have hcz95_2 : w91.cell? ⟨gb238, 2, none⟩ = some (.int .i64 a0_2) := (blk_cell BK238.out 2).trans rfl; have hcz95_3 : w91.cell? ⟨gb238, 3, none⟩ = some (.int .i64 a0_3) := (blk_cell BK238.out 3).trans rfl; have hcz95_4 : w91.cell? ⟨gb238, 4, none⟩ = some (.int .i64 a0_4) := (blk_cell BK238.out 4).trans rfl; have hfz95_0 := blk_frozen BK238.out 0; have hfz95_1 := blk_frozen BK238.out 1; have hfz95_2 := blk_frozen BK238.out 2; have hfz95_3 := blk_frozen BK238.out 3; have hfz95_4 := blk_frozen BK238.out 4) | ((with_reducible refine gate_callee (f := 11) rfl ?_); refine goesL_ (some 62) rfl rfl Tryd.func11 (by kernel_rfl) rfl #[.agg #[.bool t249, .int .i64 t250, .int .i64 t251, .int .i64 t252], .agg #[.string a0_0, .int .i64 a0_1, .int .i64 a0_2, .int .i64 a0_3, .int .i64 a0_4], .int .i64 (wrap64 (a1 + (Int.tmod (wrap64 ((Int.tmod a2 100) + 100)) 100)))] rfl (by (try simp only [List.map_toArray, List.map_cons, List.map_nil]); first | done | rfl | (simp only [List.length_drop, List.length_take]; rfl)) ?_; (with_reducible refine (health_Late.calls kj4 t249 t250 t251 t252 a0_0 a0_1 a0_2 a0_3 a0_4 (wrap64 (a1 + (Int.tmod (wrap64 ((Int.tmod a2 100) + 100)) 100))) t255 t256 _ ?side1 A25.out).mono ?_); (case side1 => first | exact hG | exact GInv.step hG tb); rintro e w96 ⟨rfl, hb⟩; refine ⟨_, rfl, ?_⟩; have n0_ := Aside0.mk (blk_below (g := gb238) (o := .cells #[.string a0_0, .int .i64 a0_1, .int .i64 a0_2, .int .i64 a0_3, .int .i64 a0_4] 23 (0, 0)) (by (with_reducible repeat (first | refine blk_drewN ?_ _ | refine blk_drew ?_ | refine blk_alloc ?_ _)); refine blk_far ?_ NB238_254.out _; (with_reducible repeat (first | refine blk_drewN ?_ _ | refine blk_drew ?_ | refine blk_alloc ?_ _)); refine blk_far ?_ NB238_254.out _; (with_reducible repeat (first | refine blk_drewN ?_ _ | refine blk_drew ?_ | refine blk_alloc ?_ _)); refine blk_far ?_ NB238_254.out _; (with_reducible repeat (first | refine blk_drewN ?_ _ | refine blk_drew ?_ | refine blk_alloc ?_ _)); refine blk_far ?_ NB238_254.out _; (with_reducible repeat (first | refine blk_drewN ?_ _ | refine blk_drew ?_ | refine blk_alloc ?_ _)); exact BK238.out) hb); have n1_ := Aside0.mk (blk_below (g := gb244) (o := .cells #[.bool t239, .int .i64 t240, .int .i64 t241, .int .i64 t242] 27 (0, 0)) (by (with_reducible repeat (first | refine blk_drewN ?_ _ | refine blk_drew ?_ | refine blk_alloc ?_ _)); refine blk_far ?_ NB244_254.out _; (with_reducible repeat (first | refine blk_drewN ?_ _ | refine blk_drew ?_ | refine blk_alloc ?_ _)); refine blk_far ?_ NB244_254.out _; (with_reducible repeat (first | refine blk_drewN ?_ _ | refine blk_drew ?_ | refine blk_alloc ?_ _)); refine blk_far ?_ NB244_254.out _; (with_reducible repeat (first | refine blk_drewN ?_ _ | refine blk_drew ?_ | refine blk_alloc ?_ _)); refine blk_far ?_ NB244_254.out _; (with_reducible repeat (first | refine blk_drewN ?_ _ | refine blk_drew ?_ | refine blk_alloc ?_ _)); exact BK244.out) hb); have n2_ := Aside0.mk (blk_below (g := gb254) (o := .cells #[.bool t249, .int .i64 t250, .int .i64 t251, .int .i64 t252] 27 (0, 0)) (by (with_reducible repeat (first | refine blk_drewN ?_ _ | refine blk_drew ?_ | refine blk_alloc ?_ _)); refine blk_put (cs := #[.bool t249, .int .i64 t250, .int .i64 t251, .int .i64 0]) ?_ 3 _ rfl; (with_reducible repeat (first | refine blk_drewN ?_ _ | refine blk_drew ?_ | refine blk_alloc ?_ _)); refine blk_put (cs := #[.bool t249, .int .i64 t250, .int .i64 0, .int .i64 0]) ?_ 2 _ rfl; (with_reducible repeat (first | refine blk_drewN ?_ _ | refine blk_drew ?_ | refine blk_alloc ?_ _)); refine blk_put (cs := #[.bool t249, .int .i64 0, .int .i64 0, .int .i64 0]) ?_ 1 _ rfl; (with_reducible repeat (first | refine blk_drewN ?_ _ | refine blk_drew ?_ | refine blk_alloc ?_ _)); refine blk_put (cs := #[.bool false, .int .i64 0, .int .i64 0, .int .i64 0]) ?_ 0 _ rfl; (with_reducible repeat (first | refine blk_drewN ?_ _ | refine blk_drew ?_ | refine blk_alloc ?_ _)); exact BK254.out) hb); have n3_ := Aside0.mk (below_step tb hb); clear BK238; clear BK244; clear BK254; clear HB; have BK238 := n0_; have BK244 := n1_; have BK254 := n2_; have HB := n3_; clear n0_ n1_ n2_ n3_; (try clear hb); (try clear hb2); (try clear hk); (try clear hi); (try simp only [errW_none, errW_some])))
       go_ret
       exact ⟨by first | rfl | (simp [errW_none, errW_some] <;> rfl) | (simp [*, errW_none, errW_some] <;> rfl), tb⟩
     ·have H1 : (some false) = some r := by rw [if_neg (show ¬ (some q257).isNone = true by simp)] at H; exact H
      clear H
      have H := H1
      clear H1
      try simp only [errW_none, errW_some]
      obtain rfl := Option.some.inj H
      have hnb97 := NB244_238.out
      have hnc97 := NB238_244.out
      have hcz98_0 : wc.cell? ⟨gb244, 0, none⟩ = some (.bool t239) := (blk_cell BK244.out 0).trans rfl
      have hcz98_1 : wc.cell? ⟨gb244, 1, none⟩ = some (.int .i64 t240) := (blk_cell BK244.out 1).trans rfl
      have hcz98_2 : wc.cell? ⟨gb244, 2, none⟩ = some (.int .i64 t241) := (blk_cell BK244.out 2).trans rfl
      have hcz98_3 : wc.cell? ⟨gb244, 3, none⟩ = some (.int .i64 t242) := (blk_cell BK244.out 3).trans rfl
      have hfz98_0 := blk_frozen BK244.out 0
      have hfz98_1 := blk_frozen BK244.out 1
      have hfz98_2 := blk_frozen BK244.out 2
      have hfz98_3 := blk_frozen BK244.out 3
      have hcz99_0 : wc.cell? ⟨gb238, 0, none⟩ = some (.string a0_0) := (blk_cell BK238.out 0).trans rfl
      have hcz99_1 : wc.cell? ⟨gb238, 1, none⟩ = some (.int .i64 a0_1) := (blk_cell BK238.out 1).trans rfl
      have hcz99_2 : wc.cell? ⟨gb238, 2, none⟩ = some (.int .i64 a0_2) := (blk_cell BK238.out 2).trans rfl
      have hcz99_3 : wc.cell? ⟨gb238, 3, none⟩ = some (.int .i64 a0_3) := (blk_cell BK238.out 3).trans rfl
      have hcz99_4 : wc.cell? ⟨gb238, 4, none⟩ = some (.int .i64 a0_4) := (blk_cell BK238.out 4).trans rfl
      have hfz99_0 := blk_frozen BK238.out 0
      have hfz99_1 := blk_frozen BK238.out 1
      have hfz99_2 := blk_frozen BK238.out 2
      have hfz99_3 := blk_frozen BK238.out 3
      have hfz99_4 := blk_frozen BK238.out 4
      go_wp2_with (first | ((with_reducible refine gate_callee (f := 11) rfl ?_); refine goesL_ (some 46) rfl rfl Tryd.func11 (by kernel_rfl) rfl #[.agg #[.bool t239, .int .i64 t240, .int .i64 t241, .int .i64 t242], .agg #[.string a0_0, .int .i64 a0_1, .int .i64 a0_2, .int .i64 a0_3, .int .i64 a0_4], .int .i64 a1] rfl (by (try simp only [List.map_toArray, List.map_cons, List.map_nil]); first | done | rfl | (simp only [List.length_drop, List.length_take]; rfl)) ?_; (with_reducible refine (health_Late.calls kj4 t239 t240 t241 t242 a0_0 a0_1 a0_2 a0_3 a0_4 a1 false (some q257) _ ?side1 A23.out).mono ?_); (case side1 => first | exact hG | exact GInv.step hG tb); rintro e w100 ⟨rfl, hb⟩; refine ⟨_, rfl, ?_⟩; have n0_ := Aside0.mk (blk_below (tk BK238.out) hb); have n1_ := Aside0.mk (blk_below (tk BK244.out) hb); have n2_ := Aside0.mk (below_step tb hb); clear BK238; clear BK244; clear HB; have BK238 := n0_; have BK244 := n1_; have HB := n2_; clear n0_ n1_ n2_; (try clear hb); (try clear hb2); (try clear hk); (try clear hi); (try simp only [errW_none, errW_some]); have hcz101_0 : w100.cell? ⟨gb244, 0, none⟩ = some (.bool t239) := (blk_cell BK244.out 0).trans rfl; have hcz101_1 : w100.cell? ⟨gb244, 1, none⟩ = some (.int .i64 t240) := (blk_cell BK244.out 1).trans rfl; have hcz101_2 : w100.cell? ⟨gb244, 2, none⟩ = some (.int .i64 t241) := (blk_cell BK244.out 2).trans rfl; have hcz101_3 : w100.cell? ⟨gb244, 3, none⟩ = some (.int .i64 t242) := (blk_cell BK244.out 3).trans rfl; have hfz101_0 := blk_frozen BK244.out 0; have hfz101_1 := blk_frozen BK244.out 1; have hfz101_2 := blk_frozen BK244.out 2; have hfz101_3 := blk_frozen BK244.out 3; have hcz102_0 : w100.cell? ⟨gb238, 0, none⟩ = some (.string a0_0) := (blk_cell BK238.out 0).trans rfl; have hcz102_1 : w100.cell? ⟨gb238, 1, none⟩ = some (.int .i64 a0_1) := (blk_cell BK238.out 1).trans rfl; have hcz102_2 : w100.cell? ⟨gb238, 2, none⟩ = some (.int .i64 a0_2) := (blk_cell BK238.out 2).trans rfl; have hcz102_3 : w100.cell? ⟨gb238, 3, none⟩ = some (.int .i64 a0_3) := (blk_cell BK238.out 3).trans rfl; have hcz102_4 : w100.cell? ⟨gb238, 4, none⟩ = some (.int .i64 a0_4) := (blk_cell BK238.out 4).trans rfl; have hfz102_0 := blk_frozen BK238.out 0; have hfz102_1 := blk_frozen BK238.out 1; have hfz102_2 := blk_frozen BK238.out 2; have hfz102_3 := blk_frozen BK238.out 3; have hfz102_4 := blk_frozen BK238.out 4) | ((with_reducible refine gate_callee (f := 8) rfl ?_); refine goesL_ (some 53) rfl rfl Tryd.func8 (by kernel_rfl) rfl #[.agg #[.bool t239, .int .i64 t240, .int .i64 t241, .int .i64 t242], .agg #[.string a0_0, .int .i64 a0_1, .int .i64 a0_2, .int .i64 a0_3, .int .i64 a0_4], .int .i64 a1] rfl (by (try simp only [List.map_toArray, List.map_cons, List.map_nil]); first | done | rfl | (simp only [List.length_drop, List.length_take]; rfl)) ?_; (with_reducible refine (health_Send.calls kj4 t239 t240 t241 t242 a0_0 a0_1 a0_2 a0_3 a0_4 a1 t249 t250 t251 t252 t253 _ ?side1 A24.out).mono ?_); (case side1 => first | exact hG | exact GInv.step hG tb); rintro e w103 ⟨rfl, hb⟩; refine ⟨_, rfl, ?_⟩; have n0_ := Aside0.mk (blk_below (tk BK238.out) hb); have n1_ := Aside0.mk (blk_below (tk BK244.out) hb); have n2_ := Aside0.mk (below_step tb hb); clear BK238; clear BK244; clear HB; have BK238 := n0_; have BK244 := n1_; have HB := n2_; clear n0_ n1_ n2_; (try clear hb); (try clear hb2); (try clear hk); (try clear hi); (try simp only [errW_none, errW_some])) | ((with_reducible refine gate_dst (N := 11) rfl ?_); refine box_event ?hg (N := 11) ?hd (cs := #[.bool false, .int .i64 0, .int .i64 0, .int .i64 0]) (t := 27) ?hr ?_; (case hd => rfl); (case hg => rfl); (case hr => first | (go_simp; done) | (go_simp; rfl)); intro gb254 hg w104 hbox hb; have n0_ := Aside0.mk (blk_below (tk BK238.out) hb); have n1_ := Aside0.mk (blk_below (tk BK244.out) hb); have n2_ := Aside0.mk (below_step tb hb); have n3_ := Aside0.mk (hbox); have n4_ := Aside0.mk ((by rw [hg]; exact (below_size tb) : w.heap.size ≤ gb254)); have n5_ := Aside0.mk ((by rw [hg]; exact (below_size tb) : w.heap.size ≤ gb254)); have n6_ := Aside0.mk ((by rw [hg]; exact Nat.ne_of_lt (blk_lt (tk BK238.out)) : gb238 ≠ gb254)); have n7_ := Aside0.mk ((by rw [hg]; exact Nat.ne_of_gt (blk_lt (tk BK238.out)) : gb254 ≠ gb238)); have n8_ := Aside0.mk ((by rw [hg]; exact Nat.ne_of_lt (blk_lt (tk BK244.out)) : gb244 ≠ gb254)); have n9_ := Aside0.mk ((by rw [hg]; exact Nat.ne_of_gt (blk_lt (tk BK244.out)) : gb254 ≠ gb244)); clear BK238; clear BK244; clear HB; have BK238 := n0_; have BK244 := n1_; have HB := n2_; have BK254 := n3_; have GW254 := n4_; have GE254 := n5_; have NB238_254 := n6_; have NB254_238 := n7_; have NB244_254 := n8_; have NB254_244 := n9_; clear n0_ n1_ n2_ n3_ n4_ n5_ n6_ n7_ n8_ n9_; clear hb hbox hg; have hnb105 := NB254_238.out; have hnc105 := NB238_254.out; have hnb106 := NB254_244.out; have hnc106 := NB244_254.out; have hcz107_0 : w104.cell? ⟨gb254, 0, none⟩ = some (.bool false) := (blk_cell BK254.out 0).trans rfl; have hcz107_1 : w104.cell? ⟨gb254, 1, none⟩ = some (.int .i64 0) := (blk_cell BK254.out 1).trans rfl; have hcz107_2 : w104.cell? ⟨gb254, 2, none⟩ = some (.int .i64 0) := (blk_cell BK254.out 2).trans rfl; have hcz107_3 : w104.cell? ⟨gb254, 3, none⟩ = some (.int .i64 0) := (blk_cell BK254.out 3).trans rfl; have hfz107_0 := blk_frozen BK254.out 0; have hfz107_1 := blk_frozen BK254.out 1; have hfz107_2 := blk_frozen BK254.out 2; have hfz107_3 := blk_frozen BK254.out 3; have hcz108_0 : w104.cell? ⟨gb238, 0, none⟩ = some (.string a0_0) := (blk_cell BK238.out 0).trans rfl; have hcz108_1 : w104.cell? ⟨gb238, 1, none⟩ = some (.int .i64 a0_1) := (blk_cell BK238.out 1).trans rfl; have hcz108_2 : w104.cell? ⟨gb238, 2, none⟩ = some (.int .i64 a0_2) := (blk_cell BK238.out 2).trans rfl; have hcz108_3 : w104.cell? ⟨gb238, 3, none⟩ = some (.int .i64 a0_3) := (blk_cell BK238.out 3).trans rfl; have hcz108_4 : w104.cell? ⟨gb238, 4, none⟩ = some (.int .i64 a0_4) := (blk_cell BK238.out 4).trans rfl; have hfz108_0 := blk_frozen BK238.out 0; have hfz108_1 := blk_frozen BK238.out 1; have hfz108_2 := blk_frozen BK238.out 2; have hfz108_3 := blk_frozen BK238.out 3; have hfz108_4 := blk_frozen BK238.out 4) | ((with_reducible refine gate_callee (f := 11) rfl ?_); refine goesL_ (some 62) rfl rfl Tryd.func11 (by kernel_rfl) rfl #[.agg #[.bool t249, .int .i64 t250, .int .i64 t251, .int .i64 t252], .agg #[.string a0_0, .int .i64 a0_1, .int .i64 a0_2, .int .i64 a0_3, .int .i64 a0_4], .int .i64 (wrap64 (a1 + (Int.tmod (wrap64 ((Int.tmod a2 100) + 100)) 100)))] rfl (by (try simp only [List.map_toArray, List.map_cons, List.map_nil]); first | done | rfl | (simp only [List.length_drop, List.length_take]; rfl)) ?_; (with_reducible refine (health_Late.calls kj4 t249 t250 t251 t252 a0_0 a0_1 a0_2 a0_3 a0_4 (wrap64 (a1 + (Int.tmod (wrap64 ((Int.tmod a2 100) + 100)) 100))) t255 t256 _ ?side1 A25.out).mono ?_); (case side1 => first | exact hG | exact GInv.step hG tb); rintro e w109 ⟨rfl, hb⟩; refine ⟨_, rfl, ?_⟩; have n0_ := Aside0.mk (blk_below (g := gb238) (o := .cells #[.string a0_0, .int .i64 a0_1, .int .i64 a0_2, .int .i64 a0_3, .int .i64 a0_4] 23 (0, 0)) (by (with_reducible repeat (first | refine blk_drewN ?_ _ | refine blk_drew ?_ | refine blk_alloc ?_ _)); refine blk_far ?_ NB238_254.out _; (with_reducible repeat (first | refine blk_drewN ?_ _ | refine blk_drew ?_ | refine blk_alloc ?_ _)); refine blk_far ?_ NB238_254.out _; (with_reducible repeat (first | refine blk_drewN ?_ _ | refine blk_drew ?_ | refine blk_alloc ?_ _)); refine blk_far ?_ NB238_254.out _; (with_reducible repeat (first | refine blk_drewN ?_ _ | refine blk_drew ?_ | refine blk_alloc ?_ _)); refine blk_far ?_ NB238_254.out _; (with_reducible repeat (first | refine blk_drewN ?_ _ | refine blk_drew ?_ | refine blk_alloc ?_ _)); exact BK238.out) hb); have n1_ := Aside0.mk (blk_below (g := gb244) (o := .cells #[.bool t239, .int .i64 t240, .int .i64 t241, .int .i64 t242] 27 (0, 0)) (by (with_reducible repeat (first | refine blk_drewN ?_ _ | refine blk_drew ?_ | refine blk_alloc ?_ _)); refine blk_far ?_ NB244_254.out _; (with_reducible repeat (first | refine blk_drewN ?_ _ | refine blk_drew ?_ | refine blk_alloc ?_ _)); refine blk_far ?_ NB244_254.out _; (with_reducible repeat (first | refine blk_drewN ?_ _ | refine blk_drew ?_ | refine blk_alloc ?_ _)); refine blk_far ?_ NB244_254.out _; (with_reducible repeat (first | refine blk_drewN ?_ _ | refine blk_drew ?_ | refine blk_alloc ?_ _)); refine blk_far ?_ NB244_254.out _; (with_reducible repeat (first | refine blk_drewN ?_ _ | refine blk_drew ?_ | refine blk_alloc ?_ _)); exact BK244.out) hb); have n2_ := Aside0.mk (blk_below (g := gb254) (o := .cells #[.bool t249, .int .i64 t250, .int .i64 t251, .int .i64 t252] 27 (0, 0)) (by (with_reducible repeat (first | refine blk_drewN ?_ _ | refine blk_drew ?_ | refine blk_alloc ?_ _)); refine blk_put (cs := #[.bool t249, .int .i64 t250, .int .i64 t251, .int .i64 0]) ?_ 3 _ rfl; (with_reducible repeat (first | refine blk_drewN ?_ _ | refine blk_drew ?_ | refine blk_alloc ?_ _)); refine blk_put (cs := #[.bool t249, .int .i64 t250, .int .i64 0, .int .i64 0]) ?_ 2 _ rfl; (with_reducible repeat (first | refine blk_drewN ?_ _ | refine blk_drew ?_ | refine blk_alloc ?_ _)); refine blk_put (cs := #[.bool t249, .int .i64 0, .int .i64 0, .int .i64 0]) ?_ 1 _ rfl; (with_reducible repeat (first | refine blk_drewN ?_ _ | refine blk_drew ?_ | refine blk_alloc ?_ _)); refine blk_put (cs := #[.bool false, .int .i64 0, .int .i64 0, .int .i64 0]) ?_ 0 _ rfl; (with_reducible repeat (first | refine blk_drewN ?_ _ | refine blk_drew ?_ | refine blk_alloc ?_ _)); exact BK254.out) hb); have n3_ := Aside0.mk (below_step tb hb); clear BK238; clear BK244; clear BK254; clear HB; have BK238 := n0_; have BK244 := n1_; have BK254 := n2_; have HB := n3_; clear n0_ n1_ n2_ n3_; (try clear hb); (try clear hb2); (try clear hk); (try clear hi); (try simp only [errW_none, errW_some])))
      go_ret
      exact ⟨by first | rfl | (simp [errW_none, errW_some] <;> rfl) | (simp [*, errW_none, errW_some] <;> rfl), tb⟩

end Go.Proofs.YtcjlekakgjbiiaaDoor.XA
-- shrunk
end
/- Family 24: what the printed functions of health come to; and the laws' pure proofs. -/
section
set_option linter.unusedVariables false
set_option linter.unusedSimpArgs false
namespace Go.Proofs.YtcjlekakgjbiiaaDoor.PlH
open Go.RowKit Go.Proofs.YtcjlekakgjbiiaaDoor Go.Proofs.YtcjlekakgjbiiaaDoor.Tg Go.Proofs.YtcjlekakgjbiiaaDoor.Gv Go.Proofs.YtcjlekakgjbiiaaDoor.XA Go.Proofs.YtcjlekakgjbiiaaDoorW.PrintWords Go.Proofs.YtcjlekakgjbiiaaDoorW.PrintMore

theorem w64 {i : Int} (h0 : -9223372036854775808 ≤ i) (h1 : i < 9223372036854775808) : wrap64 i = i := by unfold wrap64; omega
theorem Ev.one {α : Type} {g : Nat → Option α} {r : α} (h : ∀ k, g (k + 1) = some r) : Ev g r := ⟨1, fun n hn => by obtain ⟨m, rfl⟩ : ∃ m, n = m + 1 := ⟨n - 1, by omega⟩; exact h m⟩

theorem in_one (a l h : Int) : health_in.f a l h = some (decide (l ≤ a ∧ a ≤ h)) := by
  unfold health_in.f
  by_cases h1 : a ≥ l
  · rw [if_pos h1]; simp; omega
  · rw [if_neg h1]; simp; omega
theorem isPath_one (p : ByteArray) (e : Option Int) : ∃ t, health_isPath.f p e = some t := by
  unfold health_isPath.f pParse.f
  simp only [Option.bind_some]
  split
  · exact ⟨_, rfl⟩
  · split
    · split
      · exact ⟨_, rfl⟩
      · exact ⟨_, rfl⟩
    · exact ⟨_, rfl⟩
theorem normal_one (p : ByteArray) (hp : p.size ≤ 4294967280) : ∃ n, pNormal.f p = some n := by
  unfold pNormal.f; rw [if_pos hp]; exact ⟨_, rfl⟩
theorem valid_j (p : ByteArray) (a b c d : Int) (hp : p.size ≤ 4294967280) (x : Bool) : ∃ v : Option Int, (∀ k, health_Valid.j0 (k + 1) x p a b c d = some v) := by
  obtain ⟨n, hn⟩ := normal_one p hp
  obtain ⟨t, ht⟩ := isPath_one p n.2
  cases x with
  | false => exact ⟨some 4, fun k => by simp [health_Valid.j0, hn]⟩
  | true =>
    cases t with
    | false => exact ⟨some 4, fun k => by simp [health_Valid.j0, hn, ht]⟩
    | true => exact ⟨none, fun k => by simp [health_Valid.j0, hn, ht]⟩
theorem valid_no (p : ByteArray) (a b c d : Int) (hp : p.size ≤ 4294967280) (k : Nat) : health_Valid.j0 (k + 1) false p a b c d = some (some 4) := by
  obtain ⟨n, hn⟩ := normal_one p hp
  simp [health_Valid.j0, hn]
/-- what a rule's error is, and what its absence tells -/
def Fits (a b c d : Int) : Prop := 1 ≤ a ∧ a ≤ 1099511627776 ∧ 1 ≤ b ∧ b ≤ a ∧ 1 ≤ c ∧ c ≤ 1024 ∧ 1 ≤ d ∧ d ≤ 1024
theorem valid_one (p : ByteArray) (a b c d : Int) (hp : p.size ≤ 4294967280) : ∃ v : Option Int, (∀ k, health_Valid.f (k + 1) p a b c d = some v) ∧ (v = none → a = 0 ∨ Fits a b c d) := by
  by_cases ha : a = 0
  · exact ⟨none, fun k => by simp [health_Valid.f, ha], fun _ => .inl ha⟩
  · by_cases hF : Fits a b c d
    · obtain ⟨v, hv⟩ := valid_j p a b c d hp (decide ((p.size : Int) ≤ 1024))
      refine ⟨v, fun k => ?_, fun _ => .inr hF⟩
      obtain ⟨h1, h2, h3, h4, h5, h6, h7, h8⟩ := hF
      unfold health_Valid.f
      simp only [in_one, Option.bind_some, decide_eq_true_eq]
      rw [if_neg ha, if_pos ⟨h1, h2⟩, if_pos ⟨h3, h4⟩, if_pos ⟨h5, h6⟩, if_pos ⟨h7, h8⟩]
      exact hv k
    · refine ⟨some 4, fun k => ?_, fun h => by cases h⟩
      unfold health_Valid.f
      simp only [in_one, Option.bind_some, decide_eq_true_eq]
      rw [if_neg ha]
      by_cases g1 : 1 ≤ a ∧ a ≤ 1099511627776
      · rw [if_pos g1]
        by_cases g2 : 1 ≤ b ∧ b ≤ a
        · rw [if_pos g2]
          by_cases g3 : 1 ≤ c ∧ c ≤ 1024
          · rw [if_pos g3, if_neg (fun g4 => hF ⟨g1.1, g1.2, g2.1, g2.2, g3.1, g3.2, g4.1, g4.2⟩)]
            exact valid_no p a b c d hp k
          · rw [if_neg g3]; exact valid_no p a b c d hp k
        · rw [if_neg g2]; exact valid_no p a b c d hp k
      · rw [if_neg g1]; exact valid_no p a b c d hp k

/-- a rule that can be, and that asks for probes -/
structure Rule (p : ByteArray) (a b c d : Int) : Prop where
  v : ∀ k, health_Valid.f (k + 1) p a b c d = some none
  fits : Fits a b c d
/-- a state that can be under such a rule -/
def Ok (up : Bool) (run next sent c d : Int) : Prop := (0 ≤ run ∧ run ≤ (if up = true then d else c) - 1) ∧ (0 ≤ next ∧ next ≤ 2199023255552) ∧ (-1 ≤ sent ∧ sent ≤ 1099511627776)
theorem can_ok {up : Bool} {run next sent : Int} {p : ByteArray} {a b c d : Int} (hF : Fits a b c d) (h : Ok up run next sent c d) : health_State_can.f up run next sent p a b c d = some true := by
  obtain ⟨h1, h2, h3⟩ := h
  obtain ⟨g1, g2, g3, g4, g5, g6, g7, g8⟩ := hF
  unfold health_State_can.f
  rw [if_neg (by omega)]
  simp only [in_one, Option.bind_some, decide_eq_true_eq]
  rw [w64 (by omega) (by omega), w64 (by omega) (by omega)]
  cases up with
  | true => simp only [if_true] at h1; rw [if_pos rfl, if_pos h1, if_pos h2]; simp; omega
  | false => simp only [if_neg (show ¬ (false = true) by decide)] at h1; rw [if_neg (by decide), if_pos h1, if_pos h2]; simp; omega
theorem check_ok {up : Bool} {run next sent : Int} {p : ByteArray} {a b c d now : Int} (R : Rule p a b c d) (h : Ok up run next sent c d) (hn : 0 ≤ now ∧ now ≤ 1099511627776) (k : Nat) :
    health_check.f (k + 1) up run next sent p a b c d now = some none := by
  unfold health_check.f
  rw [R.v k]
  simp only [Option.bind_some, in_one, decide_eq_true_eq, can_ok R.fits h, Option.isNone_none, if_true]
  rw [if_pos hn]
theorem check_any (p : ByteArray) (a b c d now : Int) (hp : p.size ≤ 4294967280) (up : Bool) (run next sent : Int) : ∃ r : Option Int, (∀ k, health_check.f (k + 1) up run next sent p a b c d now = some r) ∧ (r = none → (a = 0 ∨ Rule p a b c d) ∧ 0 ≤ now ∧ now ≤ 1099511627776) := by
  obtain ⟨v, hv, hn⟩ := valid_one p a b c d hp
  have hc : ∃ t, health_State_can.f up run next sent p a b c d = some t := by
    unfold health_State_can.f
    simp only [in_one, Option.bind_some]
    split
    · exact ⟨_, rfl⟩
    · split <;> (split <;> (try split) <;> exact ⟨_, rfl⟩)
  obtain ⟨t, ht⟩ := hc
  cases v with
  | some e =>
    refine ⟨some e, fun k => ?_, fun h => by cases h⟩
    unfold health_check.f; rw [hv k]; rfl
  | none =>
    by_cases h1 : 0 ≤ now ∧ now ≤ 1099511627776
    · cases t with
      | true =>
        refine ⟨none, fun k => ?_, fun _ => ⟨?_, h1⟩⟩
        · unfold health_check.f; rw [hv k]; simp only [Option.bind_some, in_one, decide_eq_true_eq, ht, Option.isNone_none, if_true]; rw [if_pos h1]
        · rcases hn rfl with h | h
          · exact .inl h
          · exact .inr ⟨hv, h⟩
      | false =>
        refine ⟨some 1, fun k => ?_, fun h => by cases h⟩
        unfold health_check.f; rw [hv k]; simp only [Option.bind_some, in_one, decide_eq_true_eq, ht, Option.isNone_none, if_true]; rw [if_pos h1, if_neg (by decide)]
    · refine ⟨some 1, fun k => ?_, fun h => by cases h⟩
      unfold health_check.f; rw [hv k]; simp only [Option.bind_some, in_one, decide_eq_true_eq, Option.isNone_none, if_true]; rw [if_neg h1]

theorem new_any (p : ByteArray) (a b c d now : Int) (hp : p.size ≤ 4294967280) :
    (∃ e, ∀ k, health_New.f (k + 1) p a b c d now = some (false, 0, 0, 0, some e)) ∨ (a = 0 ∧ ∃ up run next sent, ∀ k, health_New.f (k + 1) p a b c d now = some (up, run, next, sent, none)) ∨ (Rule p a b c d ∧ (0 ≤ now ∧ now ≤ 1099511627776) ∧ ∀ k, health_New.f (k + 1) p a b c d now = some (true, 0, now, -1, none)) := by
  obtain ⟨r, hr, hn⟩ := check_any p a b c d now hp true 0 0 (-1)
  cases r with
  | some e => refine .inl ⟨e, fun k => ?_⟩; unfold health_New.f; rw [hr k]; rfl
  | none =>
    obtain ⟨h1, h2⟩ := hn rfl
    rcases h1 with h1 | h1
    · refine .inr (.inl ⟨h1, true, 0, 0, -1, fun k => ?_⟩)
      unfold health_New.f; rw [hr k]; simp only [Option.bind_some, Option.isNone_none, if_true]; rw [if_neg (by omega)]
    · refine .inr (.inr ⟨h1, h2, fun k => ?_⟩)
      have := h1.fits.1
      unfold health_New.f; rw [hr k]; simp only [Option.bind_some, Option.isNone_none, if_true]; rw [if_pos (by omega)]

theorem due_ok {up : Bool} {run next sent : Int} {p : ByteArray} {a b c d now : Int} (R : Rule p a b c d) (h : Ok up run next sent c d) (hn : 0 ≤ now ∧ now ≤ 1099511627776) :
    Ev (fun k => health_Due.f k up run next sent p a b c d now) (decide (sent < 0 ∧ now ≥ next), none) := by
  refine Ev.one fun k => ?_
  have := R.fits.1
  unfold health_Due.f
  rw [check_ok R h hn k]
  simp only [Option.bind_some, Option.isNone_none, if_true]
  rw [if_pos (by omega)]
  by_cases hs : sent < 0
  · rw [if_pos hs]; simp [hs]
  · rw [if_neg hs]; simp [hs]
theorem send_ok {up : Bool} {run next sent : Int} {p : ByteArray} {a b c d now : Int} (R : Rule p a b c d) (h : Ok up run next sent c d) (hn : 0 ≤ now ∧ now ≤ 1099511627776) :
    Ev (fun k => health_Send.f k up run next sent p a b c d now) (if sent < 0 ∧ now ≥ next then (up, run, now + a, now, none) else (false, 0, 0, 0, some 1)) := by
  obtain ⟨K, hK⟩ := due_ok R h hn
  refine ⟨K, fun k hk => ?_⟩
  have hk : health_Due.f k up run next sent p a b c d now = _ := hK k hk
  have := R.fits.1
  have := R.fits.2.1
  show health_Send.f k up run next sent p a b c d now = _
  unfold health_Send.f
  rw [hk]
  simp only [Option.bind_some, decide_eq_true_eq, Option.isNone_none, if_true]
  rw [w64 (by omega) (by omega)]
  split <;> rfl
theorem said_ok {up : Bool} {run next sent : Int} {p : ByteArray} {a b c d now : Int} (R : Rule p a b c d) (h : Ok up run next sent c d) (hn : 0 ≤ now ∧ now ≤ 1099511627776) (hs : 0 ≤ sent) (g : Bool) :
    Ev (fun k => health_Said.f k up run next sent p a b c d g now) (if g = up then (up, 0, next, -1, none) else if run + 1 = (if up = true then d else c) then (!up, 0, next, -1, none) else (up, run + 1, next, -1, none)) := by
  refine Ev.one fun k => ?_
  obtain ⟨g1, g2, g3, g4, g5, g6, g7, g8⟩ := R.fits
  have hr := h.1
  unfold health_Said.f
  rw [check_ok R h hn k]
  have hrr : run ≤ 1023 := by revert hr; split <;> omega
  simp only [Option.bind_some, Option.isNone_none, if_true]
  rw [if_neg (by omega), w64 (by omega) (by omega)]
  cases up <;> cases g <;> simp <;> split <;> rfl

theorem works_ev : Ev (fun k => turnstilelaw24_works.f k) true := Ev.of turnstilelaw24_works.mono (k := 12) (by decide +kernel)
theorem works_bind : Ev (fun k => (turnstilelaw24_works.f k).bind fun t => some t) true := Ev.bind works_ev (Ev.now _)

theorem t_bound (x m : Int) (h : 0 < m) (hm : m ≤ 1000) : 0 ≤ Int.tmod (wrap64 (Int.tmod x m + m)) m ∧ Int.tmod (wrap64 (Int.tmod x m + m)) m < m := by
  have h1 := Int.tmod_lt_of_pos x h
  have h2 := Int.lt_tmod_of_pos x h
  rw [w64 (by omega) (by omega), Int.tmod_eq_emod_of_nonneg (by omega)]
  exact ⟨Int.emod_nonneg _ (by omega), Int.emod_lt_of_pos _ h⟩
theorem late_ok {up : Bool} {run next sent : Int} {p : ByteArray} {a b c d now : Int} (R : Rule p a b c d) (h : Ok up run next sent c d) (hn : 0 ≤ now ∧ now ≤ 1099511627776) :
    Ev (fun k => health_Late.f k up run next sent p a b c d now) (decide (sent ≥ 0 ∧ now ≥ sent + b), none) := by
  refine Ev.one fun k => ?_
  obtain ⟨g1, g2, g3, g4, g5, g6, g7, g8⟩ := R.fits
  obtain ⟨h1, h2, h3⟩ := h
  unfold health_Late.f
  rw [check_ok R ⟨h1, h2, h3⟩ hn k]
  simp only [Option.bind_some, Option.isNone_none, if_true]
  rw [w64 (by omega) (by omega)]
  by_cases hs : sent ≥ 0
  · rw [if_pos hs]; simp [hs]
  · rw [if_neg hs]; simp [hs]

theorem late_on (p : ByteArray) (a b c d now x : Int) (s : Bool × Int × Int × Int) : Ev (fun k => turnstilelaw24_HealthLate.j0 k now x true p a b c d s.1 s.2.1 s.2.2.1 s.2.2.2) true :=
  Ev.step (f := fun k => (turnstilelaw24_works.f k).bind fun t => some t) (fun k => by simp only [turnstilelaw24_HealthLate.j0]; rw [if_pos (by first | trivial | rfl)]) works_bind
theorem late_pure (p : ByteArray) (a b c d now x : Int) (hp : p.size ≤ 4294967280) : ∃ k, turnstilelaw24_HealthLate.f k p a b c d now x = some true := by
  refine Ev.rounds (g := fun k => turnstilelaw24_HealthLate.f k p a b c d now x) ?_
  unfold turnstilelaw24_HealthLate.f
  rcases new_any p a b c d now hp with ⟨e, h⟩ | ⟨ha, up, run, next, sent, h⟩ | ⟨R, hn, h⟩
  · refine Ev.bind (Ev.one h) ?_
    dsimp only
    exact late_on p a b c d now x (false, 0, 0, 0)
  · refine Ev.bind (Ev.one h) ?_
    dsimp only
    simp only [Option.isNone_none, if_true, if_pos ha]
    exact late_on p a b c d now x (up, run, next, sent)
  · have g := R.fits
    refine Ev.bind (Ev.one h) ?_
    dsimp only
    simp only [Option.isNone_none, if_true, if_neg (show ¬ a = 0 by have := g.1; omega)]
    by_cases h1 : now > 549755813888
    · simp only [if_pos h1]
      exact late_on p a b c d now x (true, 0, now, -1)
    · simp only [if_neg h1]
      by_cases h2 : a > 1073741824
      · rw [decide_eq_true h2]
        exact late_on p a b c d now x (true, 0, now, -1)
      · rw [decide_eq_false h2]
        obtain ⟨t0, t1⟩ := t_bound x 100 (by omega) (by omega)
        obtain ⟨g1, g2, g3, g4, g5, g6, g7, g8⟩ := g
        refine Ev.step (fun k => by rw [turnstilelaw24_HealthLate.j0]) ?_
        simp only [if_neg (show ¬ (false = true) by decide)]
        generalize Int.tmod (wrap64 (Int.tmod x 100 + 100)) 100 = t at *
        rw [w64 (i := now + t) (by omega) (by omega)]
        have hO : Ok true 0 now (-1) c d := ⟨⟨by omega, by rw [if_pos rfl]; omega⟩, ⟨by omega, by omega⟩, ⟨by omega, by omega⟩⟩
        have hO2 : Ok true 0 (now + a) now c d := ⟨⟨by omega, by rw [if_pos rfl]; omega⟩, ⟨by omega, by omega⟩, ⟨by omega, by omega⟩⟩
        have L1 := late_ok (b := b) R hO hn
        rw [decide_eq_false (by omega)] at L1
        have S1 := send_ok R hO hn
        rw [if_pos (by omega)] at S1
        have L2 := late_ok R hO2 (now := now + t) (by omega)
        refine Ev.bind L1 ?_
        refine Ev.bind S1 ?_
        refine Ev.bind L2 ?_
        dsimp only
        have e : decide (now ≥ 0 ∧ now + t ≥ now + b) = decide (t ≥ b) := by
          apply decide_eq_decide.2
          omega
        rw [e]
        simp only [if_neg (show ¬ (false = true) by decide), Option.isNone_none, if_true, beq_self_eq_true]
        exact works_bind
end Go.Proofs.YtcjlekakgjbiiaaDoor.PlH
end
/- Family 24: the pure proof of HealthRuns. -/
section
set_option linter.unusedVariables false
set_option linter.unusedSimpArgs false
namespace Go.Proofs.YtcjlekakgjbiiaaDoor.PlH
open Go.RowKit Go.Proofs.YtcjlekakgjbiiaaDoor Go.Proofs.YtcjlekakgjbiiaaDoor.Tg Go.Proofs.YtcjlekakgjbiiaaDoor.Gv Go.Proofs.YtcjlekakgjbiiaaDoor.XA Go.Proofs.YtcjlekakgjbiiaaDoorW.PrintWords Go.Proofs.YtcjlekakgjbiiaaDoorW.PrintMore

structure Inv (a c d : Int) (i : Nat) (up : Bool) (row last now next : Int) : Prop where
  r : 0 ≤ row ∧ row ≤ (if up = true then d else c) - 1
  x : 0 ≤ next ∧ next ≤ i * 1048584
  n : 0 ≤ now ∧ now ≤ i * 1048584
  l : -1 ≤ last ∧ last ≤ i * 1048584
  f : 0 ≤ last → last + a ≤ next
theorem mx_ge (a b : Int) : a ≤ mx a b ∧ b ≤ mx a b ∧ (mx a b = a ∨ mx a b = b) := by unfold mx; split <;> omega

section
variable {p : ByteArray} {a b c d : Int} {S : List Bool} {W : List Int}
theorem j6_no (up : Bool) (row t nx : Int) (i : Nat) (hi : i < 200) (h : Ev (fun k => turnstilelaw24_HealthRuns.l0 k S W up row t t ((i + 1 : Nat) : Int) p a b c d up row nx (-1)) true) :
    Ev (fun k => turnstilelaw24_HealthRuns.j6 k S W up row t t (i : Int) false p a b c d up row nx (-1)) true := by
  refine Ev.step (fun k => ?_) h
  simp only [turnstilelaw24_HealthRuns.j6]
  rw [if_neg (by decide), if_neg (by simp), w64 (by omega) (by omega)]
  rfl
theorem j6_yes (up : Bool) (row t nx : Int) (i : Nat) (hi : i < 200) (h : Ev (fun k => turnstilelaw24_HealthRuns.l0 k S W (!up) 0 t t ((i + 1 : Nat) : Int) p a b c d (!up) 0 nx (-1)) true) :
    Ev (fun k => turnstilelaw24_HealthRuns.j6 k S W up row t t (i : Int) true p a b c d (!up) 0 nx (-1)) true := by
  refine Ev.step (fun k => ?_) h
  simp only [turnstilelaw24_HealthRuns.j6]
  rw [if_pos (by first | trivial | rfl), if_neg (by simp), w64 (by omega) (by omega)]
  rfl
theorem j5_no (up : Bool) (row t nx : Int) (i : Nat) (hi : i < 200) (hr : row ≠ (if up = true then d else c)) (h : Ev (fun k => turnstilelaw24_HealthRuns.l0 k S W up row t t ((i + 1 : Nat) : Int) p a b c d up row nx (-1)) true) :
    Ev (fun k => turnstilelaw24_HealthRuns.j5 k S W up row t t (i : Int) p a b c d up row nx (-1)) true := by
  refine Ev.step (fun k => ?_) (j6_no up row t nx i hi h)
  simp only [turnstilelaw24_HealthRuns.j5]
  cases up with
  | true => simp at hr; simp [hr]
  | false => simp at hr; simp [show (row == c) = false by simpa using hr]
theorem j5_yes (up : Bool) (row t nx : Int) (i : Nat) (hi : i < 200) (hr : row = (if up = true then d else c)) (h : Ev (fun k => turnstilelaw24_HealthRuns.l0 k S W (!up) 0 t t ((i + 1 : Nat) : Int) p a b c d (!up) 0 nx (-1)) true) :
    Ev (fun k => turnstilelaw24_HealthRuns.j5 k S W up row t t (i : Int) p a b c d (!up) 0 nx (-1)) true := by
  refine Ev.step (fun k => ?_) (j6_yes up row t nx i hi h)
  simp only [turnstilelaw24_HealthRuns.j5]
  cases up with
  | true => simp at hr; simp [hr]
  | false => simp at hr; simp [hr]
theorem runs_loop (R : Rule p a b c d) (ha : a ≤ 1048576) : ∀ (n i : Nat), 200 - i = n → i ≤ 200 → ∀ (up : Bool) (row last now next : Int), Inv a c d i up row last now next →
    Ev (fun k => turnstilelaw24_HealthRuns.l0 k S W up row last now (i : Int) p a b c d up row next (-1)) true := by
  intro n
  induction n with
  | zero =>
    intro i hn hi up row last now next I
    obtain rfl : i = 200 := by omega
    have hj : ∀ f : Bool, f = false → Ev (fun k => turnstilelaw24_HealthRuns.j2 k S W up row last now ((200 : Nat) : Int) f p a b c d up row next (-1)) true := fun f hf =>
      Ev.step (f := fun k => (turnstilelaw24_works.f k).bind fun t => some t) (fun k => by simp only [turnstilelaw24_HealthRuns.j2, hf]; rw [if_neg (by decide)]) works_bind
    by_cases h : ((200 : Nat) : Int) < (S.length : Int)
    · refine Ev.step (fun k => ?_) (hj (decide (((200 : Nat) : Int) < 200)) (by decide))
      simp only [turnstilelaw24_HealthRuns.l0]
      rw [if_pos h]
    · refine Ev.step (fun k => ?_) (hj false rfl)
      simp only [turnstilelaw24_HealthRuns.l0]
      rw [if_neg h]
  | succ n ih =>
    intro i hn hi up row last now next I
    have hi2 : i < 200 := by omega
    by_cases h : (i : Int) < (S.length : Int)
    · refine Ev.step (f := fun k => turnstilelaw24_HealthRuns.j2 k S W up row last now (i : Int) true p a b c d up row next (-1)) (fun k => ?_) ?_
      · simp only [turnstilelaw24_HealthRuns.l0]
        rw [if_pos h, decide_eq_true (by omega)]
      obtain ⟨wt, hw0, hw1, hwe⟩ : ∃ wt : Int, 0 ≤ wt ∧ wt ≤ 8 ∧ ∀ k, turnstilelaw24_HealthRuns.j2 (k + 1) S W up row last now (i : Int) true p a b c d up row next (-1) = turnstilelaw24_HealthRuns.j3 k S W up row last now (i : Int) wt p a b c d up row next (-1) := by
        by_cases h2 : (i : Int) < (W.length : Int)
        · obtain ⟨t0, t1⟩ := t_bound (rd W i) 9 (by omega) (by omega)
          refine ⟨_, t0, by omega, fun k => ?_⟩
          simp only [turnstilelaw24_HealthRuns.j2]
          rw [if_pos (by first | trivial | rfl), if_pos h2, if_pos (by omega)]
        · refine ⟨0, by omega, by omega, fun k => ?_⟩
          simp only [turnstilelaw24_HealthRuns.j2]
          rw [if_pos (by first | trivial | rfl), if_neg h2]
      refine Ev.step hwe ?_
      obtain ⟨g1, g2, g3, g4, g5, g6, g7, g8⟩ := R.fits
      obtain ⟨ir, ix, inn, il, ifl⟩ := I
      obtain ⟨m1, m2, m3⟩ := mx_ge now next
      have hw : wrap64 (mx now next + wt) = mx now next + wt := w64 (by omega) (by omega)
      refine Ev.step (fun k => by rw [turnstilelaw24_HealthRuns.j3]) ?_
      simp only [hw]
      obtain ⟨t, ht⟩ : ∃ t, t = mx now next + wt := ⟨_, rfl⟩
      simp only [← ht]
      have b1 : now ≤ t := by omega
      have b2 : next ≤ t := by omega
      have b3 : t ≤ i * 1048584 + 8 := by omega
      clear hw m1 m2 m3 ht hwe
      have ht : 0 ≤ t ∧ t ≤ 1099511627776 := by omega
      have hO : Ok up row next (-1) c d := ⟨ir, ⟨by omega, by omega⟩, ⟨by omega, by omega⟩⟩
      have hO2 : Ok up row (t + a) t c d := ⟨ir, ⟨by omega, by omega⟩, ⟨by omega, by omega⟩⟩
      have D1 := due_ok R hO ht
      rw [decide_eq_true (by omega)] at D1
      have S1 := send_ok R hO ht
      rw [if_pos (by omega)] at S1
      have D2 := due_ok R hO2 ht
      rw [decide_eq_false (by omega)] at D2
      have S2 := send_ok R hO2 ht
      rw [if_neg (by omega)] at S2
      refine Ev.bind D1 ?_
      refine Ev.bind S1 ?_
      refine Ev.bind D2 ?_
      refine Ev.bind S2 ?_
      have hnum : turnstilelaw24_num.f (some 1) = some 1 := rfl
      dsimp only
      simp only [if_neg (show ¬ (false = true) by decide), Option.isNone_none, if_true, hnum, Option.bind_some, bne_self_eq_false]
      have hlast : last ≥ 0 → ¬ wrap64 (t - last) < a := fun hl => by
        have := ifl hl
        rw [w64 (by omega) (by omega)]; omega
      have goal : Ev (fun k => turnstilelaw24_HealthRuns.j4 k S W up row t (i : Int) false p a b c d up row (t + a) t) true := by
        refine Ev.step (fun k => by rw [turnstilelaw24_HealthRuns.j4]) ?_
        simp only [if_neg (show ¬ (false = true) by decide), if_pos (show (0 : Int) ≤ i by omega), if_pos h]
        have hs := said_ok R hO2 ht (by omega) (rdOf false S i)
        generalize rdOf false S (i : Int) = g at *
        refine Ev.bind hs ?_
        by_cases hg : g = up
        · subst hg
          simp only [if_true, Option.isNone_none, beq_self_eq_true]
          refine j5_no g 0 t (t + a) i hi2 (by split <;> omega) (ih (i + 1) (by omega) (by omega) g 0 t t (t + a) ⟨⟨by omega, by split <;> omega⟩, ⟨by omega, by omega⟩, ⟨by omega, by omega⟩, ⟨by omega, by omega⟩, fun _ => by omega⟩)
        · have hr3 : row ≤ 1023 := by
            have := ir.2
            revert this; split <;> omega
          simp only [if_neg hg, show (g == up) = false by simpa using hg, if_neg (show ¬ (false = true) by decide), w64 (i := row + 1) (by omega) (by omega)]
          by_cases he : row + 1 = (if up = true then d else c)
          · simp only [if_pos he, Option.isNone_none, if_true]
            refine j5_yes up (row + 1) t (t + a) i hi2 he (ih (i + 1) (by omega) (by omega) (!up) 0 t t (t + a) ⟨⟨by omega, by split <;> omega⟩, ⟨by omega, by omega⟩, ⟨by omega, by omega⟩, ⟨by omega, by omega⟩, fun _ => by omega⟩)
          · simp only [if_neg he, Option.isNone_none, if_true]
            refine j5_no up (row + 1) t (t + a) i hi2 he (ih (i + 1) (by omega) (by omega) up (row + 1) t t (t + a) ⟨⟨by omega, by omega⟩, ⟨by omega, by omega⟩, ⟨by omega, by omega⟩, ⟨by omega, by omega⟩, fun _ => by omega⟩)
      by_cases hl : last ≥ 0
      · simp only [if_pos hl, if_neg (hlast hl)]
        exact goal
      · simp only [if_neg hl]
        exact goal
    · have hj : Ev (fun k => turnstilelaw24_HealthRuns.j2 k S W up row last now (i : Int) false p a b c d up row next (-1)) true :=
        Ev.step (f := fun k => (turnstilelaw24_works.f k).bind fun t => some t) (fun k => by simp only [turnstilelaw24_HealthRuns.j2]; rw [if_neg (by decide)]) works_bind
      refine Ev.step (fun k => ?_) hj
      simp only [turnstilelaw24_HealthRuns.l0]
      rw [if_neg h]
end
theorem runs_pure (p : ByteArray) (a b c d : Int) (S : List Bool) (W : List Int) (hp : p.size ≤ 4294967280) : ∃ k, turnstilelaw24_HealthRuns.f k p a b c d S W = some true := by
  refine Ev.rounds (g := fun k => turnstilelaw24_HealthRuns.f k p a b c d S W) ?_
  unfold turnstilelaw24_HealthRuns.f
  have hw : ∀ (s : Bool × Int × Int × Int), Ev (fun k => turnstilelaw24_HealthRuns.j0 k S W none true p a b c d s.1 s.2.1 s.2.2.1 s.2.2.2) true := fun s =>
    Ev.step (f := fun k => (turnstilelaw24_works.f k).bind fun t => some t) (fun k => by simp only [turnstilelaw24_HealthRuns.j0]; rw [if_pos (by first | trivial | rfl), if_pos (by first | trivial | rfl)]) works_bind
  rcases new_any p a b c d 0 hp with ⟨e, h⟩ | ⟨ha, up, run, next, sent, h⟩ | ⟨R, hn, h⟩
  · refine Ev.bind (Ev.one h) ?_
    dsimp only
    refine Ev.step (f := fun k => (turnstilelaw24_works.f k).bind fun t => some t) (fun k => ?_) works_bind
    simp only [Option.isNone_some, if_neg (show ¬ (false = true) by decide), turnstilelaw24_HealthRuns.j0]
    rw [if_pos (by first | trivial | rfl), if_pos (by decide)]
  · refine Ev.bind (Ev.one h) ?_
    dsimp only
    simp only [Option.isNone_none, if_true, if_pos ha]
    exact hw (up, run, next, sent)
  · have g := R.fits
    refine Ev.bind (Ev.one h) ?_
    dsimp only
    simp only [Option.isNone_none, if_true, if_neg (show ¬ a = 0 by have := g.1; omega)]
    by_cases h2 : a > 1048576
    · rw [decide_eq_true h2]
      exact hw (true, 0, 0, -1)
    · rw [decide_eq_false h2]
      obtain ⟨g1, g2, g3, g4, g5, g6, g7, g8⟩ := g
      refine Ev.step (fun k => ?_) (runs_loop (S := S) (W := W) R (by omega) 200 0 rfl (by omega) true 0 (-1) 0 0 ⟨⟨by omega, by rw [if_pos rfl]; omega⟩, ⟨by omega, by omega⟩, ⟨by omega, by omega⟩, ⟨by omega, by omega⟩, fun h => by omega⟩)
      simp only [turnstilelaw24_HealthRuns.j0]
      rw [if_neg (by decide)]
      rfl
end Go.Proofs.YtcjlekakgjbiiaaDoor.PlH
end
/- What the rows of this family share: the world of the witness, the facts that the listed variables and the world's shape give. -/
section
set_option linter.unusedVariables false
namespace Go.Proofs.YtcjlekakgjbiiaaDoor
open Go.RowKit Go.ChangeShapes Go.WideShapes Go.ChangeAt Tg

theorem own : ownKnob Tryd.prog.godebug = none := by kernel_rfl

theorem witness_row_shaped {H : Type} {enc : TypeId × Value → H} {C : Checked} {os : Os} {f : FuncId} {fn : Func} {s : OpenSpec} {conds : List PathCond} {apart : Bool} {laid : List (String × DataW Unit)} (w0 : World) (args : Array Value) (hos : w0.os = os)
    (hsh : (w0.forCall (fun _ _ => 0) ⟨#[], args, []⟩).Shaped C.prog)
    (hok : Input.okWideB C.prog (w0.forCall (fun _ _ => 0) ⟨#[], args, []⟩) f ⟨#[], args, []⟩ = true)
    (hrow : s.preRow enc C.prog fn conds apart laid (w0.forCall (fun _ _ => 0) ⟨#[], args, []⟩).memory args) :
    ∃ (w : World) (tape : Tape) (i : Input), w.os = os ∧ (w.forCall tape i).Shaped C.prog ∧ i.vars = [] ∧ Input.okWide C.prog (w.forCall tape i) .any w.heap.size f i ∧
      s.preRow enc C.prog fn conds apart laid (w.forCall tape i).memory i.args ∧ ({} : Assume).holds C.prog (lone (Frame.enter C.prog f i.args .normal) [] (w.forCall tape i)) :=
  ⟨w0, fun _ _ => 0, ⟨#[], args, []⟩, hos, hsh, (Input.okWide_of_okWideB (base := 0) hok).1, (Input.okWide_of_okWideB hok).2, hrow, by
    simp only [Assume.holds]
    exact ⟨by simp, by simp, fun _ => Modest.zero, by simp, by simp⟩⟩

/-- the six tables that every row of this family lists -/
def tables : List (String × DataW Unit) := [("math/bits.deBruijn32tab", Rows.laid_math_bits_deBruijn32tab), ("math/bits.deBruijn64tab", Rows.laid_math_bits_deBruijn64tab), ("internal/strconv.uint64pow10", Rows.laid_internal_strconv_uint64pow10), ("unicode/utf8.acceptRanges", Rows.laid_unicode_utf8_acceptRanges), ("unicode.CaseRanges", Rows.laid_unicode_CaseRanges), ("unicode/utf8.first", Rows.laid_unicode_utf8_first)]
noncomputable def start (os : Os) : World := World.laidAll Tryd.prog os tables
theorem start_shaped (os : Os) (args : Array Value) : ((start os).forCall (fun _ _ => 0) ⟨#[], args, []⟩).Shaped Tryd.prog := World.shaped_of_ZipB (by kernel_rfl) (by kernel_rfl)
theorem start_laid (os : Os) (args : Array Value) : laidMet Tryd.prog tables ((start os).forCall (fun _ _ => 0) ⟨#[], args, []⟩).memory := laidMet_laidAll _ (by kernel_rfl) (by kernel_rfl)

theorem rdy_of {W : World} (h : W.ShapedOpen Tryd.prog) (hL : laidMet Tryd.prog tables W) : Rdy W where
  out := by
    obtain ⟨m, hm⟩ := Tryd.laysM143.s1_3 W h
    exact ⟨m, hm⟩
  cas := caseVar_of_reads (ρ := Tryd.lays262_ren) { Tryd.lays262 with } (by kernel_rfl) ⟨by kernel_rfl, by kernel_rfl, by kernel_rfl, by kernel_rfl, by kernel_rfl, by kernel_rfl⟩ (by
    rw [← Pinned.caseRanges_eq]; exact Lib.laidMet.reads hL (.tail _ (.tail _ (.tail _ (.tail _ (.head _))))))
  utf := utf8Tabs_of_reads (ρ := Tryd.lays260_ren) Tryd.lays260 ⟨by kernel_rfl, by kernel_rfl, by kernel_rfl, by kernel_rfl, by kernel_rfl, by kernel_rfl, by kernel_rfl⟩ (by
    rw [← Pinned.utf8First_eq]; exact Lib.laidMet.reads hL (.tail _ (.tail _ (.tail _ (.tail _ (.tail _ (.head _))))))) (by
    have e : (Rows.laid_unicode_utf8_acceptRanges : DataW Unit) = Lib.acceptData := by kernel_rfl
    rw [← e]; exact Lib.laidMet.reads hL (.tail _ (.tail _ (.tail _ (.head _)))))

/-- a table of whole numbers, as the contracts ask for it -/
theorem tabIs_of_reads {P : Program} {W : World} {name : String} {k : IntKind} {zs : List Int} {g : Nat} {t e : TypeId} {n : Nat}
    (hg : P.globalNamed name = some g) (hty : (P.globals[g]?).map (·.type) = some t) (ht : P.underlying t = some (.array n e)) (he : P.underlying e = some (.int k)) (hce : P.cellsOf e = 1) (hct : P.cellsOf t = n)
    (h : Lib.VarReads P W name (Lib.tabData k zs)) : Lib.TabIs P W name k zs := by
  obtain ⟨g', t', cs, fuel, p, hg', ht', hvar, hd⟩ := h
  obtain rfl := Option.some.inj (hg.symm.trans hg')
  obtain rfl := Option.some.inj (hty.symm.trans ht')
  unfold Lib.TabIs
  rw [hvar, ← Lib.cells_of_tab ht he hce hct hd]
theorem ginv_of {W : World} (h : W.ShapedOpen Tryd.prog) (hL : laidMet Tryd.prog tables W) : Gv.GInv W where
  rdy := rdy_of h hL
  ten := by
    refine tabIs_of_reads (g := 0) (t := 103) (e := 85) (n := 20) (by kernel_rfl) (by kernel_rfl) (by kernel_rfl) (by kernel_rfl) (by kernel_rfl) (by kernel_rfl) ?_
    have e : (Rows.laid_internal_strconv_uint64pow10 : DataW Unit) = Lib.tabData .u64 Lib.pow10Tab := by kernel_rfl
    rw [← e]; exact Lib.laidMet.reads hL (.tail _ (.tail _ (.head _)))
theorem bound {H : Type} {l : List (DataW H)} (hk : Rows.uptoSmall H l = true) : Rows.uptoBulkAll l ≤ 1048576 := by
  simpa [Rows.uptoSmall] using hk
end Go.Proofs.YtcjlekakgjbiiaaDoor
end
section
set_option linter.unusedVariables false
namespace Go.Proofs.YtcjlekakgjbiiaaDoor.healthRuns
open Go.RowKit Go.ChangeShapes Go.WideShapes Go.ChangeAt Tg
open Go.ChangeMaps (open_string shut_string)

theorem walk (s : ByteArray) (a b c d : Int) (A1 : Option Addr) (c1 : Nat) (l1 : List Bool) (A2 : Option Addr) (c2 : Nat) (l2 : List Int) (w : World) (hs : s.size ≤ 1048576) (hr : Gv.GInv w)
    (hr1 : Go.Proofs.YtcjlekakgjbiiaaDoorW.PrintWords.Kd.C Go.Proofs.YtcjlekakgjbiiaaDoorW.PrintWords.Kd.bool w A1 l1.length l1) (hc1 : l1.length ≤ c1) (hr2 : Go.Proofs.YtcjlekakgjbiiaaDoorW.PrintWords.Kd.C (Go.Proofs.YtcjlekakgjbiiaaDoorW.PrintWords.Kd.int .i64) w A2 l2.length l2) (hc2 : l2.length ≤ c2) :
    Calls Tryd.prog 3 #[.agg #[.string s, .int .i64 a, .int .i64 b, .int .i64 c, .int .i64 d], .slice A1 l1.length c1, .slice A2 l2.length c2] w fun e w' => e = .returned (.bool true) ∧ Below w.heap.size w w' := by
  obtain ⟨k, hk⟩ := PlH.runs_pure s a b c d l1 l2 (by omega)
  exact (XA.turnstilelaw24_HealthRuns.calls k s a b c d A1 c1 l1 A2 c2 l2 true w ⟨hr⟩ hr1 hc1 hr2 hc2 hk).mono fun _ _ h => h
section
open Go.Proofs.YtcjlekakgjbiiaaDoorW.PrintWords
theorem bools_of {W : World} {A : Option Addr} {len cap : Nat} (h : (A = none ∧ len = 0 ∧ cap = 0) ∨ ∃ (x : Addr) (B : Nat → Bool), A = some x ∧ len ≤ cap ∧ cap ≤ maxLen ∧ ∀ i, i < cap → W.cell? (x.add i) = some (.bool (B i))) :
    ∃ l : List Bool, len = l.length ∧ l.length ≤ cap ∧ Kd.C Kd.bool W A l.length l := by
  rcases h with ⟨rfl, rfl, rfl⟩ | ⟨x, B, rfl, hl, hm, hc⟩
  · exact ⟨[], rfl, Nat.le_refl _, Kd.C_of_reads (d := false) (h1 := fun _ => rfl) ⟨rfl, by simp, fun h => absurd h (by simp)⟩⟩
  · refine ⟨(List.range len).map B, by simp, by simpa using hl, Kd.C_of_reads (d := false) (h1 := fun _ => rfl) ⟨rfl, ?_, fun _ => ⟨x, rfl, fun j hj => ?_⟩⟩⟩
    · simp only [List.length_map, List.length_range]
      unfold maxLen at hm
      omega
    · simp only [List.length_map, List.length_range] at hj
      rw [hc j (by omega)]
      simp [List.getD_eq_getElem?_getD, hj]
end
theorem ints_of {H : Type} {enc : TypeId × Value → H} {W : World} {base : Nat} {held : Bool} {A : Option Addr} {len cap : Nat} {d : DataW H} {p : List MemPlace} (h : DataW.Trod enc Tryd.prog W base (fun _ => true) held 25 (.slice A len cap) d p) :
    ∃ zs : List Int, (A = none ∧ len = 0 ∧ cap = 0 ∧ zs = []) ∨ ∃ x, A = some x ∧ len ≤ cap ∧ cap ≤ maxLen ∧ zs.length = cap ∧ (∀ i, i < zs.length → W.cell? (x.add i) = some (.int .i64 (zs.getD i 0))) ∧ ∀ n ∈ zs, (Lit.int .i64 n).wf = true := by
  obtain ⟨fuel, hf⟩ := h
  rcases open_ints Tryd.underlying25 Tryd.underlying3 (by kernel_rfl) hf with ⟨hcs, _⟩ | ⟨x, l, c, zs, hcs, _, hl, hm, hz, _, hcell, hwz⟩
  · simp [Value.cells] at hcs
    obtain ⟨rfl, rfl, rfl⟩ := hcs
    exact ⟨[], .inl ⟨rfl, rfl, rfl, rfl⟩⟩
  · simp [Value.cells] at hcs
    obtain ⟨rfl, rfl, rfl⟩ := hcs
    exact ⟨zs, .inr ⟨_, rfl, hl, hm, by simpa using hz, hcell, hwz⟩⟩

theorem laidOut : laidOutB Tryd.prog = true := by kernel_rfl
section
open Go.Joins Go.Deep
variable {H : Type} {enc : TypeId × Value → H} {P : Program} {w : World} {base : Nat} {spare : Nat → Bool} {held : Bool}
theorem open_agg5 {r : Reach} {b0 : Nat} {t : TypeId} {f0 f1 f2 f3 f4 : Field} {v : Value} {d : DataW H} {p : List MemPlace} (hs : P.underlying t = some (.struct #[f0, f1, f2, f3, f4])) (hone : oneCellFields P #[f0, f1, f2, f3, f4] = true) (hC : P.cellsOf t = 5)
    (hv : Value.okWide P w r b0 t v) (h : DataW.Trod enc P w base spare held t v d p) :
    ∃ (v0 v1 v2 v3 v4 : Value) (y0 y1 y2 y3 y4 : DataW H × List MemPlace) (n : Nat), v = .agg #[v0, v1, v2, v3, v4] ∧ d = .agg [y0.1, y1.1, y2.1, y3.1, y4.1] ∧ p = y0.2 ++ (y1.2 ++ (y2.2 ++ (y3.2 ++ y4.2))) ∧
      DataW.trod enc P w base spare held n f0.type [v0] = some y0 ∧ DataW.trod enc P w base spare held n f1.type [v1] = some y1 ∧ DataW.trod enc P w base spare held n f2.type [v2] = some y2 ∧ DataW.trod enc P w base spare held n f3.type [v3] = some y3 ∧ DataW.trod enc P w base spare held n f4.type [v4] = some y4 := by
  obtain ⟨cs, rfl, hsz⟩ := okWide_struct hs hv
  obtain ⟨l⟩ := cs
  match l, hsz.trans hC with
  | [c0, c1, c2, c3, c4], _ =>
    obtain ⟨fuel, hf⟩ := h
    obtain ⟨xs, n, _, hx, _, hlen, hg⟩ := DataW.trod_struct hs hf
    obtain ⟨o0, k0⟩ := hone_of hone 0 f0 rfl
    obtain ⟨o1, k1⟩ := hone_of hone 1 f1 rfl
    obtain ⟨o2, k2⟩ := hone_of hone 2 f2 rfl
    obtain ⟨o3, k3⟩ := hone_of hone 3 f3 rfl
    obtain ⟨o4, k4⟩ := hone_of hone 4 f4 rfl
    match xs, hlen with
    | [y0, y1, y2, y3, y4], _ =>
      simp only [Prod.mk.injEq] at hx
      exact ⟨c0, c1, c2, c3, c4, y0, y1, y2, y3, y4, n, rfl, by simpa using hx.1, by simpa using hx.2, by simpa [Value.cells, o0, k0] using hg 0 f0 rfl, by simpa [Value.cells, o1, k1] using hg 1 f1 rfl, by simpa [Value.cells, o2, k2] using hg 2 f2 rfl, by simpa [Value.cells, o3, k3] using hg 3 f3 rfl, by simpa [Value.cells, o4, k4] using hg 4 f4 rfl⟩
end


set_option maxRecDepth 100000 in
theorem contract (H : Type) (enc : TypeId × Value → H) (W : World) (base : Nat) (args : Array Value) (ds gs : List (DataW H)) (before : List MemPlace)
    (hval : ∀ (j : Nat) t v, Tryd.f3.params[j]? = some t → args[j]? = some v → Value.okWide Tryd.prog W .any base t v)
    (hW : DataW.Whole enc Tryd.prog Tryd.f3.params.toList Rows.healthRunsSpec.vars false W args.toList ds gs before) (hk : Rows.uptoSmall H (ds ++ gs) = true) (hL : laidMet Tryd.prog tables W) (hsh : W.ShapedOpen Tryd.prog) :
    Calls Tryd.prog 3 args W fun e W' => ∃ v, e = .returned v ∧ Rows.healthRunsSpec.post enc Tryd.prog Tryd.f3 false true false false W args v W' := by
  have hW' := hW
  obtain ⟨p, q, hA0, hV, rfl, hfz, hnd⟩ := hW
  have hA : DataW.TrodAll enc Tryd.prog W 0 (fun _ => true) true Tryd.f3.params.toList args.toList ds p := hA0
  rw [Tryd.params3] at hA hval
  obtain ⟨v0, vs0, d0, ds0, p0, q0, hargs, rfl, rfl, h0, r0⟩ := trodAll_cons hA
  obtain ⟨v1, vs1, d1, ds1, p1, q1, rfl, rfl, rfl, h1, r1⟩ := trodAll_cons r0
  obtain ⟨v2, vs2, d2, ds2, p2, q2, rfl, rfl, rfl, h2, r2⟩ := trodAll_cons r1
  obtain ⟨rfl, rfl, rfl⟩ := trodAll_nil r2
  obtain rfl : args = #[v0, v1, v2] := by cases args; simp_all
  obtain ⟨rfl, rfl⟩ := trodVars_none hV
  have lt0 : ∀ x ∈ p0, x.block < W.heap.size := by obtain ⟨m, hm⟩ := h0; exact DataW.trod_lt m _ _ _ hm
  have hk0 := h0
  obtain ⟨c0, c1, c2, c3, c4, y0, y1, y2, y3, y4, n, rfl, rfl, rfl, g0, g1, g2, g3, g4⟩ := open_agg5 Tryd.underlying23 (by kernel_rfl) (by kernel_rfl) (hval 0 23 v0 rfl rfl) h0
  obtain ⟨s0, e0, rfl, _⟩ := DataW.trod_string Tryd.underlying9 g0
  obtain ⟨i1, e1, rfl, _⟩ := DataW.trod_int Tryd.underlying3 g1
  obtain ⟨i2, e2, rfl, _⟩ := DataW.trod_int Tryd.underlying3 g2
  obtain ⟨i3, e3, rfl, _⟩ := DataW.trod_int Tryd.underlying3 g3
  obtain ⟨i4, e4, rfl, _⟩ := DataW.trod_int Tryd.underlying3 g4
  simp only [List.cons.injEq, and_true] at e0 e1 e2 e3 e4
  subst e0 e1 e2 e3 e4
  have lt1 : ∀ x ∈ p1, x.block < W.heap.size := by obtain ⟨m, hm⟩ := h1; exact DataW.trod_lt m _ _ _ hm
  have hk1 := h1
  have lt2 : ∀ x ∈ p2, x.block < W.heap.size := by obtain ⟨m, hm⟩ := h2; exact DataW.trod_lt m _ _ _ hm
  have hk2 := h2
  obtain ⟨b1, len1, cap1, rfl⟩ := okWide_slice Tryd.underlying24 (hval 1 24 v1 rfl rfl)
  obtain ⟨b2, len2, cap2, rfl⟩ := okWide_slice Tryd.underlying25 (hval 2 25 v2 rfl rfl)
  obtain ⟨l1, rfl, hc1, hr1⟩ := bools_of (W := W) (A := b1) (len := len1) (cap := cap1) (by
    obtain ⟨fuel, hf⟩ := h1
    rcases Go.Deep.open_bools Tryd.underlying24 Tryd.underlying4 (by kernel_rfl) hf with ⟨hcs, _⟩ | ⟨x, l, c, B, hcs, _, hl, hm, _, hcell⟩
    · simp [Value.cells] at hcs
      exact .inl hcs
    · simp [Value.cells] at hcs
      obtain ⟨rfl, rfl, rfl⟩ := hcs
      exact .inr ⟨x, B, rfl, hl, hm, hcell⟩)
  obtain ⟨zs2, hz2⟩ := ints_of h2
  obtain ⟨l2, rfl, hr2', _, _, hc2⟩ := Go.Proofs.YtcjlekakgjbiiaaDoorW.PrintWords.ReadsInt.ofRowC hz2
  have hr2 := Go.Proofs.YtcjlekakgjbiiaaDoorW.PrintWords.Kd.C_of_reads (d := (0 : Int)) (h1 := fun _ => rfl) hr2'
  have hb := bound hk
  simp only [List.append_nil, List.cons_append, List.nil_append, Rows.uptoBulkAll, Rows.uptoBulk, len] at hb
  refine (walk s0 i1 i2 i3 i4 b1 cap1 l1 b2 cap2 l2 W (by omega) (ginv_of hsh hL) hr1 hc1 hr2 hc2).mono fun e W' ⟨he, hg⟩ => ?_
  subst he
  exact ⟨_, rfl, _, _, _, [], _, [], hW', trodAll_mk1 (shut_bool Tryd.underlying4 _), trodAll_cons_mk (Below.trod laidOut (by kernel_rfl) (of_decide_eq_true (by kernel_rfl)) hk0 hg lt0) (trodAll_cons_mk (Below.trod laidOut (by kernel_rfl) (of_decide_eq_true (by kernel_rfl)) hk1 hg lt1) (trodAll_cons_mk (Below.trod laidOut (by kernel_rfl) (of_decide_eq_true (by kernel_rfl)) hk2 hg lt2) trodAll_mk0)), rfl, hg.frame _, fun h => by cases h⟩

theorem reads (os : Os) {H : Type} (enc : TypeId × Value → H) : ∃ places, DataW.whole enc Tryd.prog ((start os).forCall (fun _ _ => 0) ⟨#[], #[Value.agg #[.string ⟨#[]⟩, .int .i64 0, .int .i64 0, .int .i64 0, .int .i64 0], .slice none 0 0, .slice none 0 0], []⟩).memory Tryd.f3.params.toList Rows.healthRunsSpec.vars false #[Value.agg #[.string ⟨#[]⟩, .int .i64 0, .int .i64 0, .int .i64 0, .int .i64 0], .slice none 0 0, .slice none 0 0].toList 8 = some ([.agg [.lit (.string []), .lit (.int .i64 0), .lit (.int .i64 0), .lit (.int .i64 0), .lit (.int .i64 0)], .nil, .nil], [], places) :=
  ⟨[], by kernel_rfl⟩

set_option maxRecDepth 100000 in
theorem liftedUpto (os : Os) (started : os.Started) (H : Type) (enc : TypeId × Value → H) (F : Stop.Interp) :
    ReturnsInHanded {} Tryd.checked os 3 .any ((Rows.OpenSpec.upto Rows.healthRunsSpec).preRow enc Tryd.prog Tryd.f3 Rows.healthRunsUptoRow.domain false Rows.healthRunsUptoRow.laid) (((Rows.OpenSpec.upto Rows.healthRunsSpec).at F).post enc Tryd.prog Tryd.f3 false true false false) := by
  obtain ⟨places, hx⟩ := reads os enc
  refine returnsInHanded_of_row (C := Tryd.checked) (s := Rows.OpenSpec.upto Rows.healthRunsSpec) own started (by kernel_rfl) Tryd.func3
    (witness_row_shaped (enc := enc) (C := Tryd.checked) (start os) #[Value.agg #[.string ⟨#[]⟩, .int .i64 0, .int .i64 0, .int .i64 0, .int .i64 0], .slice none 0 0, .slice none 0 0] (World.laidAll_os _ _ _) (start_shaped os _) (by kernel_rfl)
      (OpenSpec.preRow_of_cond 8 hx (by kernel_rfl) (fun k hk => by cases hk; kernel_rfl) (by kernel_rfl) (start_laid os _))) ?_
  intro W base args ds gs before hval hW _ hk _ hL hsh _
  exact contract H enc W base args ds gs before hval hW (hk _ rfl) hL hsh

theorem saidUpto : Rows.HealthRunsUptoSaid :=
  OpenClaim.holds_of_cond 3 Tryd.f3 rfl rfl rfl rfl rfl rfl rfl ⟨rfl, rfl, rfl, rfl, rfl⟩ rfl rfl rfl rfl rfl (by kernel_rfl) Tryd.func3 (by kernel_rfl)
    (of_decide_eq_true (by kernel_rfl)) (by unfold Func.isWrapper; first | (rw [if_pos (by decide +kernel)]; kernel_rfl) | (rw [if_neg (by decide +kernel)]; exact ⟨rfl, rfl⟩))
    (fun os started H enc _ F => by rw [OpenClaim.pre_eq_preRow]; exact liftedUpto os started H enc F)

theorem plain (f : FuncId) (fn : Func) (hf : Tryd.pinned.checked.prog.funcNamed "turnstile/turnstilelaw24.HealthRuns" = some f) (hfn : Tryd.pinned.checked.prog.funcs[f]? = some fn) :
    true = Tryd.pinned.checked.prog.looks [] ∧ ∀ (j : Nat) t, fn.params[j]? = some t → Tryd.pinned.checked.prog.wantsStandIn t = false := by
  obtain rfl : f = 3 := Option.some.inj ((show Tryd.prog.funcNamed "turnstile/turnstilelaw24.HealthRuns" = some 3 by kernel_rfl).symm.trans hf) |>.symm
  obtain rfl : fn = Tryd.f3 := (Option.some.inj (Tryd.func3.symm.trans hfn)).symm
  refine ⟨by kernel_rfl, fun j t ht => ?_⟩
  rw [Tryd.params3] at ht
  match j, ht with
  | 0, ht => obtain rfl : (23 : TypeId) = t := by simpa using ht
             exact (show Tryd.prog.wantsStandIn 23 = false by kernel_rfl)
  | 1, ht => obtain rfl : (24 : TypeId) = t := by simpa using ht
             exact (show Tryd.prog.wantsStandIn 24 = false by kernel_rfl)
  | 2, ht => obtain rfl : (25 : TypeId) = t := by simpa using ht
             exact (show Tryd.prog.wantsStandIn 25 = false by kernel_rfl)
  | j + 3, ht => simp at ht

end Go.Proofs.YtcjlekakgjbiiaaDoor.healthRuns
namespace Go.Proofs.YtcjlekakgjbiiaaDoor
/-- the card of the second form -/
theorem healthRunsUpto_holds : Rows.HealthRunsUptoCardSaid :=
  Claim7.holds_tied_plain_at .later [] _ _ _ _ healthRuns.saidUpto (fun _ h => by cases h) (by kernel_rfl) (fun _ h => by cases h) healthRunsUpto_row_tie rfl ⟨rfl, rfl⟩ (by kernel_rfl) rfl healthRuns.plain (by kernel_rfl)
end Go.Proofs.YtcjlekakgjbiiaaDoor
end
