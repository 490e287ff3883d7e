/- The statement 'TargetPaths', walked. -/
import Derived.Test.YthobmfnmenbkeaaDoorR6
import Derived.Test.YthobmfnmenbkeaaDoorW15
set_option linter.unusedVariables false
set_option linter.unusedSimpArgs false
namespace Go.Proofs.YthobmfnmenbkeaaDoor
open Go.RowKit Tg

theorem textOr_form (o : Option (List UInt8)) : ∃ n : Int, textOr o 23 = .tuple #[.string (txt (o.getD [])), errV n] ∧ textNum o = .tuple #[.string (txt (o.getD [])), .int .i64 n] := by
  cases o with
  | none => exact ⟨23, rfl, rfl⟩
  | some d => exact ⟨0, rfl, rfl⟩

set_option maxRecDepth 100000 in
set_option maxHeartbeats 4000000 in
theorem tpaths_main (s : ByteArray) (w : World) (hs : s.size ≤ 1048576) (hr : Rdy w) : Calls Tryd.prog 4 #[.string s] w (PreIs w) := by
  obtain ⟨n, h1, h2⟩ := textOr_form (normal s.data.toList)
  have H1 := Lib.hid h1
  have H2 := Lib.hid h2
  have hxl := segsOut_len s.data.toList
  clear h1 h2
  go_enter Tryd.func4, Tryd.ntmps4
  go_wp2_with fail
  refine (normal_calls _ _ (by omega) hr).mono ?_
  rw [H1.out]
  rintro e w1 ⟨rfl, hb1⟩
  have hr1 := hr.below hb1
  generalize txt ((normal s.data.toList).getD []) = q at *
  go_wp2_with fail
  refine (rnormal_calls _ _ (by omega)).mono ?_
  rw [H2.out]
  rintro e w2 ⟨rfl, hb2⟩
  have hr2 := hr1.below hb2
  have hc2 := Below.trans2 hb1 hb1.size hb2
  clear hb1 hb2 hr1
  go_wp2_with fail
  refine (segments_calls _ _ (by omega) hr2).mono ?_
  rintro e w3 ⟨v1, rfl, hs1, hb3⟩
  have hr3 := hr2.below hb3
  have hc3 := Below.trans2 hc2 hc2.size hb3
  clear hb3 hc2 hr2
  go_wp2_with fail
  refine (rsegments2_calls _ _ (by omega)).mono ?_
  rintro e w4 ⟨v2, rfl, hs2, hb4⟩
  have hs3 := hs1.below hb4
  have hr4 := hr3.below hb4
  have hc4 := Below.trans2 hc3 hc3.size hb4
  clear hb4 hc3 hr3 hs1 H1 H2
  generalize (segsOut s.data.toList).1 = m at *
  generalize (segsOut s.data.toList).2 = xs at *
  go_wp2_with fail
  refine (num_calls _ _).mono ?_
  rintro e w' ⟨rfl, rfl⟩
  go_wp2_with fail
  refine (same_calls _ _ xs _ (by omega) hs3 hs2).mono ?_
  rintro e w' ⟨rfl, ⟨k, rfl⟩⟩
  have hr5 := hr4.below (below_dr (Below.refl w4.heap.size w4) ⟨⟨k, rfl⟩⟩)
  have hc5 := Below.trans2 hc4 hc4.size (below_dr (Below.refl w4.heap.size w4) ⟨⟨k, rfl⟩⟩)
  clear hs2 hs3 hr4 hc4
  generalize w4.drewN k = w5 at *
  go_wp2_with fail
  refine (num_calls _ _).mono ?_
  rintro e w' ⟨rfl, rfl⟩
  go_wp2_with fail
  refine (works_calls _ hr5).mono ?_
  rintro e w6 ⟨rfl, hb6⟩
  go_wp2_with fail
  go_ret
  exact ⟨rfl, Below.trans2 hc5 hc5.size hb6⟩
end Go.Proofs.YthobmfnmenbkeaaDoor
