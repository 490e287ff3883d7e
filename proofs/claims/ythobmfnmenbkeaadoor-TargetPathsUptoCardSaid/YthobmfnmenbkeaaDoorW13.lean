/- The head of this layer's statements, 'works', and the numbers of errors, walked. -/
import Derived.Test.YthobmfnmenbkeaaDoorW11
import Derived.Test.YthobmfnmenbkeaaDoorW12
set_option linter.unusedVariables false
set_option linter.unusedSimpArgs false
namespace Go.Proofs.YthobmfnmenbkeaaDoor
open Go.RowKit Tg

theorem textOr_some (d : List UInt8) (n : Int) : textOr (some d) n = .tuple #[.string ⟨d.toArray⟩, .nilIface] := rfl
theorem textOr_none (n : Int) : textOr none n = .tuple #[.string ⟨#[]⟩, .iface 56 (.int .i64 n)] := rfl
set_option maxRecDepth 100000 in
theorem num_nil (w : World) : Calls Tryd.prog 12 #[.nilIface] w fun e w' => e = .returned (.int .i64 0) ∧ w = w' := by
  go_enter Tryd.func12, Tryd.ntmps12
  go_wp2
  go_ret
  exact ⟨rfl, rfl⟩
set_option maxRecDepth 100000 in
theorem num_some (n : Int) (w : World) : Calls Tryd.prog 12 #[.iface 56 (.int .i64 n)] w fun e w' => e = .returned (.int .i64 n) ∧ w = w' := by
  have hta : ∀ w, (Instr.typeAssert (.iface 56 (.int .i64 n)) 25 56 true).run Tryd.prog w = .ok (.tuple #[.int .i64 n, .bool true]) w := fun _ => by kernel_rfl
  go_enter Tryd.func12, Tryd.ntmps12
  go_wp2
  go_ret
  exact ⟨rfl, rfl⟩
theorem num_calls (n : Int) (w : World) : Calls Tryd.prog 12 #[errV n] w fun e w' => e = .returned (.int .i64 n) ∧ w = w' := by
  unfold errV
  by_cases h : n = 0
  · subst h; rw [if_pos rfl]; exact num_nil w
  · rw [if_neg h]; exact num_some n w

theorem n1 : normal [47, 97, 47, 46, 47, 98, 47, 46, 46, 47, 37, 55, 101, 99, 37, 50, 102] = some [47, 97, 47, 126, 99, 37, 50, 70] := by decide +kernel
theorem n2 : normal [47, 46, 46] = none := by decide +kernel
theorem n3 : parse [104, 116, 116, 112, 58, 47, 47, 72, 58, 56, 48, 63, 120] = (0, ⟨2, [104, 58, 56, 48], [47], [120], true⟩) := by decide +kernel
theorem n4 : segsOut [47, 97, 37, 50, 48, 98, 47] = (0, [[97, 32, 98], []]) := by decide +kernel
theorem a3 : ∀ c ∈ ([104, 116, 116, 112, 58, 47, 47, 72, 58, 56, 48, 63, 120] : List UInt8), c.toNat < 128 := by decide

theorem works_segs (w : World) (hr : Rdy w) : Calls Tryd.prog 16 #[.string ⟨#[47, 97, 37, 50, 48, 98, 47]⟩] w fun e w' => ∃ b cap, e = .returned (.tuple #[.slice (some ⟨b, 0, none⟩) 2 cap, .nilIface]) ∧
    b < w'.heap.size ∧ w'.cell? ⟨b, 0, none⟩ = some (.string ⟨#[97, 32, 98]⟩) ∧ Below w.heap.size w w' := by
  refine (segments_calls ⟨#[47, 97, 37, 50, 48, 98, 47]⟩ w (by decide) hr).mono ?_
  rintro e w' ⟨v, he, hs, hb⟩
  rw [show (⟨#[47, 97, 37, 50, 48, 98, 47]⟩ : ByteArray).data.toList = [47, 97, 37, 50, 48, 98, 47] from rfl, n4] at he hs
  rcases hs with ⟨h, _⟩ | ⟨b, cap, rfl, h2, h3⟩
  · cases h
  · exact ⟨b, cap, he, h2, h3 0 (by decide), hb⟩

set_option maxRecDepth 100000 in
set_option maxHeartbeats 4000000 in
theorem works_calls (w : World) (hr : Rdy w) : Calls Tryd.prog 13 #[] w fun e w' => e = .returned (.bool true) ∧ Below w.heap.size w w' := by
  go_enter Tryd.func13, Tryd.ntmps13
  go_wp2_with fail
  refine (normal_calls ⟨#[47, 97, 47, 46, 47, 98, 47, 46, 46, 47, 37, 55, 101, 99, 37, 50, 102]⟩ _ (by decide) hr).mono ?_
  rw [show (⟨#[47, 97, 47, 46, 47, 98, 47, 46, 46, 47, 37, 55, 101, 99, 37, 50, 102]⟩ : ByteArray).data.toList = [47, 97, 47, 46, 47, 98, 47, 46, 46, 47, 37, 55, 101, 99, 37, 50, 102] from rfl, n1, textOr_some]
  rintro e w1 ⟨rfl, hb1⟩
  have hr1 := hr.below hb1
  go_wp2_with fail
  refine (normal_calls ⟨#[47, 46, 46]⟩ _ (by decide) hr1).mono ?_
  rw [show (⟨#[47, 46, 46]⟩ : ByteArray).data.toList = [47, 46, 46] from rfl, n2, textOr_none]
  rintro e w2 ⟨rfl, hb2⟩
  have hr2 := hr1.below hb2
  go_wp2_with fail
  refine (parse_ascii ⟨#[104, 116, 116, 112, 58, 47, 47, 72, 58, 56, 48, 63, 120]⟩ _ hr2 a3).mono ?_
  rw [show (⟨#[104, 116, 116, 112, 58, 47, 47, 72, 58, 56, 48, 63, 120]⟩ : ByteArray).data.toList = [104, 116, 116, 112, 58, 47, 47, 72, 58, 56, 48, 63, 120] from rfl, n3,
    show parseV (0, ⟨2, [104, 58, 56, 48], [47], [120], true⟩) = Value.tuple #[.agg #[.int .i64 2, .string ⟨#[104, 58, 56, 48]⟩, .string ⟨#[47]⟩, .string ⟨#[120]⟩, .bool true], .nilIface] from rfl]
  rintro e w3 ⟨rfl, hb3⟩
  have hr3 := hr2.below hb3
  have HB3 := Lib.hid (show Below w.heap.size w w3 from (hb1.trans ⟨hb2.os, hb2.tape, hb2.output, hb2.size, fun i hi => hb2.block i (by have := hb1.size; omega)⟩).trans ⟨hb3.os, hb3.tape, hb3.output, hb3.size, fun i hi => hb3.block i (by have := hb1.size; have := hb2.size; omega)⟩)
  clear hb1 hb2 hb3 hr hr1 hr2
  have hr4 := hr3.below (below_new w3 (.cells #[.int .i64 2, .string ⟨#[104, 58, 56, 48]⟩, .string ⟨#[47]⟩, .string ⟨#[120]⟩, .bool true] 23))
  have HB4 := Lib.hid (HB3.out.alloc HB3.out.size (.cells #[.int .i64 2, .string ⟨#[104, 58, 56, 48]⟩, .string ⟨#[47]⟩, .string ⟨#[120]⟩, .bool true] 23))
  have hq : ((3 : Int) = 3) := rfl
  go_wp2_with fail
  refine (works_segs _ hr4).mono ?_
  rintro e w4 ⟨b, cap, rfl, hlt, hc0, hb4⟩
  have hz : w3.heap.size < (w3.alloc (.cells #[.int .i64 2, .string ⟨#[104, 58, 56, 48]⟩, .string ⟨#[47]⟩, .string ⟨#[120]⟩, .bool true] 23)).heap.size := by simp
  have f1 := (hb4.cell (p := ⟨w3.heap.size, 1, none⟩) hz).trans (by simp : _ = some (.string ⟨#[104, 58, 56, 48]⟩))
  have f2 := (hb4.cell (p := ⟨w3.heap.size, 2, none⟩) hz).trans (by simp : _ = some (.string ⟨#[47]⟩))
  have f3 := (hb4.cell (p := ⟨w3.heap.size, 3, none⟩) hz).trans (by simp : _ = some (.string ⟨#[120]⟩))
  have HB5 := Lib.hid (HB4.out.trans ⟨hb4.os, hb4.tape, hb4.output, hb4.size, fun i hi => hb4.block i (by have := HB3.out.size; simp; omega)⟩)
  clear hb4 hz hr3 hr4 hq hlt
  go_wp2_with (first | (go_at_call 12; refine (num_some 23 _).mono ?_; rintro e w' ⟨rfl, rfl⟩))
  go_ret
  exact ⟨rfl, HB5.out⟩
end Go.Proofs.YthobmfnmenbkeaaDoor
