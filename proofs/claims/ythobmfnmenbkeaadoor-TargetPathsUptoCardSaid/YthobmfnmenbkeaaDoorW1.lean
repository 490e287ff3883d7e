/- The program's and the reference's tests of single bytes, walked: each comes to the plain word of the same name. -/
import Derived.Test.YthobmfnmenbkeaaDoorShelf
import Derived.Test.YthobmfnmenbkeaaDoorLaws
import Derived.WalkKit
import Derived.Outline
import Derived.Deep.QuietTactic
import Derived.BigQuiet
import Derived.WalkLawsBesides
import Derived.WalkSpells
import Derived.Lib.Hide
import Derived.Deep.Light
set_option linter.unusedVariables false
set_option linter.unusedSimpArgs false
namespace Go.Proofs.YthobmfnmenbkeaaDoor
open Go.RowKit Tg

theorem ret_bool {a b : Bool} (h : a = b) : Ending.returned (.bool a) = .returned (.bool b) := by rw [h]
theorem ret_int {k : IntKind} {a b : Int} (h : a = b) : Ending.returned (.int k a) = .returned (.int k b) := by rw [h]

theorem ret_pair {k : IntKind} {a b : Int} {x y : Bool} (h : a = b) (g : x = y) : Ending.returned (.tuple #[.int k a, .bool x]) = .returned (.tuple #[.int k b, .bool y]) := by rw [h, g]

theorem let_yes : ∀ c : UInt8, 97 ≤ bits BinOp.or IntKind.u8 (↑c.toNat) 32 → decide (bits BinOp.or IntKind.u8 (↑c.toNat) 32 ≤ 122) = isLet c := all_bytes _ (by decide +kernel)
theorem let_no : ∀ c : UInt8, bits BinOp.or IntKind.u8 (↑c.toNat) 32 < 97 → false = isLet c := all_bytes _ (by decide +kernel)
theorem dig_yes : ∀ c : UInt8, 48 ≤ (c.toNat : Int) → decide ((c.toNat : Int) ≤ 57) = isDig c := all_bytes _ (by decide +kernel)
theorem dig_no : ∀ c : UInt8, (c.toNat : Int) < 48 → false = isDig c := all_bytes _ (by decide +kernel)

theorem letter_calls (c : UInt8) (w : World) : Calls Tryd.prog 63 #[.int .u8 c.toNat] w fun e w' => e = .returned (.bool (isLet c)) ∧ w = w' := by
  go_enter Tryd.func63, Tryd.ntmps63
  go_wp2
  · go_ret; exact ⟨ret_bool (let_yes c ‹_›), rfl⟩
  · go_ret; exact ⟨ret_bool (let_no c ‹_›), rfl⟩
theorem digit_calls (c : UInt8) (w : World) : Calls Tryd.prog 64 #[.int .u8 c.toNat] w fun e w' => e = .returned (.bool (isDig c)) ∧ w = w' := by
  go_enter Tryd.func64, Tryd.ntmps64
  go_wp2
  · go_ret; exact ⟨ret_bool (dig_yes c ‹_›), rfl⟩
  · go_ret; exact ⟨ret_bool (dig_no c ‹_›), rfl⟩

/-- a byte is one of a text's -/
def idx (l : List UInt8) (c : UInt8) : Int := Lib.indexByte l c

theorem unres_1 : ∀ c : UInt8, isLet c = true → true = unres c := all_bytes _ (by decide +kernel)
theorem unres_2 : ∀ c : UInt8, isDig c = true → true = unres c := all_bytes _ (by decide +kernel)
theorem unres_3 : ∀ c : UInt8, isLet c = false → isDig c = false → decide (0 ≤ Lib.indexByte [45, 46, 95, 126] c) = unres c := all_bytes _ (by decide +kernel)

theorem indexByte_calls (s : ByteArray) (c : UInt8) (w : World) : Calls Tryd.prog 65 #[.string s, .int .u8 c.toNat] w fun e w' => e = .returned (.int .i64 (Lib.indexByte s.data.toList c)) ∧ w = w' :=
  (Tryd.strings_IndexByte s c.toNat w).mono fun e w' ⟨h1, h2⟩ => ⟨by rw [h1]; simp, h2.symm⟩

theorem unreserved_calls (c : UInt8) (w : World) : Calls Tryd.prog 41 #[.int .u8 c.toNat] w fun e w' => e = .returned (.bool (unres c)) ∧ w = w' := by
  go_enter Tryd.func41, Tryd.ntmps41
  go_wp2_with (first | (go_at_call 63; refine (letter_calls c _).mono ?_; rintro e w' ⟨rfl, rfl⟩) | (go_at_call 64; refine (digit_calls c _).mono ?_; rintro e w' ⟨rfl, rfl⟩) | (go_at_call 65; refine (indexByte_calls _ c _).mono ?_; rintro e w' ⟨rfl, rfl⟩))
  · go_ret; exact ⟨ret_bool (unres_1 c ‹_›), rfl⟩
  · go_ret; exact ⟨ret_bool (unres_2 c ‹_›), rfl⟩
  · go_ret; exact ⟨ret_bool (unres_3 c (by simpa using ‹¬ isLet c = true›) (by simpa using ‹¬ isDig c = true›)), rfl⟩

theorem pathB_1 : ∀ c : UInt8, unres c = true → true = pathB c := all_bytes _ (by decide +kernel)
theorem pathB_2 : ∀ c : UInt8, unres c = false → decide (0 ≤ Lib.indexByte [33, 36, 38, 39, 40, 41, 42, 43, 44, 59, 61, 58, 64] c) = pathB c := all_bytes _ (by decide +kernel)
theorem pathByte_calls (c : UInt8) (w : World) : Calls Tryd.prog 88 #[.int .u8 c.toNat] w fun e w' => e = .returned (.bool (pathB c)) ∧ w = w' := by
  go_enter Tryd.func88, Tryd.ntmps88
  go_wp2_with (first | (go_at_call 41; refine (unreserved_calls c _).mono ?_; rintro e w' ⟨rfl, rfl⟩) | (go_at_call 65; refine (indexByte_calls _ c _).mono ?_; rintro e w' ⟨rfl, rfl⟩))
  · go_ret; exact ⟨ret_bool (pathB_1 c ‹_›), rfl⟩
  · go_ret; exact ⟨ret_bool (pathB_2 c (by simpa using ‹¬ unres c = true›)), rfl⟩

theorem hex_calls (c : UInt8) (w : World) : Calls Tryd.prog 69 #[.int .u8 c.toNat] w fun e w' => e = .returned (.tuple #[.int .u8 ((hexv c).getD 0).toNat, .bool (hexv c).isSome]) ∧ w = w' := by
  go_enter Tryd.func69, Tryd.ntmps69
  go_wp2_with (first | (go_at_call 64; refine (digit_calls c _).mono ?_; rintro e w' ⟨rfl, rfl⟩))
  all_goals go_ret2
  all_goals refine ⟨ret_pair ?_ ?_, rfl⟩
  all_goals (go_light; revert w; intro w; (try intro Q1); (try intro Q2); (try intro Q3); (try clear Q3); (try clear Q2); (try clear Q1); clear w; revert c; exact all_bytes _ (by decide +kernel))

theorem rletter_calls (c : UInt8) (w : World) : Calls Tryd.prog 37 #[.int .u8 c.toNat] w fun e w' => e = .returned (.bool (isLet c || isDig c)) ∧ w = w' := by
  go_enter Tryd.func37, Tryd.ntmps37
  go_wp2
  all_goals go_ret
  all_goals refine ⟨ret_bool ?_, rfl⟩
  all_goals (go_light; revert w; intro w; (try intro Q1); (try intro Q2); (try intro Q3); (try clear Q3); (try clear Q2); (try clear Q1); clear w; revert c; exact all_bytes _ (by decide +kernel))

theorem take_snoc (s : ByteArray) (k : Nat) (h : k < s.size) : s.data.toList.take (k + 1) = s.data.toList.take k ++ [s[k]] := by
  rw [List.take_succ_eq_append_getElem (by simpa using h)]; rfl
theorem byte_beq {a b : UInt8} (h : a = b) : ((a.toNat : Int) == (b.toNat : Int)) = true := by subst h; simp
theorem byte_bne {a b : UInt8} (h : a ≠ b) : ((a.toNat : Int) == (b.toNat : Int)) = false := by
  rw [beq_eq_false_iff_ne]; intro e; exact h (UInt8.toNat_inj.1 (by omega))
theorem take_all (s : ByteArray) {k : Nat} (h : ¬ k < s.size) : s.data.toList.take k = s.data.toList := List.take_of_length_le (by simp; omega)

theorem among_calls (c : UInt8) (s : ByteArray) (w : World) (hs : s.size ≤ 140737488355328) : Calls Tryd.prog 38 #[.int .u8 c.toNat, .string s] w fun e w' => e = .returned (.bool (has c s.data.toList)) ∧ w = w' := by
  go_enter Tryd.func38, Tryd.ntmps38
  go_wp2
  go_loop [5] (fun i => ∃ k : Nat, k ≤ s.size ∧ i = .int .i64 k ∧ has c (s.data.toList.take k) = false) (fun i => s.size - (intOf i).toNat)
  case atStart => exact ⟨0, Nat.zero_le _, rfl, by simp [has]⟩
  case round =>
    obtain ⟨k, hk, rfl, hno⟩ := hrel
    have HNO := Lib.hid hno
    clear hno
    by_cases hlt : k < s.size
    · have HT := Lib.hid (take_snoc s k hlt)
      by_cases he : s[k] = c
      · have hb := byte_beq he
        have HE := Lib.hid he
        clear he
        go_wp2
        go_ret
        refine ⟨ret_bool ?_, rfl⟩
        have hm : c ∈ s.data.toList := List.mem_of_mem_take (i := k + 1) (by rw [HT.out, HE.out]; simp)
        simpa [has] using hm
      · have hb := byte_bne he
        have HE := Lib.hid he
        clear he
        go_wp2
        go_round
        case rel => exact ⟨k + 1, by omega, by go_num, by rw [HT.out]; have := HNO.out; unfold has at this ⊢; rw [List.contains_append, this]; simpa using fun h => HE.out h.symm⟩
        case measure => simp [intOf]; omega
    · have HA := Lib.hid (take_all s hlt)
      go_wp2
      go_ret
      exact ⟨ret_bool (by have := HNO.out; rw [HA.out] at this; exact this.symm), rfl⟩

/-! ### the reference's bytes -/
theorem rUnres_3 : ∀ c : UInt8, (isLet c || isDig c) = false → has c [45, 46, 95, 126] = unres c := all_bytes _ (by decide +kernel)
theorem rUnres_1 : ∀ c : UInt8, (isLet c || isDig c) = true → true = unres c := all_bytes _ (by decide +kernel)
def alnum (c : UInt8) : Bool := isLet c || isDig c
theorem rletter_calls' (c : UInt8) (w : World) : Calls Tryd.prog 37 #[.int .u8 c.toNat] w fun e w' => e = .returned (.bool (alnum c)) ∧ w = w' := rletter_calls c w
theorem rUnreserved_calls (c : UInt8) (w : World) : Calls Tryd.prog 20 #[.int .u8 c.toNat] w fun e w' => e = .returned (.bool (unres c)) ∧ w = w' := by
  go_enter Tryd.func20, Tryd.ntmps20
  go_wp2_with (first | (go_at_call 37; refine (rletter_calls' c _).mono ?_; rintro e w' ⟨rfl, rfl⟩) | (go_at_call 38; refine (among_calls c _ _ (by decide)).mono ?_; rintro e w' ⟨rfl, rfl⟩))
  · go_ret; exact ⟨ret_bool (rUnres_1 c ‹_›), rfl⟩
  · go_ret; exact ⟨ret_bool (rUnres_3 c (by simpa [alnum] using ‹¬ alnum c = true›)), rfl⟩
theorem rplain_1 : ∀ c : UInt8, unres c = true → true = pathB c := all_bytes _ (by decide +kernel)
theorem rplain_2 : ∀ c : UInt8, unres c = false → has c [33, 36, 38, 39, 40, 41, 42, 43, 44, 59, 61, 58, 64] = pathB c := all_bytes _ (by decide +kernel)
theorem rplain_calls (c : UInt8) (w : World) : Calls Tryd.prog 93 #[.int .u8 c.toNat] w fun e w' => e = .returned (.bool (pathB c)) ∧ w = w' := by
  go_enter Tryd.func93, Tryd.ntmps93
  go_wp2_with (first | (go_at_call 20; refine (rUnreserved_calls c _).mono ?_; rintro e w' ⟨rfl, rfl⟩) | (go_at_call 38; refine (among_calls c _ _ (by decide)).mono ?_; rintro e w' ⟨rfl, rfl⟩))
  · go_ret; exact ⟨ret_bool (rplain_1 c ‹_›), rfl⟩
  · go_ret; exact ⟨ret_bool (rplain_2 c (by simpa using ‹¬ unres c = true›)), rfl⟩

/-- the reference's value of a digit: -1 for none -/
def hexi (c : UInt8) : Int := match hexv c with | some v => v.toNat | none => -1
def below (c : UInt8) (k : Nat) : Bool := match hexv c with | some v => decide (k ≤ v.toNat) | none => true
theorem below_end : ∀ c : UInt8, below c 16 = true → (-1 : Int) = hexi c := all_bytes _ (by decide +kernel)
set_option maxHeartbeats 4000000 in
theorem rhex_calls (c : UInt8) (w : World) : Calls Tryd.prog 73 #[.int .u8 c.toNat] w fun e w' => e = .returned (.int .i64 (hexi c)) ∧ w = w' := by
  go_enter Tryd.func73, Tryd.ntmps73
  go_wp2
  go_loop [3] (fun i => ∃ k : Nat, k ≤ 16 ∧ i = .int .i64 k ∧ below c k = true) (fun i => 16 - (intOf i).toNat)
  case atStart => exact ⟨0, by omega, rfl, by unfold below; split <;> simp⟩
  case round =>
    obtain ⟨k, hk, rfl, hb⟩ := hrel
    by_cases hlt : k < 16
    · have HK := Lib.hid (show k = 0 ∨ k = 1 ∨ k = 2 ∨ k = 3 ∨ k = 4 ∨ k = 5 ∨ k = 6 ∨ k = 7 ∨ k = 8 ∨ k = 9 ∨ k = 10 ∨ k = 11 ∨ k = 12 ∨ k = 13 ∨ k = 14 ∨ k = 15 by omega)
      have HB := Lib.hid hb
      clear hb hk hlt
      rcases HK.out with rfl | rfl | rfl | rfl | rfl | rfl | rfl | rfl | rfl | rfl | rfl | rfl | rfl | rfl | rfl | rfl
      all_goals go_wp2
      all_goals clear HK
      all_goals first | (go_ret; refine ⟨ret_int ?_, rfl⟩) | refine ⟨⟨1, by omega, rfl, ?_⟩, by simp [intOf]⟩ | refine ⟨⟨2, by omega, rfl, ?_⟩, by simp [intOf]⟩ | refine ⟨⟨3, by omega, rfl, ?_⟩, by simp [intOf]⟩ | refine ⟨⟨4, by omega, rfl, ?_⟩, by simp [intOf]⟩ | refine ⟨⟨5, by omega, rfl, ?_⟩, by simp [intOf]⟩ | refine ⟨⟨6, by omega, rfl, ?_⟩, by simp [intOf]⟩ | refine ⟨⟨7, by omega, rfl, ?_⟩, by simp [intOf]⟩ | refine ⟨⟨8, by omega, rfl, ?_⟩, by simp [intOf]⟩ | refine ⟨⟨9, by omega, rfl, ?_⟩, by simp [intOf]⟩ | refine ⟨⟨10, by omega, rfl, ?_⟩, by simp [intOf]⟩ | refine ⟨⟨11, by omega, rfl, ?_⟩, by simp [intOf]⟩ | refine ⟨⟨12, by omega, rfl, ?_⟩, by simp [intOf]⟩ | refine ⟨⟨13, by omega, rfl, ?_⟩, by simp [intOf]⟩ | refine ⟨⟨14, by omega, rfl, ?_⟩, by simp [intOf]⟩ | refine ⟨⟨15, by omega, rfl, ?_⟩, by simp [intOf]⟩ | refine ⟨⟨16, by omega, rfl, ?_⟩, by simp [intOf]⟩
      all_goals (have HB1 := HB.out; clear HB; go_light; revert w; intro w; (try intro Q1); (try intro Q2); (try intro Q3); (try clear Q3); (try clear Q2); (try clear Q1); clear w; revert c; exact all_bytes _ (by decide +kernel))
    · obtain rfl : k = 16 := by omega
      have HB := Lib.hid hb
      clear hb
      go_wp2
      go_ret
      exact ⟨ret_int (below_end c HB.out), rfl⟩
end Go.Proofs.YthobmfnmenbkeaaDoor
