/- The program's 'isHost', walked. -/
import Derived.Test.YthobmfnmenbkeaaDoorW4
import Derived.Test.YthobmfnmenbkeaaDoorSpec2
set_option linter.unusedVariables false
set_option linter.unusedSimpArgs false
namespace Go.Proofs.YthobmfnmenbkeaaDoor
open Go.RowKit Tg

theorem host_ascii : ∀ c : UInt8, hostB c = true → c.toNat < 128 := all_bytes _ (by decide +kernel)
theorem host_1 : ∀ c : UInt8, isLet c = true → hostB c = true := all_bytes _ (by decide +kernel)
theorem host_2 : ∀ c : UInt8, isDig c = true → hostB c = true := all_bytes _ (by decide +kernel)
theorem host_3 : ∀ c : UInt8, 0 ≤ Lib.indexByte [45, 46, 95, 58] c → hostB c = true := all_bytes _ (by decide +kernel)
theorem host_4 : ∀ c : UInt8, isLet c = false → isDig c = false → Lib.indexByte [45, 46, 95, 58] c < 0 → hostB c = false := all_bytes _ (by decide +kernel)
theorem all_drop (s : ByteArray) (k : Nat) (hk : k < s.size) (h : hostB s[k] = false) : s.data.toList.all hostB = false := by
  rw [List.all_eq_false]
  exact ⟨s[k], by have := List.mem_of_mem_take (i := k + 1) (a := s[k]) (l := s.data.toList) (by rw [take_snoc s k hk]; simp); exact this, by simp [h]⟩

theorem isHost_calls (s : ByteArray) (w : World) (hs : s.size ≤ 140737488355328) : Calls Tryd.prog 31 #[.string s] w fun e w' => e = .returned (.bool (isHost s.data.toList)) ∧ w = w' := by
  go_enter Tryd.func31, Tryd.ntmps31
  go_wp2
  go_loop [6] (fun i => ∃ k : Nat, k ≤ s.size ∧ i = .int .i64 k ∧ (s.data.toList.take k).all hostB = true) (fun i => s.size - (intOf i).toNat)
  case atStart => exact ⟨0, Nat.zero_le _, rfl, rfl⟩
  case round =>
    obtain ⟨k, hk, rfl, hno⟩ := hrel
    have HNO := Lib.hid hno
    clear hno
    by_cases hlt : k < s.size
    · have HT := Lib.hid (take_snoc s k hlt)
      go_wp2_with (first | (go_at_call 63; refine (letter_calls _ _).mono ?_; rintro e w' ⟨rfl, rfl⟩) | (go_at_call 64; refine (digit_calls _ _).mono ?_; rintro e w' ⟨rfl, rfl⟩) | (go_at_call 65; refine (indexByte_calls _ _ _).mono ?_; rintro e w' ⟨rfl, rfl⟩))
      · exact ⟨⟨k + 1, by omega, by go_num, by rw [HT.out, List.all_append, HNO.out]; simp [host_1 _ ‹isLet s[k] = true›]⟩, by simp [intOf]; omega⟩
      · exact ⟨⟨k + 1, by omega, by go_num, by rw [HT.out, List.all_append, HNO.out]; simp [host_2 _ ‹isDig s[k] = true›]⟩, by simp [intOf]; omega⟩
      · go_ret
        refine ⟨ret_bool ?_, rfl⟩
        have h := all_drop s k hlt (host_4 _ (by simpa using ‹¬isLet s[k] = true›) (by simpa using ‹¬isDig s[k] = true›) ‹_›)
        unfold isHost
        rw [h]; rfl
      · exact ⟨⟨k + 1, by omega, by go_num, by rw [HT.out, List.all_append, HNO.out]; simp [host_3 _ ‹0 ≤ Lib.indexByte [45, 46, 95, 58] s[k]›]⟩, by simp [intOf]; omega⟩
    · have HA := Lib.hid (take_all s hlt)
      have HH := Lib.hid (show isHost s.data.toList = (decide (1 ≤ s.size) && decide (s.size ≤ 255)) by
        have := HNO.out
        rw [HA.out] at this
        unfold isHost
        rw [this, len]; simp)
      go_wp2
      · go_ret
        refine ⟨ret_bool ?_, rfl⟩
        rw [HH.out]
        have : 1 ≤ s.size := by have : (1 : Int) ≤ s.size := ‹_›; omega
        simp [this]; omega
      · go_ret
        refine ⟨ret_bool ?_, rfl⟩
        rw [HH.out]
        have : ¬ 1 ≤ s.size := by have : (s.size : Int) < 1 := ‹_›; omega
        simp [this]
end Go.Proofs.YthobmfnmenbkeaaDoor
