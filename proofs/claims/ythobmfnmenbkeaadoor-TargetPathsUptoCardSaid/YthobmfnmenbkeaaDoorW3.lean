/- What a text is made of: the program's 'made', 'isPath', 'isQuery', and the reference's, walked. -/
import Derived.Test.YthobmfnmenbkeaaDoorW2
set_option linter.unusedVariables false
set_option linter.unusedSimpArgs false
namespace Go.Proofs.YthobmfnmenbkeaaDoor
open Go.RowKit Tg

section
variable (oth : UInt8 → Bool) (on : Bool) (s : ByteArray) (k : Nat)
theorem made_some {v : UInt8} (hk : k < s.size) (hp : s[k] = 37) (hc : code (s.data.toList.drop k) = some v) : k + 2 < s.size ∧ made oth on (s.data.toList.drop k) = (!soft on v && made oth on (s.data.toList.drop (k + 3))) := by
  have h2 : k + 2 < s.size := by
    by_cases h : k + 2 < s.size
    · exact h
    · have := (code_short (l := s.data.toList.drop k) (by simp; omega)).1
      rw [this] at hc; cases hc
  refine ⟨h2, ?_⟩
  rw [drop3 s k h2, hp] at hc ⊢
  rw [code_cons, if_pos rfl] at hc
  rw [made_code, hc]
theorem made_none (hk : k < s.size) (hp : s[k] = 37) (hc : code (s.data.toList.drop k) = none) : made oth on (s.data.toList.drop k) = false := by
  by_cases h2 : k + 2 < s.size
  · rw [drop3 s k h2, hp] at hc ⊢
    rw [code_cons, if_pos rfl] at hc
    rw [made_code, hc]
  · rw [drop_at s k hk, hp]
    have hl : (s.data.toList.drop (k + 1)).length < 2 := by simp; omega
    match s.data.toList.drop (k + 1), hl with
    | [], _ => rfl
    | [_], _ => rfl
    | _ :: _ :: _, h => simp at h; omega
theorem made_other (hk : k < s.size) (hp : s[k] ≠ 37) : made oth on (s.data.toList.drop k) = ((pathB s[k] || oth s[k]) && made oth on (s.data.toList.drop (k + 1))) := by
  rw [drop_at s k hk, made_byte oth on hp]
end

theorem soft_1 : ∀ v : UInt8, (v.toNat : Int) < 32 → soft true v = true := all_bytes _ (by decide +kernel)
theorem soft_2 : ∀ v : UInt8, ((v.toNat : Int) < 32 ∨ ((v.toNat : Int) == 127) = true) → soft true v = true := all_bytes _ (by decide +kernel)
theorem soft_3 : ∀ v : UInt8, (32 ≤ (v.toNat : Int) ∧ ((v.toNat : Int) == 127) = false) → soft true v = false := all_bytes _ (by decide +kernel)
theorem soft_off (v : UInt8) : soft false v = false := rfl

theorem made_calls (oth : UInt8 → Bool) (on : Bool) (s others : ByteArray) (w : World) (hs : s.size ≤ 140737488355328) (ho : ∀ c, decide (0 ≤ Lib.indexByte others.data.toList c) = oth c) :
    Calls Tryd.prog 68 #[.string s, .string others, .bool on] w fun e w' => e = .returned (.bool (made oth on s.data.toList)) ∧ w = w' := by
  have HO := Lib.hid ho
  clear ho
  go_enter Tryd.func68, Tryd.ntmps68
  go_wp2
  go_loop [7] (fun i => ∃ k : Nat, k ≤ s.size ∧ i = .int .i64 k ∧ made oth on (s.data.toList.drop k) = made oth on s.data.toList) (fun i => s.size - (intOf i).toNat)
  case atStart => exact ⟨0, Nat.zero_le _, rfl, rfl⟩
  case round =>
    obtain ⟨k, hk, rfl, hno⟩ := hrel
    have HNO := Lib.hid hno
    clear hno
    by_cases hlt : k < s.size
    · by_cases hp : s[k] = 37
      · have hb : ((s[k].toNat : Int) == 37) = true := byte_beq (b := 37) hp
        cases hc : code (s.data.toList.drop k) with
        | none =>
          have HM := Lib.hid (made_none oth on s k hlt hp hc)
          have hcs : (code (s.data.toList.drop k)).isSome = false := by rw [hc]; rfl
          clear hp hc
          go_wp2_with (first | (go_at_call 39; refine (code_calls _ _ _ hs hlt).mono ?_; rintro e w' ⟨rfl, rfl⟩))
          go_ret
          exact ⟨ret_bool (by rw [← HNO.out, HM.out]), rfl⟩
        | some v =>
          obtain ⟨h2, hm⟩ := made_some oth on s k hlt hp hc
          have HM := Lib.hid hm
          have hcs : (code (s.data.toList.drop k)).isSome = true := by rw [hc]; rfl
          have HR := Lib.hid (code_raw hc)
          clear hp hc hm
          cases on with
          | false =>
            go_wp2_with (first | (go_at_call 39; refine (code_calls _ _ _ hs hlt).mono ?_; rintro e w' ⟨rfl, rfl⟩))
            exact ⟨⟨k + 3, by omega, by go_num, by rw [← HNO.out, HM.out, soft_off]; rfl⟩, by simp [intOf]; omega⟩
          | true =>
            go_wp2_with (first | (go_at_call 39; refine (code_calls _ _ _ hs hlt).mono ?_; rintro e w' ⟨rfl, rfl⟩))
            · go_ret
              refine ⟨ret_bool ?_, rfl⟩
              have hq : soft true v = true := by rw [← HR.out]; exact soft_2 _ ‹_›
              rw [← HNO.out, HM.out, hq]; rfl
            · refine ⟨⟨k + 3, by omega, by go_num, ?_⟩, by simp [intOf]; omega⟩
              have hq : soft true v = false := by rw [← HR.out]; exact soft_3 _ ‹_›
              rw [← HNO.out, HM.out, hq]; rfl
            · go_ret
              refine ⟨ret_bool ?_, rfl⟩
              have hq : soft true v = true := by rw [← HR.out]; exact soft_1 _ ‹_›
              rw [← HNO.out, HM.out, hq]; rfl
      · have hb : ((s[k].toNat : Int) == 37) = false := byte_bne (b := 37) hp
        have HM := Lib.hid (made_other oth on s k hlt hp)
        clear hp
        go_wp2_with (first | (go_at_call 88; refine (pathByte_calls _ _).mono ?_; rintro e w' ⟨rfl, rfl⟩) | (go_at_call 65; refine (indexByte_calls _ _ _).mono ?_; rintro e w' ⟨rfl, rfl⟩))
        · exact ⟨⟨k + 1, by omega, by go_num, by rw [← HNO.out, HM.out, ‹pathB s[k] = true›]; rfl⟩, by simp [intOf]; omega⟩
        · go_ret
          refine ⟨ret_bool ?_, rfl⟩
          have h1 : pathB s[k] = false := by simpa using ‹¬pathB s[k] = true›
          have h2 : oth s[k] = false := by rw [← HO.out s[k]]; simpa using ‹Lib.indexByte others.data.toList s[k] < 0›
          rw [← HNO.out, HM.out, h1, h2]; rfl
        · refine ⟨⟨k + 1, by omega, by go_num, ?_⟩, by simp [intOf]; omega⟩
          have h2 : oth s[k] = true := by rw [← HO.out s[k]]; simpa using ‹0 ≤ Lib.indexByte others.data.toList s[k]›
          rw [← HNO.out, HM.out, h2, Bool.or_true, Bool.true_and]
    · go_wp2
      go_ret
      exact ⟨ret_bool (by rw [← HNO.out, List.drop_of_length_le (by simp; omega), made_nil]), rfl⟩

theorem slash_idx : ∀ c : UInt8, decide (0 ≤ Lib.indexByte [47] c) = slash c := all_bytes _ (by decide +kernel)
theorem qmark_idx : ∀ c : UInt8, decide (0 ≤ Lib.indexByte [47, 63] c) = qmark c := all_bytes _ (by decide +kernel)

theorem isQuery_calls (s : ByteArray) (w : World) (hs : s.size ≤ 140737488355328) : Calls Tryd.prog 34 #[.string s] w fun e w' => e = .returned (.bool (isQuery s.data.toList)) ∧ w = w' := by
  go_enter Tryd.func34, Tryd.ntmps34
  go_wp2_with (first | (go_at_call 68; refine (made_calls qmark _ _ _ _ hs qmark_idx).mono ?_; rintro e w' ⟨rfl, rfl⟩))
  go_ret
  exact ⟨rfl, rfl⟩

theorem isPath_cons {s : ByteArray} (h : Lib.hasPrefix s.data.toList [47] = true) : isPath s.data.toList = made slash true s.data.toList := by
  cases e : s.data.toList with
  | nil => rw [e] at h; simp [Lib.hasPrefix] at h
  | cons c r =>
    rw [e] at h
    simp [Lib.hasPrefix, List.isPrefixOf] at h
    subst h
    simp [isPath]
theorem isPath_no {s : ByteArray} (h : Lib.hasPrefix s.data.toList [47] = false) : isPath s.data.toList = false := by
  cases e : s.data.toList with
  | nil => rfl
  | cons c r =>
    rw [e] at h
    simp [Lib.hasPrefix, List.isPrefixOf] at h
    have : (c == 47) = false := by simpa using fun e => h e.symm
    simp [isPath, this]
theorem hasPrefix_calls (s p : ByteArray) (w : World) : Calls Tryd.prog 67 #[.string s, .string p] w fun e w' => e = .returned (.bool (Lib.hasPrefix s.data.toList p.data.toList)) ∧ w = w' :=
  (Tryd.strings_HasPrefix s p w).mono fun e w' ⟨h1, h2⟩ => ⟨h1, h2.symm⟩
theorem isPath_calls (s : ByteArray) (w : World) (hs : s.size ≤ 140737488355328) : Calls Tryd.prog 33 #[.string s] w fun e w' => e = .returned (.bool (isPath s.data.toList)) ∧ w = w' := by
  cases hh : Lib.hasPrefix s.data.toList [47] with
  | true =>
    have HH := Lib.hid (isPath_cons hh)
    go_enter Tryd.func33, Tryd.ntmps33
    go_wp2_with (first | (go_at_call 67; refine (hasPrefix_calls _ _ _).mono ?_; rintro e w' ⟨rfl, rfl⟩) | (go_at_call 68; refine (made_calls slash _ _ _ _ hs slash_idx).mono ?_; rintro e w' ⟨rfl, rfl⟩))
    go_ret
    exact ⟨ret_bool (by rw [HH.out]), rfl⟩
  | false =>
    have HH := Lib.hid (isPath_no hh)
    go_enter Tryd.func33, Tryd.ntmps33
    go_wp2_with (first | (go_at_call 67; refine (hasPrefix_calls _ _ _).mono ?_; rintro e w' ⟨rfl, rfl⟩) | (go_at_call 68; refine (made_calls slash _ _ _ _ hs slash_idx).mono ?_; rintro e w' ⟨rfl, rfl⟩))
    go_ret
    exact ⟨ret_bool (by rw [HH.out]), rfl⟩
end Go.Proofs.YthobmfnmenbkeaaDoor
