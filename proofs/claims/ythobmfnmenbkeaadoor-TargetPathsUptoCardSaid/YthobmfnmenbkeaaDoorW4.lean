/- The reference's 'made', 'Path' and 'Query', walked. -/
import Derived.Test.YthobmfnmenbkeaaDoorW3
set_option linter.unusedVariables false
set_option linter.unusedSimpArgs false
namespace Go.Proofs.YthobmfnmenbkeaaDoor
open Go.RowKit Tg

theorem codei_some' {l : List UInt8} {v : UInt8} (h : code l = some v) : codei l = v.toNat := by unfold codei; rw [h]
theorem pathB_37 : pathB 37 = false := by decide

theorem soft_2' : ∀ v : UInt8, ((v.toNat : Int) < 0 ∨ (v.toNat : Int) < 32 ∨ ((v.toNat : Int) == 127) = true) → soft true v = true := all_bytes _ (by decide +kernel)
theorem rmade_calls (oth : UInt8 → Bool) (on : Bool) (s others : ByteArray) (w : World) (hs : s.size ≤ 140737488355328) (hos : others.size ≤ 140737488355328) (ho : ∀ c, has c others.data.toList = oth c) (h37 : oth 37 = false) :
    Calls Tryd.prog 72 #[.string s, .string others, .bool on] w fun e w' => e = .returned (.bool (made oth on s.data.toList)) ∧ Dr w w' := by
  have HO := Lib.hid ho
  have H37 := Lib.hid h37
  clear ho h37
  go_enter Tryd.func72, Tryd.ntmps72
  go_wp2
  go_loopw [7] (fun i wr => ∃ k : Nat, k ≤ s.size ∧ i = .int .i64 k ∧ made oth on (s.data.toList.drop k) = made oth on s.data.toList ∧ Dr w wr) (fun i _ => s.size - (intOf i).toNat)
  case atStart => exact ⟨0, Nat.zero_le _, rfl, rfl, Dr.refl _⟩
  case round =>
    obtain ⟨k, hk, rfl, hno, hdr⟩ := hrel
    have HNO := Lib.hid hno
    clear hno
    by_cases hlt : k < s.size
    · by_cases hp : s[k] = 37
      · have hpb : pathB s[k] = false := by rw [hp]; exact pathB_37
        have hha : has s[k] others.data.toList = false := by rw [HO.out, hp, H37.out]
        cases hc : code (s.data.toList.drop k) with
        | none =>
          have HM := Lib.hid (made_none oth on s k hlt hp hc)
          have hci := codei_none hc
          clear hp hc
          go_wp2_with (first | (go_at_call 93; refine (rplain_calls _ _).mono ?_; rintro e w' ⟨rfl, rfl⟩) | (go_at_call 38; refine (among_calls _ _ _ hos).mono ?_; rintro e w' ⟨rfl, rfl⟩) | (go_at_call 50; refine (rcode_calls _ _ _ hs hlt).mono ?_; rintro e w' ⟨rfl, hd⟩))
          go_ret
          exact ⟨ret_bool (by rw [← HNO.out, HM.out]), hdr.trans hd⟩
        | some v =>
          obtain ⟨h2, hm⟩ := made_some oth on s k hlt hp hc
          have HM := Lib.hid hm
          have hci := codei_some' hc
          clear hp hc hm
          cases on with
          | false =>
            go_wp2_with (first | (go_at_call 93; refine (rplain_calls _ _).mono ?_; rintro e w' ⟨rfl, rfl⟩) | (go_at_call 38; refine (among_calls _ _ _ hos).mono ?_; rintro e w' ⟨rfl, rfl⟩) | (go_at_call 50; refine (rcode_calls _ _ _ hs hlt).mono ?_; rintro e w' ⟨rfl, hd⟩))
            exact ⟨⟨k + 3, by omega, by go_num, by rw [← HNO.out, HM.out, soft_off]; rfl, hdr.trans hd⟩, by simp [intOf]; omega⟩
          | true =>
            go_wp2_with (first | (go_at_call 93; refine (rplain_calls _ _).mono ?_; rintro e w' ⟨rfl, rfl⟩) | (go_at_call 38; refine (among_calls _ _ _ hos).mono ?_; rintro e w' ⟨rfl, rfl⟩) | (go_at_call 50; refine (rcode_calls _ _ _ hs hlt).mono ?_; rintro e w' ⟨rfl, hd⟩))
            · go_ret
              refine ⟨ret_bool ?_, hdr.trans hd⟩
              have hq : soft true v = true := soft_2' v ‹_›
              rw [← HNO.out, HM.out, hq]; rfl
            · refine ⟨⟨k + 3, by omega, by go_num, ?_, hdr.trans hd⟩, by simp [intOf]; omega⟩
              have hq : soft true v = false := soft_3 _ (‹0 ≤ (v.toNat : Int) ∧ 32 ≤ (v.toNat : Int) ∧ ((v.toNat : Int) == 127) = false›).2
              rw [← HNO.out, HM.out, hq]; rfl
            · go_ret
              refine ⟨ret_bool ?_, hdr.trans hd⟩
              have hq : soft true v = true := soft_1 _ ‹_›
              rw [← HNO.out, HM.out, hq]; rfl
      · have HM := Lib.hid (made_other oth on s k hlt hp)
        have hci : codei (s.data.toList.drop k) = -1 := codei_none (by rw [drop_at s k hlt]; exact (code_not hp _).1)
        clear hp
        have hho : has s[k] others.data.toList = oth s[k] := HO.out s[k]
        cases h1 : pathB s[k] with
        | true =>
          go_wp2_with (first | (go_at_call 93; refine (rplain_calls _ _).mono ?_; rintro e w' ⟨rfl, rfl⟩))
          exact ⟨⟨k + 1, by omega, by go_num, by rw [← HNO.out, HM.out, h1]; rfl, hdr⟩, by simp [intOf]; omega⟩
        | false =>
          cases h2 : oth s[k] with
          | true =>
            rw [h2] at hho
            go_wp2_with (first | (go_at_call 93; refine (rplain_calls _ _).mono ?_; rintro e w' ⟨rfl, rfl⟩) | (go_at_call 38; refine (among_calls _ _ _ hos).mono ?_; rintro e w' ⟨rfl, rfl⟩))
            exact ⟨⟨k + 1, by omega, by go_num, by rw [← HNO.out, HM.out, h1, h2]; rfl, hdr⟩, by simp [intOf]; omega⟩
          | false =>
            rw [h2] at hho
            go_wp2_with (first | (go_at_call 93; refine (rplain_calls _ _).mono ?_; rintro e w' ⟨rfl, rfl⟩) | (go_at_call 38; refine (among_calls _ _ _ hos).mono ?_; rintro e w' ⟨rfl, rfl⟩) | (go_at_call 50; refine (rcode_calls _ _ _ hs hlt).mono ?_; rintro e w' ⟨rfl, hd⟩))
            go_ret
            exact ⟨ret_bool (by rw [← HNO.out, HM.out, h1, h2]; rfl), hdr.trans hd⟩
    · go_wp2
      go_ret
      exact ⟨ret_bool (by rw [← HNO.out, List.drop_of_length_le (by simp; omega), made_nil]), hdr⟩

theorem slash_has : ∀ c : UInt8, has c [47] = slash c := all_bytes _ (by decide +kernel)
theorem qmark_has : ∀ c : UInt8, has c [47, 63] = qmark c := all_bytes _ (by decide +kernel)

theorem rQuery_calls (s : ByteArray) (w : World) (hs : s.size ≤ 140737488355328) : Calls Tryd.prog 53 #[.string s] w fun e w' => e = .returned (.bool (isQuery s.data.toList)) ∧ Dr w w' := by
  go_enter Tryd.func53, Tryd.ntmps53
  go_wp2_with (first | (go_at_call 72; refine (rmade_calls qmark _ _ _ _ hs (by decide) qmark_has (by decide)).mono ?_; rintro e w' ⟨rfl, hd⟩))
  go_ret
  exact ⟨rfl, hd⟩

theorem len (s : ByteArray) : s.data.toList.length = s.size := by simp
theorem nonempty_of {s : ByteArray} (h : 0 < s.size) : s.toList.isEmpty = false := by
  rw [ByteArray.toList_eq]
  cases e : s.data.toList with
  | nil => have := len s; rw [e] at this; simp at this; omega
  | cons _ _ => rfl
theorem empty_of {s : ByteArray} (h : ¬ 0 < s.size) : s.toList.isEmpty = true := by
  rw [ByteArray.toList_eq, List.eq_nil_of_length_eq_zero (l := s.data.toList) (by rw [len]; omega)]; rfl
theorem nil_of_empty {s : ByteArray} (h : s.toList.isEmpty = true) : s.toList = [] := by simpa using h
theorem ne_of_nonempty {s : ByteArray} (h : s.toList.isEmpty = false) : ¬ s.toList = [] := by simpa using h

theorem rPath_calls (s : ByteArray) (w : World) (hs : s.size ≤ 140737488355328) : Calls Tryd.prog 47 #[.string s] w fun e w' => e = .returned (.bool (isPath s.data.toList)) ∧ Dr w w' := by
  by_cases h0 : 0 < s.size
  · have hd0 := drop_at s 0 h0
    have he := nonempty_of h0
    have he2 := ne_of_nonempty he
    by_cases hp : s[0] = 47
    · have hb : ((s[0].toNat : Int) == 47) = true := byte_beq (b := 47) hp
      have HH := Lib.hid (show isPath s.data.toList = made slash true s.data.toList by
        rw [List.drop_zero] at hd0; rw [hd0, hp]; simp [isPath])
      clear hp hd0
      go_enter Tryd.func47, Tryd.ntmps47
      go_wp2_with (first | (go_at_call 72; refine (rmade_calls slash _ _ _ _ hs (by decide) slash_has (by decide)).mono ?_; rintro e w' ⟨rfl, hd⟩))
      go_ret
      exact ⟨ret_bool (by rw [HH.out]), hd⟩
    · have hb : ((s[0].toNat : Int) == 47) = false := byte_bne (b := 47) hp
      have HH := Lib.hid (show isPath s.data.toList = false by
        rw [List.drop_zero] at hd0; rw [hd0]; simp [isPath, hp])
      clear hp hd0
      go_enter Tryd.func47, Tryd.ntmps47
      go_wp2_with fail
      go_ret
      exact ⟨ret_bool (by rw [HH.out]), Dr.refl _⟩
  · have HH := Lib.hid (show isPath s.data.toList = false by
      have : s.data.toList = [] := List.eq_nil_of_length_eq_zero (by rw [len]; omega)
      rw [this]; rfl)
    have he := empty_of h0
    have he2 := nil_of_empty he
    go_enter Tryd.func47, Tryd.ntmps47
    go_wp2_with fail
    go_ret
    exact ⟨ret_bool (by rw [HH.out]), Dr.refl _⟩
end Go.Proofs.YthobmfnmenbkeaaDoor
