/- The program's and the reference's codes, and what a text is made of, walked. -/
import Derived.Test.YthobmfnmenbkeaaDoorW1
set_option linter.unusedVariables false
set_option linter.unusedSimpArgs false
namespace Go.Proofs.YthobmfnmenbkeaaDoor
open Go.RowKit Tg

theorem drop_at (s : ByteArray) (k : Nat) (h : k < s.size) : s.data.toList.drop k = s[k] :: s.data.toList.drop (k + 1) := by
  rw [List.drop_eq_getElem_cons (by simpa using h)]; rfl
theorem drop3 (s : ByteArray) (k : Nat) (h : k + 2 < s.size) : s.data.toList.drop k = s[k] :: s[k + 1] :: s[k + 2] :: s.data.toList.drop (k + 3) := by
  rw [drop_at s k (by omega), drop_at s (k + 1) (by omega), drop_at s (k + 2) (by omega)]

/-- what 'code' comes to at a place -/
def CodeIs (s : ByteArray) (k : Nat) (w : World) (e : Ending) (w' : World) : Prop :=
  e = .returned (.tuple #[.int .u8 (rawCode (s.data.toList.drop k)).toNat, .bool (code (s.data.toList.drop k)).isSome]) ∧ w = w'

theorem byte_bne1 {a : UInt8} (h : a ≠ 37) : ((a.toNat : Int) != 37) = true := by
  have : ((a.toNat : Int) == 37) = false := byte_bne (b := 37) h
  simp [bne, this]
theorem byte_beq1 {a : UInt8} (h : a = 37) : ((a.toNat : Int) != 37) = false := by subst h; rfl

theorem hex2_isSome (x y : UInt8) : (hex2 x y).isSome = ((hexv x).isSome && (hexv y).isSome) := by
  unfold hex2
  cases hexv x <;> cases hexv y <;> rfl
theorem shl_or_int : ∀ a b : UInt8, a < 16 → b < 16 → bits BinOp.or IntKind.u8 ((a.toNat : Int) * 16 % 256) b.toNat = ((a <<< 4 ||| b).toNat : Int) := by
  intro a b ha hb
  obtain ⟨m, hm⟩ : ∃ m : Fin 16, a = UInt8.ofNat m.val := ⟨⟨a.toNat, by simpa [UInt8.lt_iff_toNat_lt] using ha⟩, by simp⟩
  obtain ⟨n, hn⟩ : ∃ n : Fin 16, b = UInt8.ofNat n.val := ⟨⟨b.toNat, by simpa [UInt8.lt_iff_toNat_lt] using hb⟩, by simp⟩
  subst hm hn
  revert m n
  decide +kernel
theorem raw_code (x y : UInt8) (r : List UInt8) : rawCode (37 :: x :: y :: r) = ((hexv x).getD 0) <<< 4 ||| (hexv y).getD 0 := rfl
theorem raw_code_int (x y : UInt8) (r : List UInt8) : bits BinOp.or IntKind.u8 ((((hexv x).getD 0).toNat : Int) * 16 % 256) ((hexv y).getD 0).toNat = ((rawCode (37 :: x :: y :: r)).toNat : Int) := by
  rw [raw_code]; exact shl_or_int _ _ (hexv_lt x) (hexv_lt y)
theorem code_37 (x y : UInt8) (r : List UInt8) : (code (37 :: x :: y :: r)).isSome = ((hexv x).isSome && (hexv y).isSome) := by
  rw [code_cons, if_pos rfl, hex2_isSome]

theorem code_calls (s : ByteArray) (k : Nat) (w : World) (hs : s.size ≤ 140737488355328) (hk : k < s.size) : Calls Tryd.prog 39 #[.string s, .int .i64 k] w (CodeIs s k w) := by
  by_cases h2 : k + 2 < s.size
  · by_cases hp : s[k] = 37
    · have HD := Lib.hid (drop3 s k h2)
      have hq := byte_beq1 hp
      have HP := Lib.hid hp
      clear hp
      go_enter Tryd.func39, Tryd.ntmps39
      go_wp2_with fail
      refine (hex_calls s[k + 1] _).mono ?_
      rintro e w' ⟨rfl, rfl⟩
      go_wp2_with fail
      refine (hex_calls s[k + 2] _).mono ?_
      rintro e w' ⟨rfl, rfl⟩
      go_wp2_with fail
      · go_ret2
        refine ⟨ret_pair ?_ ?_, rfl⟩
        · rw [HD.out, HP.out]; exact raw_code_int _ _ _
        · rw [HD.out, HP.out, code_37, ‹(hexv s[k + 1]).isSome = true›]; rfl
      · go_ret2
        refine ⟨ret_pair ?_ ?_, rfl⟩
        · rw [HD.out, HP.out]; exact raw_code_int _ _ _
        · have hf : (hexv s[k + 1]).isSome = false := by simpa using ‹¬(hexv s[k + 1]).isSome = true›
          rw [HD.out, HP.out, code_37, hf]; rfl
    · have HD := Lib.hid (drop_at s k hk)
      have hq := byte_bne1 hp
      have HP := Lib.hid hp
      clear hp
      go_enter Tryd.func39, Tryd.ntmps39
      go_wp2
      go_ret2
      refine ⟨ret_pair ?_ ?_, rfl⟩
      · rw [HD.out, (code_not HP.out _).2]; rfl
      · rw [HD.out, (code_not HP.out _).1]; rfl
  · have HS := Lib.hid (code_short (l := s.data.toList.drop k) (by simp; omega))
    go_enter Tryd.func39, Tryd.ntmps39
    go_wp2
    go_ret2
    refine ⟨ret_pair ?_ ?_, rfl⟩
    · rw [HS.out.2]; rfl
    · rw [HS.out.1]; rfl

/-- the reference's code: -1 for none -/
def codei (l : List UInt8) : Int := match code l with | some v => v.toNat | none => -1
theorem codei_none {l : List UInt8} (h : code l = none) : codei l = -1 := by unfold codei; rw [h]
theorem hexi_rng : ∀ c : UInt8, -1 ≤ hexi c ∧ hexi c ≤ 15 := all_bytes _ (by decide +kernel)
theorem hexi_some : ∀ c : UInt8, 0 ≤ hexi c → (hexv c).isSome = true ∧ (((hexv c).getD 0).toNat : Int) = hexi c := all_bytes _ (by decide +kernel)
theorem hexi_none : ∀ c : UInt8, hexi c < 0 → (hexv c).isSome = false := all_bytes _ (by decide +kernel)
theorem codei_none' {x y : UInt8} {r : List UInt8} (h : ((hexv x).isSome && (hexv y).isSome) = false) : codei (37 :: x :: y :: r) = -1 :=
  codei_none (by have := code_37 x y r; rw [h] at this; simpa using this)
theorem codei_some {x y : UInt8} (r : List UInt8) (hx : 0 ≤ hexi x) (hy : 0 ≤ hexi y) : codei (37 :: x :: y :: r) = hexi x * 16 + hexi y := by
  obtain ⟨a, ha⟩ := Option.isSome_iff_exists.1 (hexi_some x hx).1
  obtain ⟨b, hb⟩ := Option.isSome_iff_exists.1 (hexi_some y hy).1
  have ea := (hexi_some x hx).2
  have eb := (hexi_some y hy).2
  have la := hexv_lt' ha
  have lb := hexv_lt' hb
  rw [ha] at ea
  rw [hb] at eb
  simp only [Option.getD_some] at ea eb
  unfold codei
  rw [code_cons, if_pos rfl]
  unfold hex2
  rw [ha, hb]
  simp only [← ea, ← eb]
  rw [UInt8.lt_iff_toNat_lt] at la lb
  have la' : a.toNat < 16 := la
  have lb' : b.toNat < 16 := lb
  have e : (a * 16 + b).toNat = a.toNat * 16 + b.toNat := by
    rw [UInt8.toNat_add, UInt8.toNat_mul]
    show ((a.toNat * 16) % 256 + b.toNat) % 256 = _
    omega
  rw [e]; omega

theorem quiet_eq {P : Program} {f : FuncId} {args : Array Value} {w : World} {n : Nat} {v : Value}
    (h : Calls P f args (w.drewN n) fun e w' => e = .returned v ∧ w.drewN n = w') : Calls P f args (w.drewN n) fun e w'' => e = .returned v ∧ ∃ m, w'' = w.drewN m :=
  h.mono fun _ _ ⟨he, hm⟩ => ⟨he, n, hm.symm⟩

/-- the world is as it was, but for draws -/
structure Dr (w w' : World) : Prop where mk :: (out : ∃ n, w' = w.drewN n)
theorem Dr.refl (w : World) : Dr w w := ⟨0, rfl⟩
theorem Dr.more {w w' : World} (h : Dr w w') (n : Nat) : Dr w (w'.drewN n) := by
  obtain ⟨m, rfl⟩ := h
  exact ⟨m + n, World.drewN_drewN ..⟩
theorem Dr.trans {w w' w'' : World} (h : Dr w w') (g : Dr w' w'') : Dr w w'' := by
  obtain ⟨n, rfl⟩ := g; exact h.more n

theorem rcode_calls (s : ByteArray) (k : Nat) (w : World) (hs : s.size ≤ 140737488355328) (hk : k < s.size) : Calls Tryd.prog 50 #[.string s, .int .i64 k] w fun e w' => e = .returned (.int .i64 (codei (s.data.toList.drop k))) ∧ Dr w w' := by
  by_cases h2 : k + 2 < s.size
  · by_cases hp : s[k] = 37
    · have HD := Lib.hid (drop3 s k h2)
      have hq := byte_beq1 hp
      have HP := Lib.hid hp
      clear hp
      have hx := hexi_rng s[k + 1]
      have hy := hexi_rng s[k + 2]
      go_enter Tryd.func50, Tryd.ntmps50
      go_wp2_with (first | (go_at_call 73; refine (rhex_calls _ _).mono ?_; rintro e w' ⟨rfl, rfl⟩))
      · go_ret
        have hf : (hexv s[k + 2]).isSome = false := by
          rename_i h
          rcases h with (h | h) | h
          · omega
          · omega
          · exact hexi_none _ h
        exact ⟨ret_int (by rw [HD.out, HP.out, codei_none' (by rw [hf, Bool.and_false])]), Dr.refl _⟩
      · have p1 : 0 ≤ hexi s[k + 1] := ‹_›
        have p2 : 0 ≤ hexi s[k + 2] := (‹((k : Int) + 2 < (s.size : Int) ∧ 0 ≤ hexi s[k + 1]) ∧ 0 ≤ hexi s[k + 2]›).2
        go_quiet ((go_at_call 73; exact quiet_eq (rhex_calls _ _)))
        go_wp2
        go_ret
        exact ⟨ret_int (by rw [HD.out, HP.out, codei_some _ p1 p2]), (Dr.refl _).more _⟩
      · have p1 : hexi s[k + 1] < 0 := ‹_›
        go_ret
        exact ⟨ret_int (by rw [HD.out, HP.out, codei_none' (by rw [hexi_none _ p1, Bool.false_and])]), Dr.refl _⟩
    · have HD := Lib.hid (drop_at s k hk)
      have hq := byte_bne1 hp
      have HP := Lib.hid hp
      clear hp
      go_enter Tryd.func50, Tryd.ntmps50
      go_wp2
      go_ret
      exact ⟨ret_int (by rw [HD.out, codei_none (code_not HP.out _).1]), Dr.refl _⟩
  · have HS := Lib.hid (code_short (l := s.data.toList.drop k) (by simp; omega))
    go_enter Tryd.func50, Tryd.ntmps50
    go_wp2
    go_ret
    exact ⟨ret_int (by rw [codei_none HS.out.1]), Dr.refl _⟩

/-- a byte's code as a text -/
theorem coded_bytes : ∀ c : UInt8, (({ data := #[37] } : ByteArray) ++ ({ data := #[48, 49, 50, 51, 52, 53, 54, 55, 56, 57, 65, 66, 67, 68, 69, 70] } : ByteArray).extract (c.toNat / 16) (c.toNat / 16 + 1) ++
    ({ data := #[48, 49, 50, 51, 52, 53, 54, 55, 56, 57, 65, 66, 67, 68, 69, 70] } : ByteArray).extract (c.toNat % 16) (c.toNat % 16 + 1)) = ⟨(coded c).toArray⟩ := all_bytes _ (by decide +kernel)
theorem ret_str {a b : ByteArray} (h : a = b) : Ending.returned (.string a) = .returned (.string b) := by rw [h]
theorem coded_calls (c : UInt8) (w : World) : Calls Tryd.prog 43 #[.int .u8 c.toNat] w fun e w' => e = .returned (.string ⟨(coded c).toArray⟩) ∧ Dr w w' := by
  have hc : (c.toNat : Int) < 256 := by have := c.toNat_lt; omega
  have h1 : (0 : Int) ≤ (c.toNat : Int) / 16 := by omega
  have h2 : (c.toNat : Int) / 16 + 1 ≤ 16 := by omega
  go_enter Tryd.func43, Tryd.ntmps43
  go_wp2
  go_quiet (fail)
  go_wp2
  go_ret
  exact ⟨ret_str (coded_bytes c), (Dr.refl _).more _⟩
end Go.Proofs.YthobmfnmenbkeaaDoor
