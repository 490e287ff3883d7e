/- The program's 'Encode' and 'Decode', walked. -/
import Derived.Test.YthobmfnmenbkeaaDoorW4
set_option linter.unusedVariables false
set_option linter.unusedSimpArgs false
namespace Go.Proofs.YthobmfnmenbkeaaDoor
open Go.RowKit Tg

/-- a strings.Builder of the call's own, in block b, that holds the bytes l -/
def Bld (B b : Nat) (l : List UInt8) (w : World) : Prop := Lib.IsBuilderF 66 5 B b (Lib.byteCells l) w

theorem bld_new (w : World) : Bld w.heap.size w.heap.size [] (w.alloc (.cells #[.pointer none, .slice none 0 0] 66)) := Lib.IsBuilderF.of (Lib.fresh_isBuilder 66 5 w)
theorem bld_drewN {B b : Nat} {l : List UInt8} {w : World} (h : Bld B b l w) (n : Nat) : Bld B b l (w.drewN n) := h
theorem bld_dr {B b : Nat} {l : List UInt8} {w w' : World} (h : Bld B b l w) (d : Dr w w') : Bld B b l w' := by obtain ⟨n, rfl⟩ := d; exact h
theorem bld_byte {B b : Nat} {l : List UInt8} {w : World} (c : UInt8) (h : Bld B b l w) (hl : l.length + 1 ≤ 140737488355328) (hB : B ≤ w.heap.size) :
    Calls Tryd.prog 40 #[.pointer (some ⟨b, 0, none⟩), .int .u8 c.toNat] w fun e w' => e = .returned .nilIface ∧ Bld B b (l ++ [c]) w' ∧ Below B w w' :=
  (Tryd.Builder_WriteByte_k B b _ c.toNat w h (by rw [Lib.byteCells_length]; exact hl) hB).mono fun e w' ⟨h1, h2, h3, _⟩ => ⟨h1, .inr (by rw [Lib.byteCells_append]; exact h2), h3⟩
theorem bld_str {B b : Nat} {l : List UInt8} {w : World} (t : ByteArray) (h : Bld B b l w) (hl : l.length + t.size ≤ 140737488355328) (hB : B ≤ w.heap.size) :
    Calls Tryd.prog 42 #[.pointer (some ⟨b, 0, none⟩), .string t] w fun e w' => e = .returned (.tuple #[.int .i64 t.size, .nilIface]) ∧ Bld B b (l ++ t.data.toList) w' ∧ Below B w w' :=
  (Tryd.Builder_WriteString_k B b _ t w h (by rw [Lib.byteCells_length]; exact hl) hB).mono fun e w' ⟨h1, h2, h3, _⟩ => ⟨h1, .inr (by rw [Lib.byteCells_append]; exact h2), h3⟩
theorem bld_done {B b : Nat} {l : List UInt8} {w : World} (h : Bld B b l w) (hB : B ≤ w.heap.size) :
    Calls Tryd.prog 45 #[.pointer (some ⟨b, 0, none⟩)] w fun e w' => e = .returned (.string ⟨l.toArray⟩) ∧ Below B w w' :=
  (Tryd.Builder_String_any_k B b l w h hB).mono fun e w' ⟨h1, _, h3, _⟩ => ⟨h1, h3⟩
theorem below_dr {B : Nat} {w w' w'' : World} (h : Below B w w') (d : Dr w' w'') : Below B w w'' := by
  obtain ⟨n, rfl⟩ := d
  exact ⟨h.os, h.tape, h.output, h.size, h.block⟩
theorem below_of_dr {w w' : World} (d : Dr w w') (B : Nat) : Below B w w' := below_dr (Below.refl _ _) d
theorem below_new (w : World) (o : Obj) : Below w.heap.size w (w.alloc o) := (Below.refl _ _).alloc (Nat.le_refl _) o

theorem encode_snoc (l : List UInt8) (c : UInt8) : encode (l ++ [c]) = encode l ++ (if unres c then [c] else coded c) := by simp [encode]
theorem encode_len (l : List UInt8) : (encode l).length ≤ 3 * l.length := by
  induction l with
  | nil => simp [encode]
  | cons c r ih =>
    unfold encode at ih ⊢
    rw [List.flatMap_cons, List.length_append, List.length_cons]
    have : (if unres c then [c] else coded c).length ≤ 3 := by split <;> simp [coded]
    omega

theorem encode_calls (s : ByteArray) (w : World) (hs : s.size ≤ 4294967280) : Calls Tryd.prog 23 #[.string s] w fun e w' => e = .returned (.string ⟨(encode s.data.toList).toArray⟩) ∧ Below w.heap.size w w' := by
  go_enter Tryd.func23, Tryd.ntmps23
  go_wp2
  have hb0 := bld_new w
  have hbl := below_new w (.cells #[.pointer none, .slice none 0 0] 66)
  have HB0 := Lib.hid hb0
  have HBL := Lib.hid hbl
  clear hb0 hbl
  go_loopw [7] (fun i wr => ∃ k : Nat, k ≤ s.size ∧ i = .int .i64 k ∧ Bld w.heap.size w.heap.size (encode (s.data.toList.take k)) wr ∧ Below w.heap.size w wr) (fun i _ => s.size - (intOf i).toNat)
  case atStart => exact ⟨0, Nat.zero_le _, rfl, by simpa [encode] using HB0.out, HBL.out⟩
  case round =>
    obtain ⟨k, hk, rfl, hb, hbw⟩ := hrel
    by_cases hlt : k < s.size
    · have HT := Lib.hid (take_snoc s k hlt)
      have hlen := encode_len (s.data.toList.take k)
      have hlen2 : (s.data.toList.take k).length ≤ k := List.length_take_le _ _
      have hz := hbw.size
      have HS := Lib.hid (encode_snoc (s.data.toList.take k) s[k])
      cases hu : unres s[k] with
      | true =>
        go_wp2_with (first | (go_at_call 41; refine (unreserved_calls _ _).mono ?_; rw [hu]; rintro e w' ⟨rfl, rfl⟩) | (go_at_call 40; refine (bld_byte _ hb (by omega) hz).mono ?_; rintro e w' ⟨rfl, hb', hbl'⟩))
        exact ⟨⟨k + 1, by omega, by go_num, by rw [HT.out, HS.out, hu]; exact hb', hbw.trans hbl'⟩, by simp [intOf]; omega⟩
      | false =>
        go_wp2_with fail
        refine (unreserved_calls _ _).mono ?_
        rw [hu]
        rintro e w' ⟨rfl, rfl⟩
        go_wp2_with fail
        refine (coded_calls _ _).mono ?_
        rintro e w' ⟨rfl, hd⟩
        have hb1 := bld_dr hb hd
        have hz1 := (below_dr hbw hd).size
        go_wp2_with fail
        refine (bld_str _ hb1 (by show _ + (coded _).length ≤ _; simp [coded]; omega) hz1).mono ?_
        rintro e w' ⟨rfl, hb', hbl'⟩
        go_wp2_with fail
        exact ⟨⟨k + 1, by omega, by go_num, by rw [HT.out, HS.out, hu]; exact hb', (below_dr hbw hd).trans hbl'⟩, by simp [intOf]; omega⟩
    · have HA := Lib.hid (take_all s hlt)
      have hz := hbw.size
      go_wp2_with (first | (go_at_call 45; refine (bld_done hb hz).mono ?_; rintro e w' ⟨rfl, hbl'⟩))
      go_ret
      exact ⟨ret_str (by rw [HA.out]), hbw.trans hbl'⟩

/-- an error by its number, as a value -/
def errV (n : Int) : Value := if n = 0 then .nilIface else .iface 56 (.int .i64 n)
/-- a text and an error -/
def textOr (r : Option (List UInt8)) (n : Int) : Value := match r with
  | some d => .tuple #[.string ⟨d.toArray⟩, .nilIface]
  | none => .tuple #[.string ⟨#[]⟩, .iface 56 (.int .i64 n)]

section
variable (s : ByteArray) (k : Nat)
theorem dec_some {v : UInt8} (hk : k < s.size) (hp : s[k] = 37) (hc : code (s.data.toList.drop k) = some v) : k + 2 < s.size ∧ decoded (s.data.toList.drop k) = (decoded (s.data.toList.drop (k + 3))).map (v :: ·) := by
  have h2 := (made_some slash true s k hk hp hc).1
  refine ⟨h2, ?_⟩
  rw [drop3 s k h2, hp] at hc ⊢
  rw [code_cons, if_pos rfl] at hc
  rw [decode_code hc]
theorem dec_none (hk : k < s.size) (hp : s[k] = 37) (hc : code (s.data.toList.drop k) = none) : decoded (s.data.toList.drop k) = none := by
  by_cases h2 : k + 2 < s.size
  · rw [drop3 s k h2, hp] at hc ⊢
    rw [code_cons, if_pos rfl] at hc
    rw [decoded, if_pos rfl]; simp only [hc]
  · rw [drop_at s k hk, hp]
    have hl : (s.data.toList.drop (k + 1)).length < 2 := by simp; omega
    match s.data.toList.drop (k + 1), hl with
    | [], _ => rfl
    | [_], _ => rfl
    | _ :: _ :: _, h => simp at h; omega
theorem dec_other (hk : k < s.size) (hp : s[k] ≠ 37) : decoded (s.data.toList.drop k) = (decoded (s.data.toList.drop (k + 1))).map (s[k] :: ·) := by
  rw [drop_at s k hk, decode_byte hp]
end
theorem map_cons_app (o : Option (List UInt8)) (pre : List UInt8) (v : UInt8) : (o.map (v :: ·)).map (pre ++ ·) = o.map (pre ++ [v] ++ ·) := by cases o <;> simp
theorem ret_tuple {a b : Value} (h : a = b) : Ending.returned a = .returned b := by rw [h]

theorem decode_calls (s : ByteArray) (w : World) (hs : s.size ≤ 140737488355328) : Calls Tryd.prog 19 #[.string s] w fun e w' => e = .returned (textOr (decoded s.data.toList) 23) ∧ Below w.heap.size w w' := by
  go_enter Tryd.func19, Tryd.ntmps19
  go_wp2
  have hb0 := bld_new w
  have hbl := below_new w (.cells #[.pointer none, .slice none 0 0] 66)
  have HB0 := Lib.hid hb0
  have HBL := Lib.hid hbl
  clear hb0 hbl
  go_loopw [5] (fun i wr => ∃ (k : Nat) (pre : List UInt8), k ≤ s.size ∧ i = .int .i64 k ∧ pre.length ≤ k ∧ decoded s.data.toList = (decoded (s.data.toList.drop k)).map (pre ++ ·) ∧ Bld w.heap.size w.heap.size pre wr ∧ Below w.heap.size w wr) (fun i _ => s.size - (intOf i).toNat)
  case atStart => exact ⟨0, [], Nat.zero_le _, rfl, Nat.zero_le _, by simp, HB0.out, HBL.out⟩
  case round =>
    obtain ⟨k, pre, hk, rfl, hpl, hno, hb, hbw⟩ := hrel
    have HNO := Lib.hid hno
    clear hno
    have hz := hbw.size
    by_cases hlt : k < s.size
    · by_cases hp : s[k] = 37
      · have hq := byte_beq1 hp
        cases hc : code (s.data.toList.drop k) with
        | none =>
          have HM := Lib.hid (dec_none s k hlt hp hc)
          have hcs : (code (s.data.toList.drop k)).isSome = false := by rw [hc]; rfl
          clear hp hc
          go_wp2_with (first | (go_at_call 39; refine (code_calls _ _ _ hs hlt).mono ?_; rintro e w' ⟨rfl, rfl⟩))
          go_ret2
          exact ⟨ret_tuple (by rw [HNO.out, HM.out]; rfl), hbw⟩
        | some v =>
          obtain ⟨h2, hm⟩ := dec_some s k hlt hp hc
          have HM := Lib.hid hm
          have hcs : (code (s.data.toList.drop k)).isSome = true := by rw [hc]; rfl
          have HR := Lib.hid (code_raw hc)
          clear hp hc hm
          go_wp2_with fail
          refine (code_calls _ _ _ hs hlt).mono ?_
          rintro e w' ⟨rfl, rfl⟩
          go_wp2_with fail
          refine (bld_byte _ hb (by omega) hz).mono ?_
          rintro e w' ⟨rfl, hb', hbl'⟩
          go_wp2_with fail
          exact ⟨⟨k + 3, pre ++ [v], by omega, by go_num, by simp; omega, by rw [HNO.out, HM.out, map_cons_app], by rw [← HR.out]; exact hb', hbw.trans hbl'⟩, by simp [intOf]; omega⟩
      · have hq := byte_bne1 hp
        have HM := Lib.hid (dec_other s k hlt hp)
        clear hp
        go_wp2_with (first | (go_at_call 40; refine (bld_byte _ hb (by omega) hz).mono ?_; rintro e w' ⟨rfl, hb', hbl'⟩))
        exact ⟨⟨k + 1, pre ++ [s[k]], by omega, by go_num, by simp; omega, by rw [HNO.out, HM.out, map_cons_app], hb', hbw.trans hbl'⟩, by simp [intOf]; omega⟩
    · go_wp2_with (first | (go_at_call 45; refine (bld_done hb hz).mono ?_; rintro e w' ⟨rfl, hbl'⟩))
      go_ret2
      exact ⟨ret_tuple (by rw [HNO.out, List.drop_of_length_le (by simp; omega), decode_nil]; simp [textOr]), hbw.trans hbl'⟩
end Go.Proofs.YthobmfnmenbkeaaDoor
