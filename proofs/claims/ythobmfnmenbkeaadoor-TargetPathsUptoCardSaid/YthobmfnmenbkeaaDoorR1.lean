/- The reference's functions that gather bytes, walked: Decode, and what a row of bytes is. -/
import Derived.Test.YthobmfnmenbkeaaDoorW12
import Derived.Laws.IdiomStrings
set_option linter.unusedVariables false
set_option linter.unusedSimpArgs false
namespace Go.Proofs.YthobmfnmenbkeaaDoor
open Go.RowKit Tg

theorem info5 : (Tryd.prog.info? 5).map (fun i => (i.zero, i.size, i.bytes)) = some (some (.int .u8 0), 1, 1) := by kernel_rfl
def bytesV (l : List UInt8) : List Value := l.map fun c => .int .u8 c.toNat
theorem bytesV_snoc (l : List UInt8) (c : UInt8) : bytesV l ++ [.int .u8 c.toNat] = bytesV (l ++ [c]) := by simp [bytesV]
theorem bytesV_len (l : List UInt8) : (bytesV l).length = l.length := by simp [bytesV]
/-- a text and an error's number -/
def textNum (o : Option (List UInt8)) : Value := match o with
  | some d => .tuple #[.string (txt d), .int .i64 0]
  | none => .tuple #[.string ⟨#[]⟩, .int .i64 23]
set_option maxRecDepth 100000 in
/-- the text of a row of bytes -/
theorem str_of_row {w : World} {B : Nat} {ov : Value} {l : List UInt8} (h : w.ownsRow B 5 1 ov l.length (bytesV l)) : (convert 64 9 ov).run Tryd.prog w = .ok (.string (txt l)) w := by
  by_cases h0 : 0 < l.length
  · obtain ⟨g, cap, rfl, h1, h2, h3, h4⟩ := own_form h h0
    refine run_convert_bytes_back w 64 9 5 ⟨g, 0, none⟩ cap l Tryd.underlying64 Tryd.underlying5 Tryd.underlying9 (fun j hj => ?_)
    rw [add_plain]
    have := h.cells (g := g) rfl j (.int .u8 l[j].toNat) (by simp [bytesV, hj])
    rw [add_plain] at this
    simpa using this
  · obtain rfl : l = [] := List.eq_nil_of_length_eq_zero (by omega)
    rcases h.2 with ⟨rfl, _⟩ | ⟨g, cap, cur, rfl, _⟩
    · kernel_rfl
    · exact run_convert_bytes_back w 64 9 5 ⟨g, 0, none⟩ cap [] Tryd.underlying64 Tryd.underlying5 Tryd.underlying9 (fun j hj => absurd hj (by simp))

set_option maxRecDepth 100000 in
set_option maxHeartbeats 4000000 in
theorem rdecode_calls (s : ByteArray) (w : World) (hs : s.size ≤ 4294967280) : Calls Tryd.prog 24 #[.string s] w fun e w' => e = .returned (textNum (decoded s.data.toList)) ∧ Below w.heap.size w w' := by
  go_enter Tryd.func24, Tryd.ntmps24
  go_wp2_with fail
  go_loopw [4, 5] (fun ov i wr => ∃ (k : Nat) (pre : List UInt8), k ≤ s.size ∧ i = .int .i64 k ∧ pre.length ≤ k ∧ decoded s.data.toList = (decoded (s.data.toList.drop k)).map (pre ++ ·) ∧ wr.ownsRow w.heap.size 5 1 ov pre.length (bytesV pre) ∧ Below w.heap.size w wr) (fun _ i _ => s.size - (intOf i).toNat)
  case atStart => exact ⟨0, [], Nat.zero_le _, rfl, Nat.zero_le _, by simp, World.ownsRow_nil _ _ _ _, Below.refl _ _⟩
  case round =>
    obtain ⟨k, pre, hk, rfl, hpl, hno, hown, hbw⟩ := hrel
    have HNO := Lib.hid hno
    clear hno
    have hz := hbw.size
    have hs' : s.size ≤ 140737488355328 := by omega
    obtain ⟨i0, hi, hz0, hz1, hz2⟩ := info_parts info5
    by_cases hlt : k < s.size
    · by_cases hp : s[k] = 37
      · have hq := byte_beq1 hp
        cases hc : code (s.data.toList.drop k) with
        | none =>
          have HM := Lib.hid (dec_none s k hlt hp hc)
          have hci := codei_none hc
          clear hp hc
          go_wp2_with (first | (go_at_call 50; refine (rcode_calls _ _ _ hs' hlt).mono ?_; rw [hci]; rintro e w' ⟨rfl, hd⟩))
          go_ret2
          exact ⟨ret_tuple (by rw [HNO.out, HM.out]; rfl), below_dr hbw hd⟩
        | some v =>
          obtain ⟨h2, hm⟩ := dec_some s k hlt hp hc
          have HM := Lib.hid hm
          have hci : codei (s.data.toList.drop k) = v.toNat := by unfold codei; rw [hc]
          have hv := v.toNat_lt
          clear hp hc hm
          go_wp2_with fail
          refine (rcode_calls _ _ _ hs' hlt).mono ?_
          rw [hci]
          rintro e w' ⟨rfl, ⟨n, rfl⟩⟩
          go_wp2_with (at_builtin; refine wpList_append_own _ rfl _ _ 64 rfl w.heap.size 5 i0 (.int .u8 0) 1 1 Tryd.underlying64 hi hz0 hz1 hz2 rfl (by decide) _ _ _ rfl (hown.alloc _) ⟨wr.heap.size, 0, none⟩ 1 1 [.int .u8 v.toNat] rfl rfl (cell_one_new _ _ _) ?c2 ?c3 ?c4 ?c5 ?c6)
          case c2 => simp [Value.oneCell']
          case c3 => unfold maxLen; omega
          case c4 => omega
          case c5 => rw [World.size_alloc]; simp; omega
          case c6 =>
            intro v' w1 hown' hgrow hnil
            go_wp2_with fail
            have hbw1 := ((below_dr hbw ⟨⟨n, rfl⟩⟩).alloc hz _).grown hgrow (by rw [World.size_alloc]; simp; omega) (fun k e => own_base hown k e)
            exact ⟨⟨k + 3, pre ++ [v], by omega, by go_num, by simp; omega, by rw [HNO.out, HM.out, map_cons_app], by simpa [bytesV] using hown', hbw1⟩, by simp [intOf]; omega⟩
      · have hq := byte_bne1 hp
        have HM := Lib.hid (dec_other s k hlt hp)
        clear hp
        go_wp2_with (at_builtin; refine wpList_append_own _ rfl _ _ 64 rfl w.heap.size 5 i0 (.int .u8 0) 1 1 Tryd.underlying64 hi hz0 hz1 hz2 rfl (by decide) _ _ _ rfl (hown.alloc _) ⟨wr.heap.size, 0, none⟩ 1 1 [.int .u8 s[k].toNat] rfl rfl (cell_one_new _ _ _) ?c2 ?c3 ?c4 ?c5 ?c6)
        case c2 => simp [Value.oneCell']
        case c3 => unfold maxLen; omega
        case c4 => omega
        case c5 => rw [World.size_alloc]; omega
        case c6 =>
          intro v' w1 hown' hgrow hnil
          go_wp2_with fail
          have hbw1 := (hbw.alloc hz _).grown hgrow (by rw [World.size_alloc]; omega) (fun k e => own_base hown k e)
          exact ⟨⟨k + 1, pre ++ [s[k]], by omega, by go_num, by simp; omega, by rw [HNO.out, HM.out, map_cons_app], by simpa [bytesV] using hown', hbw1⟩, by simp [intOf]; omega⟩
    · have hcv := str_of_row hown
      go_wp2_with fail
      go_ret2
      exact ⟨ret_tuple (by rw [HNO.out, List.drop_of_length_le (by simp; omega), decode_nil]; simp [textNum]), hbw⟩
end Go.Proofs.YthobmfnmenbkeaaDoor
