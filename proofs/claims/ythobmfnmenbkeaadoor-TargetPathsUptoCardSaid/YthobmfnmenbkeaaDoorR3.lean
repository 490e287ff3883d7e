/- The reference's cut of a path at its slashes, walked. -/
import Derived.Test.YthobmfnmenbkeaaDoorR2
set_option linter.unusedVariables false
set_option linter.unusedSimpArgs false
namespace Go.Proofs.YthobmfnmenbkeaaDoor
open Go.RowKit Tg

/-- what stands behind each slash -/
def behindEach (l : List UInt8) : List (List UInt8) := (cuts 47 l).tail
theorem behind_nil : behindEach [] = [] := rfl
theorem behind_no {c : UInt8} (h : c ≠ 47) (r : List UInt8) : behindEach (c :: r) = behindEach r := by
  unfold behindEach
  obtain ⟨hd, tl, e⟩ := cuts_form 47 r
  rw [cuts_cons_ne h e, e]; rfl
theorem behind_yes (r : List UInt8) : behindEach (47 :: r) = cuts 47 r := by
  unfold behindEach; rw [cuts_cons_eq]; rfl
/-- the segment up to a place where it ends -/
theorem cuts_at (l : List UInt8) : ∀ (j : Nat), j ≤ l.length → (∀ i, i < j → l[i]? ≠ some 47) → (j = l.length ∨ l[j]? = some 47) → cuts 47 l = l.take j :: behindEach (l.drop j) := by
  induction l with
  | nil => intro j hj _ _; obtain rfl : j = 0 := by simpa using hj
           simp [behindEach, cuts]
  | cons c r ih =>
    intro j hj h1 h2
    cases j with
    | zero =>
      have hc : c = 47 := by rcases h2 with h | h <;> simp at h; exact h
      subst hc
      rw [cuts_cons_eq]; simp [behind_yes]
    | succ j =>
      have hc : c ≠ 47 := fun e => h1 0 (by omega) (by simp [e])
      have := ih j (by simpa using hj) (fun i hi => by have := h1 (i + 1) (by omega); simpa using this) (by simpa using h2)
      rw [cuts_cons_ne hc this]; simp
theorem behind_step (r : List UInt8) (j : Nat) (hj : j ≤ r.length) (h1 : ∀ i, i < j → r[i]? ≠ some 47) (h2 : j = r.length ∨ r[j]? = some 47) : behindEach (47 :: r) = r.take j :: behindEach r := by
  have e := cuts_at r j hj h1 h2
  rw [behind_yes, e]
  congr 1
  unfold behindEach at *
  rw [e]; rfl
theorem nq_of {x y : Int} {r : Bool} (h : (x == y) = r) : (x != y) = !r := by rw [bne, h]
theorem drop_get (s : ByteArray) (k j : Nat) (h : k + 1 + j < s.size) : (s.data.toList.drop (k + 1))[j]? = some s[k + 1 + j] := by
  rw [List.getElem?_drop, List.getElem?_eq_getElem (by simpa using h)]; rfl
theorem extract_seg (s : ByteArray) (k j : Nat) : (s.extract (k + 1) (k + 1 + j)).data.toList = (s.data.toList.drop (k + 1)).take j := by
  simp only [ByteArray.data_extract, Array.toList_extract, List.extract_eq_take_drop]
  rw [Nat.add_sub_cancel_left]
theorem strs_of_row {w : World} {B : Nat} {ov : Value} {outs : List ByteArray} (h : w.ownsRow B 9 1 ov outs.length (outs.map Value.string)) : StrsAt w ov (outs.map (·.data.toList)) := by
  rcases h.2 with ⟨rfl, h0⟩ | ⟨g, cap, cur, rfl, hb, hh, h1, h2, _⟩
  · exact .inl ⟨by rw [List.eq_nil_of_length_eq_zero (by omega : outs.length = 0)]; rfl, rfl⟩
  · refine .inr ⟨g, cap, by simp, (Array.getElem?_eq_some_iff.1 hh).1, fun j hj => ?_⟩
    have := h.cells (g := g) rfl j (.string (outs[j]'(by simpa using hj))) (by simp at hj; simp [hj])
    rw [add_plain] at this
    simpa [txt] using this

set_option maxRecDepth 100000 in
set_option maxHeartbeats 4000000 in
theorem rsegments_calls (s : ByteArray) (w : World) (hs : s.size ≤ 4294967280) : Calls Tryd.prog 48 #[.string s] w fun e w' => ∃ v, e = .returned v ∧ StrsAt w' v (behindEach s.data.toList) ∧ Below w.heap.size w w' := by
  go_enter Tryd.func48, Tryd.ntmps48
  go_wp2_with fail
  go_loopw [3, 4] (fun ov i wr => ∃ (k : Nat) (outs : List ByteArray), k ≤ s.size ∧ i = .int .i64 k ∧ outs.length ≤ k ∧ behindEach s.data.toList = outs.map (·.data.toList) ++ behindEach (s.data.toList.drop k) ∧ wr.ownsRow w.heap.size 9 1 ov outs.length (outs.map Value.string) ∧ Below w.heap.size w wr) (fun _ i _ => s.size - (intOf i).toNat)
  case atStart => exact ⟨0, [], Nat.zero_le _, rfl, Nat.zero_le _, by simp, World.ownsRow_nil _ _ _ _, Below.refl _ _⟩
  case round =>
    obtain ⟨k, outs, hk, rfl, hpl, hno, hown, hbw⟩ := hrel
    have HNO := Lib.hid hno
    clear hno
    have hz := hbw.size
    obtain ⟨i0, hi, hz0, hz1, hz2⟩ := info_parts info9
    by_cases hlt : k < s.size
    · have HD := Lib.hid (drop_at s k hlt)
      by_cases hp : s[k] = 47
      · have hq : ((s[k].toNat : Int) != 47) = false := nq_of (byte_beq (b := 47) hp)
        have HP := Lib.hid hp
        clear hp
        go_wp2_with fail
        go_loop [5] (fun i => ∃ j : Nat, k + 1 + j ≤ s.size ∧ i = .int .i64 (k + 1 + j : Nat) ∧ ∀ m, m < j → (s.data.toList.drop (k + 1))[m]? ≠ some 47) (fun i => s.size - (intOf i).toNat)
        case atStart => exact ⟨0, by omega, by go_num, fun m hm => absurd hm (by omega)⟩
        case round =>
          obtain ⟨j, hj, rfl, hnj⟩ := hrel
          have HNJ := Lib.hid hnj
          clear hnj
          by_cases hlj : k + 1 + j < s.size
          · by_cases hpj : s[k + 1 + j] = 47
            · have hqj : ((s[k + 1 + j].toNat : Int) != 47) = false := nq_of (byte_beq (b := 47) hpj)
              have HPJ := Lib.hid (show (s.data.toList.drop (k + 1))[j]? = some 47 by rw [drop_get s k j hlj, hpj])
              clear hpj
              have HST := Lib.hid (behind_step (s.data.toList.drop (k + 1)) j (by simp; omega) HNJ.out (.inr HPJ.out))
              go_wp2_with (at_builtin; refine wpList_append_own _ rfl _ _ 38 rfl w.heap.size 9 i0 (.string ⟨#[]⟩) 1 16 Tryd.underlying38 hi hz0 hz1 hz2 rfl (by decide) _ _ _ rfl (hown.alloc _) ⟨wr.heap.size, 0, none⟩ 1 1 [.string (s.extract (k + 1) (k + 1 + j))] rfl rfl (cell_one_new _ _ _) ?c2 ?c3 ?c4 ?c5 ?c6)
              case c2 => simp [Value.oneCell']
              case c3 => unfold maxLen; omega
              case c4 => omega
              case c5 => rw [World.size_alloc]; omega
              case c6 =>
                intro v' w1 hown' hgrow hnil
                go_wp2_with fail
                have hbw1 := (hbw.alloc hz _).grown hgrow (by rw [World.size_alloc]; omega) (fun k e => own_base hown k e)
                exact ⟨⟨k + 1, outs ++ [s.extract (k + 1) (k + 1 + j)], by omega, by go_num, by simp; omega, by rw [HNO.out, HD.out, HP.out, HST.out, List.map_append, List.append_assoc, List.map_cons, List.map_nil, extract_seg]; rfl, by simpa using hown', hbw1⟩, by simp [intOf]; omega⟩
            · have hqj : ((s[k + 1 + j].toNat : Int) != 47) = true := nq_of (byte_bne (b := 47) hpj)
              have HPJ := Lib.hid (show (s.data.toList.drop (k + 1))[j]? ≠ some 47 by rw [drop_get s k j hlj]; exact fun e => hpj (Option.some.inj e))
              clear hpj
              go_wp2_with fail
              go_round
              case rel => exact ⟨j + 1, by omega, by go_num, fun m hm => by
                rcases Nat.lt_or_ge m j with h | h
                · exact HNJ.out m h
                · obtain rfl : m = j := by omega
                  exact HPJ.out⟩
              case measure => simp [intOf]; omega
          · have HST := Lib.hid (behind_step (s.data.toList.drop (k + 1)) j (by simp; omega) HNJ.out (.inl (by simp; omega)))
            go_wp2_with (at_builtin; refine wpList_append_own _ rfl _ _ 38 rfl w.heap.size 9 i0 (.string ⟨#[]⟩) 1 16 Tryd.underlying38 hi hz0 hz1 hz2 rfl (by decide) _ _ _ rfl (hown.alloc _) ⟨wr.heap.size, 0, none⟩ 1 1 [_] rfl rfl (cell_one_new _ _ _) ?c2 ?c3 ?c4 ?c5 ?c6)
            case c2 => simp [Value.oneCell']
            case c3 => unfold maxLen; omega
            case c4 => omega
            case c5 => omega
            case c6 =>
              intro v' w1 hown' hgrow hnil
              go_wp2_with fail
              have hbw1 := (hbw.alloc hz _).grown hgrow (by rw [World.size_alloc]; omega) (fun k e => own_base hown k e)
              exact ⟨⟨k + 1, outs ++ [s.extract (k + 1) (k + 1 + j)], by omega, by go_num, by simp; omega, by rw [HNO.out, HD.out, HP.out, HST.out, List.map_append, List.append_assoc, List.map_cons, List.map_nil, extract_seg]; rfl, by simpa using hown', hbw1⟩, by simp [intOf]; omega⟩
      · have hq : ((s[k].toNat : Int) != 47) = true := nq_of (byte_bne (b := 47) hp)
        have HM := Lib.hid (show behindEach (s.data.toList.drop k) = behindEach (s.data.toList.drop (k + 1)) by rw [HD.out, behind_no hp])
        clear hp
        go_wp2_with fail
        exact ⟨⟨k + 1, outs, by omega, by go_num, by omega, by rw [HNO.out, HM.out], hown, hbw⟩, by simp [intOf]; omega⟩
    · go_wp2_with fail
      go_ret
      refine ⟨_, rfl, ?_, hbw⟩
      rw [HNO.out, List.drop_of_length_le (by simp; omega), behind_nil, List.append_nil]
      exact strs_of_row hown
end Go.Proofs.YthobmfnmenbkeaaDoor
