/- The reference's Segments, walked. -/
import Derived.Test.YthobmfnmenbkeaaDoorR5
set_option linter.unusedVariables false
set_option linter.unusedSimpArgs false
namespace Go.Proofs.YthobmfnmenbkeaaDoor
open Go.RowKit Tg

theorem rnormal_calls (s : ByteArray) (w : World) (hs : s.size ≤ 4294967270) : Calls Tryd.prog 15 #[.string s] w fun e w' => e = .returned (textNum (normal s.data.toList)) ∧ Below w.heap.size w w' := by
  cases h : isPath s.data.toList with
  | false => exact rnormal_no s w (by omega) h
  | true => exact rnormal_yes s w hs h

def RSegsIs (l : List UInt8) (w : World) (e : Ending) (w' : World) : Prop := ∃ v, e = .returned (.tuple #[v, .int .i64 (segsOut l).1]) ∧ StrsAt w' v (segsOut l).2 ∧ Below w.heap.size w w'

theorem rsegs_none (s : ByteArray) (w : World) (hs : s.size ≤ 4294967270) (hn : normal s.data.toList = none) : Calls Tryd.prog 17 #[.string s] w (RSegsIs s.data.toList w) := by
  have HS := Lib.hid (show segsOut s.data.toList = (23, []) by unfold segsOut; rw [hn])
  have HN := Lib.hid (show textNum (normal s.data.toList) = .tuple #[.string ⟨#[]⟩, .int .i64 23] by rw [hn]; rfl)
  clear hn
  go_enter Tryd.func17, Tryd.ntmps17
  go_wp2_with fail
  refine (rnormal_calls _ _ hs).mono ?_
  rw [HN.out]
  rintro e w1 ⟨rfl, hb⟩
  go_wp2_with fail
  go_ret2
  exact ⟨.slice none 0 0, ret_tuple (by rw [HS.out]; rfl), .inl ⟨by rw [HS.out], rfl⟩, hb⟩

theorem textNum_parts (o : Option (List UInt8)) : ∃ n, textNum o = .tuple #[.string (txt (o.getD [])), .int .i64 n] := by
  cases o with
  | none => exact ⟨23, rfl⟩
  | some d => exact ⟨0, rfl⟩

theorem own_below {w w' : World} {base n : Nat} {e : TypeId} {size : Nat} {v : Value} {xs : List Value} (h : w.ownsRow base e size v n xs) (hb : Below w.heap.size w w') : w'.ownsRow base e size v n xs := by
  refine ⟨h.1, ?_⟩
  rcases h.2 with h2 | ⟨g, cap, cur, rfl, h3, h4, h5⟩
  · exact .inl h2
  · exact .inr ⟨g, cap, cur, rfl, h3, (hb.block g (Array.getElem?_eq_some_iff.1 h4).1).trans h4, h5⟩
/-- the segments decoded so far -/
def outsOf (xs : List (List UInt8)) (k : Nat) : List ByteArray := (xs.take k).map fun x => txt ((decoded x).getD [])
theorem outsOf_succ (xs : List (List UInt8)) (k : Nat) (h : k < xs.length) : outsOf xs (k + 1) = outsOf xs k ++ [txt ((decoded xs[k]).getD [])] := by
  unfold outsOf; rw [List.take_succ_eq_append_getElem h, List.map_append]; rfl
theorem outsOf_len (xs : List (List UInt8)) (k : Nat) : (outsOf xs k).length ≤ k := by unfold outsOf; simp; omega
theorem outsOf_all (xs : List (List UInt8)) : (outsOf xs xs.length).map (·.data.toList) = xs.map fun x => (decoded x).getD [] := by
  unfold outsOf; rw [List.take_length, List.map_map]; exact List.map_congr_left fun x _ => txt_data _

set_option maxRecDepth 100000 in
set_option maxHeartbeats 8000000 in
theorem rsegs_some (s : ByteArray) (p : List UInt8) (w : World) (hs : s.size ≤ 4294967270) (hn : normal s.data.toList = some p) : Calls Tryd.prog 17 #[.string s] w (RSegsIs s.data.toList w) := by
  have HN := Lib.hid (show textNum (normal s.data.toList) = .tuple #[.string (txt p), .int .i64 0] by rw [hn]; rfl)
  have HS := Lib.hid (show segsOut s.data.toList = (if 64 < (cuts 47 p.tail).length then (2, []) else (0, (cuts 47 p.tail).map fun x => (decoded x).getD [])) by unfold segsOut; rw [hn])
  have hpl := normal_len hn
  rw [len] at hpl
  obtain ⟨out, ho, ho1, _⟩ := normal_facts hn
  obtain ⟨t, ht⟩ : ∃ t, p = 47 :: t := by
    cases out with
    | nil => exact absurd rfl ho1
    | cons a l => exact ⟨_, by rw [ho, glue_cons]⟩
  subst ht
  rw [List.tail_cons] at HS
  have hpl2 : t.length + 1 ≤ s.size := by simpa using hpl
  clear hn ho ho1 hpl
  go_enter Tryd.func17, Tryd.ntmps17
  go_wp2_with fail
  refine (rnormal_calls _ _ hs).mono ?_
  rw [HN.out]
  rintro e w1 ⟨rfl, hb⟩
  go_wp2_with fail
  refine (rsegments_calls _ _ (by show (47 :: t).length ≤ _; simp; omega)).mono ?_
  rw [txt_data, behind_yes]
  rintro e w3 ⟨v, rfl, hsv, hb4⟩
  have hbw := Below.trans2 hb hb.size hb4
  clear hb4 hb
  rcases hsv with ⟨h, _⟩ | ⟨b, cap, rfl, hbl, hcv⟩
  · exact absurd h (cuts_ne 47 t)
  have HCV := Lib.hid hcv
  have HML := Lib.hid (cuts_mem_len 47 t)
  have hl0 := cuts_len 47 t
  clear hcv
  generalize cuts 47 t = xs at *
  by_cases h64 : xs.length ≤ 64
  · have HS2 := Lib.hid (show segsOut s.data.toList = (0, xs.map fun x => (decoded x).getD []) by rw [HS.out, if_neg (by omega)])
    go_wp2_with fail
    go_loopw [7, 8] (fun ov i wr => ∃ k : Nat, k ≤ xs.length ∧ i = .int .i64 k ∧ wr.ownsRow w3.heap.size 9 1 ov (outsOf xs k).length ((outsOf xs k).map Value.string) ∧ Below w3.heap.size w3 wr) (fun _ i _ => xs.length - (intOf i).toNat)
    case atStart => exact ⟨0, Nat.zero_le _, rfl, World.ownsRow_nil _ _ _ _, Below.refl _ _⟩
    case round =>
      obtain ⟨k, hk, rfl, hown, hbb⟩ := hrel
      have hz := hbb.size
      obtain ⟨i0, hi, hz0, hz1, hz2⟩ := info_parts info9
      by_cases hlt : k < xs.length
      · have hc := (hbb.cell (p := ⟨b, k, none⟩) hbl).trans (HCV.out k hlt)
        have hlk := HML.out xs[k] (List.getElem_mem hlt)
        obtain ⟨n, hn⟩ := textNum_parts (decoded xs[k])
        have HN2 := Lib.hid (show textNum (decoded (txt xs[k]).data.toList) = .tuple #[.string (txt ((decoded xs[k]).getD [])), .int .i64 n] by rw [txt_data]; exact hn)
        have HTK := Lib.hid (outsOf_succ xs k hlt)
        have hol := outsOf_len xs k
        clear hn
        go_wp2_with fail
        refine (rdecode_calls _ _ (by rw [txt_size]; omega)).mono ?_
        rw [HN2.out]
        rintro e w5 ⟨rfl, hb5⟩
        have hbb5 := Below.trans2 hbb hz hb5
        have hown5 := own_below hown hb5
        have hz5 := hbb5.size
        clear hb5
        go_wp2_with (at_builtin; refine wpList_append_own _ rfl _ _ 38 rfl w3.heap.size 9 i0 (.string ⟨#[]⟩) 1 16 Tryd.underlying38 hi hz0 hz1 hz2 rfl (by decide) _ _ _ rfl (hown5.alloc _) ⟨w5.heap.size, 0, none⟩ 1 1 [.string (txt ((decoded xs[k]).getD []))] rfl rfl (cell_one_new _ _ _) ?c2 ?c3 ?c4 ?c5 ?c6)
        case c2 => simp [Value.oneCell']
        case c3 => unfold maxLen; omega
        case c4 => omega
        case c5 => rw [World.size_alloc]; omega
        case c6 =>
          intro v' w6 hown6 hgrow6 _
          go_wp2_with fail
          have hbw6 := (hbb5.alloc hz5 _).grown hgrow6 (by rw [World.size_alloc]; omega) (fun k e => own_base hown5 k e)
          exact ⟨⟨k + 1, by omega, by go_num, by rw [HTK.out]; simpa using hown6, hbw6⟩, by simp [intOf]; omega⟩
      · go_wp2_with fail
        go_ret2
        obtain rfl : k = xs.length := by omega
        have HT := HS2.out
        refine ⟨_, ret_tuple (by rw [HT]; rfl), ?_, Below.trans2 hbw hbw.size hbb⟩
        rw [HT, ← outsOf_all]
        exact strs_of_row hown
  · go_wp2_with fail
    go_ret2
    have HS2 := HS.out
    rw [if_pos (by omega)] at HS2
    exact ⟨.slice none 0 0, ret_tuple (by rw [HS2]; rfl), .inl ⟨by rw [HS2], rfl⟩, hbw⟩
theorem rsegments2_calls (s : ByteArray) (w : World) (hs : s.size ≤ 4294967270) : Calls Tryd.prog 17 #[.string s] w (RSegsIs s.data.toList w) := by
  cases h : normal s.data.toList with
  | none => exact rsegs_none s w hs h
  | some p => exact rsegs_some s p w hs h
end Go.Proofs.YthobmfnmenbkeaaDoor
