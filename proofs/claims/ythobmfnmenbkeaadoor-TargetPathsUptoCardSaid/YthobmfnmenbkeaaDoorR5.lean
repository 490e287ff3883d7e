/- The reference's Normal, walked. -/
import Derived.Test.YthobmfnmenbkeaaDoorR3
import Derived.Test.YthobmfnmenbkeaaDoorW14
import Derived.Lib.AppendStr
set_option linter.unusedVariables false
set_option linter.unusedSimpArgs false
namespace Go.Proofs.YthobmfnmenbkeaaDoor
open Go.RowKit Tg

theorem bytesV_str (s : ByteArray) : Lib.strCells s = bytesV s.data.toList := rfl
theorem bytesV_app (a b : List UInt8) : bytesV a ++ bytesV b = bytesV (a ++ b) := by simp [bytesV]
theorem glue_take (l : List (List UInt8)) (k : Nat) (h : k < l.length) : glue (l.take (k + 1)) = glue (l.take k) ++ 47 :: l[k] := by
  rw [List.take_succ_eq_append_getElem h, glue_append]; simp [glue]
theorem glue_le (l : List (List UInt8)) (k : Nat) : (glue (l.take k)).length ≤ (glue l).length := by
  have h := congrArg (fun x => (glue x).length) (List.take_append_drop k l)
  rw [glue_append] at h; simp at h; omega

theorem rnormal_no (s : ByteArray) (w : World) (hs : s.size ≤ 140737488355328) (hp : isPath s.data.toList = false) : Calls Tryd.prog 15 #[.string s] w fun e w' => e = .returned (textNum (normal s.data.toList)) ∧ Below w.heap.size w w' := by
  have HN := Lib.hid (show normal s.data.toList = none by unfold normal segs; rw [hp]; rfl)
  have HP := Lib.hid hp
  clear hp
  go_enter Tryd.func15, Tryd.ntmps15
  go_wp2_with fail
  refine (rPath_calls _ _ hs).mono ?_
  rw [HP.out]
  rintro e w' ⟨rfl, hd⟩
  go_wp2_with fail
  go_ret2
  exact ⟨ret_tuple (by rw [HN.out]; rfl), below_of_dr hd _⟩

set_option maxRecDepth 100000 in
set_option maxHeartbeats 8000000 in
theorem rnormal_yes (s : ByteArray) (w : World) (hs : s.size ≤ 4294967270) (hp : isPath s.data.toList = true) : Calls Tryd.prog 15 #[.string s] w fun e w' => e = .returned (textNum (normal s.data.toList)) ∧ Below w.heap.size w w' := by
  have HP := Lib.hid hp
  obtain ⟨t, ht⟩ := path_head hp
  have hml := meant_len s.data.toList.length s.data.toList (Nat.le_refl _)
  rw [ht, len] at hml
  have htl : t.length + 1 ≤ s.size := by simpa using hml
  have HM := Lib.hid ht
  have HSG := Lib.hid (show segs s.data.toList = dots [] (cuts 47 t) by unfold segs; rw [if_pos hp, ht]; rfl)
  clear hp hml ht
  go_enter Tryd.func15, Tryd.ntmps15
  go_wp2_with fail
  refine (rPath_calls _ _ (by omega)).mono ?_
  rw [HP.out]
  rintro e w1 ⟨rfl, hd⟩
  have hb0 := below_of_dr hd w.heap.size
  clear hd
  go_wp2_with fail
  refine (rmeant_calls _ _ (by omega)).mono ?_
  rw [HM.out]
  rintro e w2 ⟨rfl, hb2⟩
  have hb3 := Below.trans2 hb0 hb0.size hb2
  clear hb2 hb0
  go_wp2_with fail
  refine (rsegments_calls _ _ (by show (47 :: t).length ≤ _; simp; omega)).mono ?_
  rw [txt_data, behind_yes]
  rintro e w3 ⟨v, rfl, hsv, hb4⟩
  have hbw := Below.trans2 hb3 hb3.size hb4
  clear hb4 hb3
  rcases hsv with ⟨h, _⟩ | ⟨b, cap, rfl, hbl, hcv⟩
  · exact absurd h (cuts_ne 47 t)
  obtain ⟨l, hl⟩ : ∃ l : List ByteArray, l = (cuts 47 t).map txt := ⟨_, rfl⟩
  have hl' : l.map (·.data.toList) = cuts 47 t := by
    rw [hl, List.map_map]; conv => rhs; rw [← List.map_id (cuts 47 t)]
    exact List.map_congr_left fun x _ => txt_data x
  have hll : l.length = (cuts 47 t).length := by rw [hl, List.length_map]
  have hlt0 := cuts_len 47 t
  have HCL := Lib.hid (show ∀ j (h : j < l.length), w3.cell? ⟨b, j, none⟩ = some (.string l[j]) by
    intro j h
    have := hcv j (by omega)
    rw [this]; simp [hl])
  have hln : l.length ≤ t.length + 1 := by omega
  have hl0 : 0 < l.length := by rw [hll]; exact List.length_pos_iff.2 (cuts_ne 47 t)
  rw [← hll]
  have HLL := Lib.hid hl'
  rw [← hl'] at HSG
  clear hl hl' hll hlt0 hcv
  go_wp2_with fail
  go_loopw [5, 6] (fun ov i wr => ∃ (k : Nat) (outs : List ByteArray), k ≤ l.length ∧ i = .int .i64 k ∧ wr.ownsRow w3.heap.size 9 1 ov outs.length (outs.map Value.string) ∧
        dots [] (l.map (·.data.toList)) = dots (outs.map (·.data.toList)) ((l.map (·.data.toList)).drop k) ∧ outs.length ≤ k ∧ Below w3.heap.size w3 wr) (fun _ i _ => l.length - (intOf i).toNat)
  case atStart => exact ⟨0, [], Nat.zero_le _, rfl, World.ownsRow_nil _ _ _ _, rfl, Nat.zero_le _, Below.refl _ _⟩
  case round =>
    obtain ⟨j, outs, hj, rfl, hown, hdt, hol, hbb⟩ := hrel
    have HDT := Lib.hid hdt
    clear hdt
    have hz4 := hbb.size
    have hz3 := hbw.size
    by_cases hjl : j < l.length
    · have hc := (hbb.cell (p := ⟨b, j, none⟩) hbl).trans (HCL.out j hjl)
      have HSD := Lib.hid (segs_drop l j hjl)
      obtain ⟨i0, hi, hz0, hz1, hz2⟩ := info_parts info9
      have hjs : j + 1 ≤ l.length := hjl
      by_cases h2 : l[j].data.toList = [46, 46]
      · have e2 := str_is h2
        have e1 : (l[j].toList == [46]) = false := str_not (by rw [h2]; simp)
        have H2 := Lib.hid h2
        clear h2
        rcases List.eq_nil_or_concat outs with rfl | ⟨init, x, hx⟩
        · obtain ⟨A, c, rfl⟩ := own_slice hown
          have HN := Lib.hid (show normal s.data.toList = none by
            unfold normal; rw [HSG.out, HDT.out, HSD.out, H2.out]; rfl)
          go_wp2_with fail
          go_ret2
          exact ⟨ret_tuple (by rw [HN.out]; rfl), Below.trans2 hbw hz3 hbb⟩
        · rw [List.concat_eq_append] at hx
          subst hx
          rw [List.length_append, List.length_singleton] at hown hol
          obtain ⟨g, cap2, rfl, hg1, hg2, hg3, hg4⟩ := own_form hown (by omega)
          rw [List.map_append] at hown
          have hpop := ownsRow_pop (by simp) hown
          have hne : (((init.length : Int) + 1) == 0) = false := by rw [beq_eq_false_iff_ne]; omega
          unfold maxLen at hg4
          have HD2 := Lib.hid (show ∀ t, t ≠ [] → dots ((init ++ [x]).map (·.data.toList)) ([46, 46] :: t) = dots (init.map (·.data.toList)) t by
            intro t ht; rw [List.map_append]; exact dots_two _ _ ht)
          have HD3 := Lib.hid (show dots ((init ++ [x]).map (·.data.toList)) [[46, 46]] = some (init.map (·.data.toList) ++ [[]]) by simp [dots])
          by_cases hlast : j + 1 = l.length
          · have hb : ((j : Int) == (l.length : Int) - 1) = true := by rw [beq_iff_eq]; omega
            have HLA := Lib.hid hlast
            clear hlast
            go_wp2_with (at_builtin; refine wpList_append_own _ rfl _ _ 38 rfl w3.heap.size 9 i0 (.string ⟨#[]⟩) 1 16 Tryd.underlying38 hi hz0 hz1 hz2 rfl (by decide) _ _ _ rfl (hpop.alloc _) ⟨wr.heap.size, 0, none⟩ 1 1 [.string ⟨#[]⟩] rfl rfl (cell_one_new _ _ _) ?c2 ?c3 ?c4 ?c5 ?c6)
            case c2 => simp [Value.oneCell']
            case c3 => unfold maxLen; omega
            case c4 => omega
            case c5 => omega
            case c6 =>
              intro v' w1 hown' hgrow hnil
              go_wp2_with fail
              have hbw1 := (hbb.alloc hz4 _).grown hgrow (by rw [World.size_alloc]; omega) (fun k e => own_base hpop k e)
              exact ⟨⟨j + 1, init ++ [⟨#[]⟩], by omega, by go_num, by simpa using hown', by rw [HDT.out, HSD.out, drop_last l j HLA.out, H2.out, HD3.out, dots_nil]; simp, by simp; omega, hbw1⟩, by simp [intOf]; omega⟩
          · have hb : ((j : Int) == (l.length : Int) - 1) = false := by rw [beq_eq_false_iff_ne]; omega
            have HLA := Lib.hid hlast
            clear hlast
            go_wp2_with fail
            exact ⟨⟨j + 1, init, by omega, by go_num, hpop, by rw [HDT.out, HSD.out, H2.out, HD2.out _ (drop_ne l j (by have := HLA.out; omega))], by omega, hbb⟩, by simp [intOf]; omega⟩
      · have e2 := str_not h2
        by_cases h1 : l[j].data.toList = [46]
        · have e1 := str_is h1
          have H1 := Lib.hid h1
          clear h1 h2
          by_cases hlast : j + 1 = l.length
          · have hb : ((j : Int) == (l.length : Int) - 1) = true := by rw [beq_iff_eq]; omega
            have HLA := Lib.hid hlast
            clear hlast
            go_wp2_with (at_builtin; refine wpList_append_own _ rfl _ _ 38 rfl w3.heap.size 9 i0 (.string ⟨#[]⟩) 1 16 Tryd.underlying38 hi hz0 hz1 hz2 rfl (by decide) _ _ _ rfl (hown.alloc _) ⟨wr.heap.size, 0, none⟩ 1 1 [.string ⟨#[]⟩] rfl rfl (cell_one_new _ _ _) ?c2 ?c3 ?c4 ?c5 ?c6)
            case c2 => simp [Value.oneCell']
            case c3 => unfold maxLen; omega
            case c4 => omega
            case c5 => omega
            case c6 =>
              intro v' w1 hown' hgrow hnil
              go_wp2_with fail
              have hbw1 := (hbb.alloc hz4 _).grown hgrow (by rw [World.size_alloc]; omega) (fun k e => own_base hown k e)
              exact ⟨⟨j + 1, outs ++ [⟨#[]⟩], by omega, by go_num, by simpa using hown', by rw [HDT.out, HSD.out, drop_last l j HLA.out, H1.out, dots_nil]; simp [dots], by simp; omega, hbw1⟩, by simp [intOf]; omega⟩
          · have hb : ((j : Int) == (l.length : Int) - 1) = false := by rw [beq_eq_false_iff_ne]; omega
            have HLA := Lib.hid hlast
            clear hlast
            go_wp2_with fail
            exact ⟨⟨j + 1, outs, by omega, by go_num, hown, by rw [HDT.out, HSD.out, H1.out, dots_one _ (drop_ne l j (by have := HLA.out; omega))], by omega, hbb⟩, by simp [intOf]; omega⟩
        · have e1 := str_not h1
          have HND := Lib.hid (show noDot l[j].data.toList from ⟨h1, h2⟩)
          clear h1 h2
          go_wp2_with (at_builtin; refine wpList_append_own _ rfl _ _ 38 rfl w3.heap.size 9 i0 (.string ⟨#[]⟩) 1 16 Tryd.underlying38 hi hz0 hz1 hz2 rfl (by decide) _ _ _ rfl (hown.alloc _) ⟨wr.heap.size, 0, none⟩ 1 1 [.string l[j]] rfl rfl (cell_one_new _ _ _) ?c2 ?c3 ?c4 ?c5 ?c6)
          case c2 => simp [Value.oneCell']
          case c3 => unfold maxLen; omega
          case c4 => omega
          case c5 => omega
          case c6 =>
            intro v' w1 hown' hgrow hnil
            go_wp2_with fail
            have hbw1 := (hbb.alloc hz4 _).grown hgrow (by rw [World.size_alloc]; omega) (fun k e => own_base hown k e)
            exact ⟨⟨j + 1, outs ++ [l[j]], by omega, by go_num, by simpa using hown', by rw [HDT.out, HSD.out, dots_plain HND.out]; simp, by simp; omega, hbw1⟩, by simp [intOf]; omega⟩
    · have hdf : dots [] (l.map (·.data.toList)) = some (outs.map (·.data.toList)) := by
        rw [HDT.out, List.drop_of_length_le (by simp; omega), dots_nil]
      have hne := dots_ne _ _ _ (.inl (fun h => by have := congrArg List.length h; rw [List.length_map, List.length_nil] at this; omega)) hdf
      have hol0 : 0 < outs.length := by
        cases outs with
        | nil => simp at hne
        | cons _ _ => simp
      have hgl := dots_len _ _ _ hdf
      rw [HLL.out, glue_cuts, glue_nil] at hgl
      simp only [List.length_nil, List.length_cons, Nat.zero_add] at hgl
      have HNO := Lib.hid (show normal s.data.toList = some (glue (outs.map (·.data.toList))) by unfold normal; rw [HSG.out, hdf]; rfl)
      obtain ⟨g, cap2, rfl, hg1, hg2, hg3, hg4⟩ := own_form hown hol0
      have HC2 := Lib.hid (show ∀ j (h : j < outs.length), wr.cell? ⟨g, j, none⟩ = some (.string outs[j]) by
        intro j h
        have := hown.cells (g := g) rfl j (.string outs[j]) (by simp [h])
        rwa [add_plain] at this)
      have hb5 := Below.trans2 hbw hz3 hbb
      clear hdf hne hol0 hown hbb
      obtain ⟨wo, rfl⟩ : ∃ wo : World, wo = wr := ⟨_, rfl⟩
      go_wp2_with fail
      go_loopw [8, 9] (fun bv i wq => ∃ k : Nat, k ≤ outs.length ∧ i = .int .i64 k ∧ wq.ownsRow wo.heap.size 5 1 bv (glue ((outs.map (·.data.toList)).take k)).length (bytesV (glue ((outs.map (·.data.toList)).take k))) ∧ Below wo.heap.size wo wq) (fun _ i _ => outs.length - (intOf i).toNat)
      case atStart => exact ⟨0, Nat.zero_le _, rfl, World.ownsRow_nil _ _ _ _, Below.refl _ _⟩
      case round =>
        obtain ⟨k, hk, rfl, hown, hbq⟩ := hrel
        have hzq := hbq.size
        obtain ⟨i0, hi, hz0, hz1, hz2⟩ := info_parts info5
        by_cases hko : k < outs.length
        · have hc := (hbq.cell (p := ⟨g, k, none⟩) hg2).trans (HC2.out k hko)
          have HGT := Lib.hid (glue_take (outs.map (·.data.toList)) k (by simpa using hko))
          have hle := glue_le (outs.map (·.data.toList)) (k + 1)
          rw [HGT.out] at hle
          simp only [List.length_append, List.length_cons, List.getElem_map] at hle
          rw [len] at hle
          go_wp2_with (at_builtin; refine wpList_append_own _ rfl _ _ 64 rfl wo.heap.size 5 i0 (.int .u8 0) 1 1 Tryd.underlying64 hi hz0 hz1 hz2 rfl (by decide) _ _ _ rfl (hown.alloc _) ⟨wr.heap.size, 0, none⟩ 1 1 [.int .u8 47] rfl rfl (cell_one_new _ _ _) ?c2 ?c3 ?c4 ?c5 ?c6)
          case c2 => simp [Value.oneCell']
          case c3 => unfold maxLen; omega
          case c4 => omega
          case c5 => omega
          case c6 =>
            intro v' w5 hown5 hgrow5 _
            have hbw5 := (hbq.alloc hzq _).grown hgrow5 (by rw [World.size_alloc]; omega) (fun k e => own_base hown k e)
            have hzw5 := hbw5.size
            have hc5 := (hbw5.cell (p := ⟨g, k, none⟩) hg2).trans (HC2.out k hko)
            go_wp2_with (at_builtin; refine Lib.wpList_append_own_string _ rfl _ _ 64 9 rfl wo.heap.size 5 i0 Tryd.underlying64 Tryd.underlying9 hi hz0 hz1 hz2 _ _ _ rfl hown5 _ rfl ?d3 ?d4 ?d5 ?d6)
            case d3 => unfold maxLen; omega
            case d4 => omega
            case d5 => omega
            case d6 =>
              intro v6 w6 hown6 hgrow6 _
              go_wp2_with fail
              have hbw6 := hbw5.grown hgrow6 (by omega) (fun k e => own_base hown5 k e)
              refine ⟨⟨k + 1, by omega, by go_num, ?_, hbw6⟩, by simp [intOf]; omega⟩
              rw [HGT.out]
              have e : bytesV (glue ((outs.map (·.data.toList)).take k)) ++ [.int .u8 47] ++ Lib.strCells outs[k] = bytesV (glue ((outs.map (·.data.toList)).take k) ++ 47 :: (outs.map (·.data.toList))[k]'(by simpa using hko)) := by
                rw [bytesV_str]; simp [bytesV]
              rw [← e]
              have e2 : (glue ((outs.map (·.data.toList)).take k) ++ 47 :: (outs.map (·.data.toList))[k]'(by simpa using hko)).length = (glue ((outs.map (·.data.toList)).take k)).length + 1 + outs[k].size := by
                simp; omega
              rw [e2]
              rw [List.append_assoc]; exact hown6
        · have HT := Lib.hid (show (outs.map (·.data.toList)).take k = outs.map (·.data.toList) from List.take_of_length_le (by simp; omega))
          rw [HT.out] at hown
          have hcv := str_of_row hown
          go_wp2_with fail
          go_ret2
          exact ⟨ret_tuple (by rw [HNO.out]; rfl), Below.trans2 hb5 hb5.size hbq⟩
end Go.Proofs.YthobmfnmenbkeaaDoor
