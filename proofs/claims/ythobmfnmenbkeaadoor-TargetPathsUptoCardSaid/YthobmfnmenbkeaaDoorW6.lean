/- The program's 'Normal', walked. -/
import Derived.Test.YthobmfnmenbkeaaDoorSplit
import Derived.Test.YthobmfnmenbkeaaDoorLaws2
import Derived.WalkSmall
import Derived.Maps.AppendAt
import Derived.Deep.AppendLies
import Derived.Deep.DeepCutAuto
set_option linter.unusedVariables false
set_option linter.unusedSimpArgs false
namespace Go.Proofs.YthobmfnmenbkeaaDoor
open Go.RowKit Tg

/-- the library's variable that the searches read holds some number -/
structure Rdy (w : World) : Prop where mk :: (out : ∃ m, w.cell? ⟨1, 0, none⟩ = some (.int .i64 m))
theorem Rdy.below {w w' : World} (h : Rdy w) (hb : Below w.heap.size w w') : Rdy w' := by
  obtain ⟨m, hm⟩ := h.out
  exact ⟨m, (hb.cell (p := ⟨1, 0, none⟩) (World.block_lt_of_cell? w _ hm)).trans hm⟩
theorem Rdy.lt {w : World} (h : Rdy w) : 1 < w.heap.size := by
  obtain ⟨m, hm⟩ := h.out
  exact World.block_lt_of_cell? w _ hm

theorem meant_none {c : UInt8} {r : List UInt8} (h : code (c :: r) = none) : meant (c :: r) = c :: meant r := by
  match r with
  | [] => simp [meant]
  | [x] => simp [meant]
  | x :: y :: r =>
    rw [code_cons] at h
    rw [meant]
    have : code [c, x, y] = none := by rw [code_cons]; exact h
    rw [this]
theorem mean_none (s : ByteArray) (k : Nat) (hk : k < s.size) (hc : code (s.data.toList.drop k) = none) : meant (s.data.toList.drop k) = s[k] :: meant (s.data.toList.drop (k + 1)) := by
  rw [drop_at s k hk] at hc ⊢
  exact meant_none hc
theorem code_37_of {l : List UInt8} {v : UInt8} (h : code l = some v) : ∃ r, l = 37 :: r := by
  match l, h with
  | p :: x :: y :: r, h =>
    rw [code_cons] at h
    split at h
    · rename_i e; subst e; exact ⟨_, rfl⟩
    · cases h
theorem mean_some (s : ByteArray) (k : Nat) {v : UInt8} (hk : k < s.size) (hc : code (s.data.toList.drop k) = some v) :
    k + 2 < s.size ∧ meant (s.data.toList.drop k) = (if unres v then [v] else coded v) ++ meant (s.data.toList.drop (k + 3)) := by
  have hp : s[k] = 37 := by
    obtain ⟨r, hr⟩ := code_37_of hc
    rw [drop_at s k hk] at hr
    exact (List.cons.inj hr).1
  have h2 := (made_some slash true s k hk hp hc).1
  refine ⟨h2, ?_⟩
  rw [drop3 s k h2, hp] at hc ⊢
  rw [code_cons, if_pos rfl] at hc
  rw [meant_code hc]

theorem path_head {l : List UInt8} (h : isPath l = true) : ∃ t, meant l = 47 :: t := by
  cases l with
  | nil => simp [isPath] at h
  | cons c r => simp [isPath] at h; obtain ⟨rfl, _⟩ := h; exact ⟨_, meant_byte (by decide) r⟩
theorem str_tail (t : List UInt8) : (⟨(47 :: t).toArray⟩ : ByteArray).extract 1 (t.length + 1) = ⟨t.toArray⟩ := by
  apply ByteArray.ext
  apply Array.ext'
  rw [Lib.extract_data]
  simp

theorem cuts_len (c : UInt8) : ∀ l : List UInt8, (cuts c l).length ≤ l.length + 1
  | [] => by simp [cuts]
  | x :: r => by
    have ih := cuts_len c r
    by_cases h : x = c
    · subst h; rw [cuts_cons_eq]; simp; exact ih
    · obtain ⟨hd, tl, e⟩ := cuts_form c r
      rw [e] at ih
      rw [cuts_cons_ne h e]; simp at ih ⊢; omega
theorem strs_cell (w : World) (l : List ByteArray) (j : Nat) (hj : j < l.length) : (w.alloc (.cells (l.map Value.string).toArray 9)).cell? ⟨w.heap.size, j, none⟩ = some (.string l[j]) := by
  rw [World.cell?_alloc_new]
  simp [hj]

theorem own_slice {w : World} {base n : Nat} {e : TypeId} {size : Nat} {v : Value} {xs : List Value} (h : w.ownsRow base e size v n xs) : ∃ A c, v = .slice A n c := by
  rcases h.2 with ⟨rfl, rfl⟩ | ⟨g, cap, cur, rfl, _⟩
  · exact ⟨none, 0, rfl⟩
  · exact ⟨_, cap, rfl⟩
theorem own_base {w : World} {base : Nat} {e : TypeId} {size n : Nat} {v : Value} {xs : List Value} (h : w.ownsRow base e size v n xs) (k : Nat) (hk : v.ownBlock = some k) : base ≤ k := by
  rcases h.2 with ⟨rfl, _⟩ | ⟨g, cap, cur, rfl, hb, _⟩
  · simp [Value.ownBlock] at hk
  · have : g = k := by simpa [Value.ownBlock] using hk
    omega
theorem own_form {w : World} {base n : Nat} {e : TypeId} {size : Nat} {v : Value} {xs : List Value} (h : w.ownsRow base e size v n xs) (hn : 0 < n) :
    ∃ g cap, v = .slice (some ⟨g, 0, none⟩) n cap ∧ base ≤ g ∧ g < w.heap.size ∧ n ≤ cap ∧ cap ≤ maxLen := by
  rcases h.2 with ⟨_, h0⟩ | ⟨g, cap, cur, rfl, hb, hh, h1, h2, _⟩
  · omega
  · exact ⟨g, cap, rfl, hb, (Array.getElem?_eq_some_iff.1 hh).1, h1, h2⟩
theorem info9 : (Tryd.prog.info? 9).map (fun i => (i.zero, i.size, i.bytes)) = some (some (.string ⟨#[]⟩), 1, 16) := by kernel_rfl
theorem str_is {s : ByteArray} {x : List UInt8} (h : s.data.toList = x) : (s.toList == x) = true := by rw [ByteArray.toList_eq, h]; simp
theorem str_not {s : ByteArray} {x : List UInt8} (h : ¬ s.data.toList = x) : (s.toList == x) = false := by rw [ByteArray.toList_eq]; simpa using h
theorem drop_last (l : List ByteArray) (j : Nat) (hj : j + 1 = l.length) : (l.map (·.data.toList)).drop (j + 1) = [] := List.drop_of_length_le (by simp; omega)
theorem drop_ne (l : List ByteArray) (j : Nat) (hj : j + 1 < l.length) : (l.map (·.data.toList)).drop (j + 1) ≠ [] := by
  intro h
  have := congrArg List.length h
  simp at this; omega
theorem join_glue (l : List (List UInt8)) (h : l ≠ []) : 47 :: Lib.join l [47] = glue l := by
  cases l with
  | nil => exact absurd rfl h
  | cons a r =>
    rw [Lib.join_cons, glue_cons, Lib.joinTail]
    congr 2
theorem str_cons (l : List UInt8) : (⟨#[47]⟩ ++ ⟨l.toArray⟩ : ByteArray) = ⟨(47 :: l).toArray⟩ := by
  apply ByteArray.ext
  apply Array.ext'
  simp
theorem add_plain (g j : Nat) : (⟨g, 0, none⟩ : Addr).add j = ⟨g, j, none⟩ := by unfold Addr.add; split <;> simp_all
theorem segs_drop (l : List ByteArray) (j : Nat) (hj : j < l.length) : (l.map (·.data.toList)).drop j = l[j].data.toList :: (l.map (·.data.toList)).drop (j + 1) := by
  rw [List.drop_eq_getElem_cons (by simpa using hj)]; simp

set_option maxHeartbeats 4000000 in
theorem normal_no (s : ByteArray) (w : World) (hs : s.size ≤ 140737488355328) (hp : isPath s.data.toList = false) : Calls Tryd.prog 14 #[.string s] w fun e w' => e = .returned (textOr (normal s.data.toList) 23) ∧ Below w.heap.size w w' := by
  have HN := Lib.hid (show normal s.data.toList = none by unfold normal segs; rw [hp]; rfl)
  have HP := Lib.hid hp
  clear hp
  go_enter Tryd.func14, Tryd.ntmps14
  go_wp2_with (first | (go_at_call 33; refine (isPath_calls _ _ hs).mono ?_; rw [HP.out]; rintro e w' ⟨rfl, rfl⟩))
  go_ret2
  exact ⟨ret_tuple (by rw [HN.out]; rfl), Below.refl _ _⟩

set_option maxRecDepth 100000 in
set_option maxHeartbeats 4000000 in
theorem normal_yes (s : ByteArray) (w : World) (hs : s.size ≤ 4294967280) (hr : Rdy w) (hp : isPath s.data.toList = true) : Calls Tryd.prog 14 #[.string s] w fun e w' => e = .returned (textOr (normal s.data.toList) 23) ∧ Below w.heap.size w w' := by
  have HP := Lib.hid hp
  clear hp
  have hs' : s.size ≤ 140737488355328 := by omega
  go_enter Tryd.func14, Tryd.ntmps14
  go_wp2_with (first | (go_at_call 33; refine (isPath_calls _ _ hs').mono ?_; rw [HP.out]; rintro e w' ⟨rfl, rfl⟩))
  have HB0 := Lib.hid (bld_new w)
  have HBL := Lib.hid (below_new w (.cells #[.pointer none, .slice none 0 0] 66))
  go_loopw [5] (fun i wr => ∃ (k : Nat) (pre : List UInt8), k ≤ s.size ∧ i = .int .i64 k ∧ pre.length ≤ k ∧ meant s.data.toList = pre ++ meant (s.data.toList.drop k) ∧ Bld w.heap.size w.heap.size pre wr ∧ Below w.heap.size w wr) (fun i _ => s.size - (intOf i).toNat)
  case atStart => exact ⟨0, [], Nat.zero_le _, rfl, Nat.zero_le _, by simp, HB0.out, HBL.out⟩
  case round =>
    obtain ⟨k, pre, hk, rfl, hpl, hno, hb, hbw⟩ := hrel
    have HNO := Lib.hid hno
    clear hno
    have hz := hbw.size
    by_cases hlt : k < s.size
    · cases hc : code (s.data.toList.drop k) with
      | none =>
        have HM := Lib.hid (mean_none s k hlt hc)
        have hcs : (code (s.data.toList.drop k)).isSome = false := by rw [hc]; rfl
        clear hc
        go_wp2_with (first | (go_at_call 39; refine (code_calls _ _ _ hs' hlt).mono ?_; rintro e w' ⟨rfl, rfl⟩) | (go_at_call 40; refine (bld_byte _ hb (by omega) hz).mono ?_; rintro e w' ⟨rfl, hb', hbl'⟩))
        exact ⟨⟨k + 1, pre ++ [s[k]], by omega, by go_num, by simp; omega, by rw [HNO.out, HM.out]; simp, hb', hbw.trans hbl'⟩, by simp [intOf]; omega⟩
      | some v =>
        obtain ⟨h2, hm⟩ := mean_some s k hlt hc
        have HM := Lib.hid hm
        have hcs : (code (s.data.toList.drop k)).isSome = true := by rw [hc]; rfl
        have HR := Lib.hid (code_raw hc)
        clear hc hm
        go_wp2_with fail
        refine (code_calls _ _ _ hs' hlt).mono ?_
        rintro e w' ⟨rfl, rfl⟩
        go_wp2_with fail
        refine (unreserved_calls _ _).mono ?_
        cases hu : unres v with
        | true =>
          rw [HR.out, hu]
          rintro e w' ⟨rfl, rfl⟩
          go_wp2_with fail
          refine (bld_byte _ hb (by omega) hz).mono ?_
          rintro e w' ⟨rfl, hb', hbl'⟩
          go_wp2_with fail
          exact ⟨⟨k + 3, pre ++ [v], by omega, by go_num, by simp; omega, by rw [HNO.out, HM.out, hu]; simp, hb', hbw.trans hbl'⟩, by simp [intOf]; omega⟩
        | false =>
          rw [HR.out, hu]
          rintro e w' ⟨rfl, rfl⟩
          go_wp2_with fail
          refine (coded_calls _ _).mono ?_
          rintro e w' ⟨rfl, hd⟩
          have hb1 := bld_dr hb hd
          have hz1 := (below_dr hbw hd).size
          go_wp2_with fail
          refine (bld_str _ hb1 (by show _ + (coded _).length ≤ _; simp [coded]; omega) hz1).mono ?_
          rintro e w' ⟨rfl, hb', hbl'⟩
          go_wp2_with fail
          exact ⟨⟨k + 3, pre ++ coded v, by omega, by go_num, by simp [coded]; omega, by rw [HNO.out, HM.out, hu]; simp, hb', (below_dr hbw hd).trans hbl'⟩, by simp [intOf]; omega⟩
    · have HM := Lib.hid (show meant s.data.toList = pre by rw [HNO.out, List.drop_of_length_le (by simp; omega), meant_nil, List.append_nil])
      obtain ⟨t, ht⟩ := path_head HP.out
      obtain rfl : pre = 47 :: t := by rw [← HM.out]; exact ht
      have ht1 : t.length + 1 ≤ k := by simpa using hpl
      have HX := Lib.hid (str_tail t)
      clear HNO hpl ht
      go_wp2_with fail
      refine (bld_done hb hz).mono ?_
      rintro e w2 ⟨rfl, hbl'⟩
      have hbw2 := hbw.trans hbl'
      have hr2 := (hr.below hbw2).out
      go_wp2_with fail
      rw [HX.out]
      refine (split_calls _ 47 _ (by show t.length < _; omega) hr2).mono ?_
      rintro e w3 ⟨l, hl, rfl, rfl⟩
      have hl' : l.map (·.data.toList) = cuts 47 t := hl
      have HLL := Lib.hid hl'
      have hll : l.length ≤ t.length + 1 := by
        have h1 := congrArg List.length hl'
        rw [List.length_map] at h1
        rw [h1]; exact cuts_len 47 t
      have hl0 : 0 < l.length := by
        have h1 := congrArg List.length hl'
        rw [List.length_map] at h1
        rw [h1]; exact List.length_pos_iff.2 (cuts_ne 47 t)
      have HSG := Lib.hid (show segs s.data.toList = dots [] (l.map (·.data.toList)) by
        unfold segs; rw [if_pos HP.out, HM.out, HLL.out]; rfl)
      have hcl := fun j (hj : j < l.length) => strs_cell w2 l j hj
      obtain ⟨wb, hwb⟩ : ∃ wb, wb = w2.alloc (.cells (l.map Value.string).toArray 9) := ⟨_, rfl⟩
      have hbw3 : Below w.heap.size w wb := by rw [hwb]; exact hbw2.alloc hbw2.size _
      have hlt3 : w2.heap.size < wb.heap.size := by rw [hwb]; simp
      rw [← hwb] at hcl ⊢
      have HCL := Lib.hid hcl
      clear hl hl' hcl hwb
      go_wp2_with fail
      go_loopw [9, 51] (fun ov i wr => ∃ (k : Nat) (outs : List ByteArray), k ≤ l.length ∧ i = .int .i64 k ∧ wr.ownsRow wb.heap.size 9 1 ov outs.length (outs.map Value.string) ∧
        dots [] (l.map (·.data.toList)) = dots (outs.map (·.data.toList)) ((l.map (·.data.toList)).drop k) ∧ outs.length ≤ k ∧ Below wb.heap.size wb wr) (fun _ i _ => l.length - (intOf i).toNat)
      case atStart => exact ⟨0, [], Nat.zero_le _, rfl, World.ownsRow_nil _ _ _ _, rfl, Nat.zero_le _, Below.refl _ _⟩
      case round =>
        obtain ⟨j, outs, hj, rfl, hown, hdt, hol, hbb⟩ := hrel
        have HDT := Lib.hid hdt
        clear hdt
        have hz4 := hbb.size
        have hz3 := hbw3.size
        by_cases hjl : j < l.length
        · have hc := (hbb.cell (p := ⟨w2.heap.size, j, none⟩) hlt3).trans (HCL.out j hjl)
          have HSD := Lib.hid (segs_drop l j hjl)
          obtain ⟨i0, hi, hz0, hz1, hz2⟩ := info_parts info9
          have hjs : j + 1 ≤ l.length := hjl
          by_cases h2 : l[j].data.toList = [46, 46]
          · have e2 := str_is h2
            have H2 := Lib.hid h2
            clear h2
            rcases List.eq_nil_or_concat outs with rfl | ⟨init, x, hx⟩
            · obtain ⟨A, c, rfl⟩ := own_slice hown
              have HN := Lib.hid (show normal s.data.toList = none by
                unfold normal; rw [HSG.out, HDT.out, HSD.out, H2.out]; rfl)
              go_wp2_with fail
              go_ret2
              exact ⟨ret_tuple (by rw [HN.out]; rfl), hbw3.trans ⟨hbb.os, hbb.tape, hbb.output, hbb.size, fun i hi => hbb.block i (by omega)⟩⟩
            · rw [List.concat_eq_append] at hx
              subst hx
              rw [List.length_append, List.length_singleton] at hown hol
              obtain ⟨g, cap, rfl, hg1, hg2, hg3, hg4⟩ := own_form hown (by omega)
              rw [List.map_append] at hown
              have hpop := ownsRow_pop (by simp) hown
              have hne : (((init.length : Int) + 1) == 0) = false := by rw [beq_eq_false_iff_ne]; omega
              unfold maxLen at hg4
              have HD2 := Lib.hid (show ∀ t, t ≠ [] → dots ((init ++ [x]).map (·.data.toList)) ([46, 46] :: t) = dots (init.map (·.data.toList)) t by
                intro t ht; rw [List.map_append]; exact dots_two _ _ ht)
              have HD3 := Lib.hid (show dots ((init ++ [x]).map (·.data.toList)) [[46, 46]] = some (init.map (·.data.toList) ++ [[]]) by simp [dots])
              by_cases hlast : j + 1 = l.length
              · have hb : ((j : Int) == (l.length : Int) - 1) = true := by rw [beq_iff_eq]; omega
                have HLA := Lib.hid hlast
                clear hlast
                go_wp2_with (at_builtin; refine wpList_append_own _ rfl _ _ 38 rfl wb.heap.size 9 i0 (.string ⟨#[]⟩) 1 16 Tryd.underlying38 hi hz0 hz1 hz2 rfl (by decide) _ _ _ rfl (hpop.alloc _) ⟨wr.heap.size, 0, none⟩ 1 1 [.string ⟨#[]⟩] rfl rfl (cell_one_new _ _ _) ?c2 ?c3 ?c4 ?c5 ?c6)
                case c2 => simp [Value.oneCell']
                case c3 => unfold maxLen; omega
                case c4 => omega
                case c5 => omega
                case c6 =>
                  intro v' w1 hown' hgrow hnil
                  go_wp2_with fail
                  have hbw1 := (hbb.alloc hz4 _).grown hgrow (by rw [World.size_alloc]; omega) (fun k e => own_base hpop k e)
                  exact ⟨⟨j + 1, init ++ [⟨#[]⟩], by omega, by go_num, by simpa using hown', by rw [HDT.out, HSD.out, drop_last l j HLA.out, H2.out, HD3.out, dots_nil]; simp, by simp; omega, hbw1⟩, by simp [intOf]; omega⟩
              · have hb : ((j : Int) == (l.length : Int) - 1) = false := by rw [beq_eq_false_iff_ne]; omega
                have HLA := Lib.hid hlast
                clear hlast
                go_wp2_with fail
                exact ⟨⟨j + 1, init, by omega, by go_num, hpop, by rw [HDT.out, HSD.out, H2.out, HD2.out _ (drop_ne l j (by have := HLA.out; omega))], by omega, hbb⟩, by simp [intOf]; omega⟩
          · have e2 := str_not h2
            by_cases h1 : l[j].data.toList = [46]
            · have e1 := str_is h1
              have H1 := Lib.hid h1
              clear h1 h2
              by_cases hlast : j + 1 = l.length
              · have hb : ((j : Int) == (l.length : Int) - 1) = true := by rw [beq_iff_eq]; omega
                have HLA := Lib.hid hlast
                clear hlast
                go_wp2_with (at_builtin; refine wpList_append_own _ rfl _ _ 38 rfl wb.heap.size 9 i0 (.string ⟨#[]⟩) 1 16 Tryd.underlying38 hi hz0 hz1 hz2 rfl (by decide) _ _ _ rfl (hown.alloc _) ⟨wr.heap.size, 0, none⟩ 1 1 [.string ⟨#[]⟩] rfl rfl (cell_one_new _ _ _) ?c2 ?c3 ?c4 ?c5 ?c6)
                case c2 => simp [Value.oneCell']
                case c3 => unfold maxLen; omega
                case c4 => omega
                case c5 => omega
                case c6 =>
                  intro v' w1 hown' hgrow hnil
                  go_wp2_with fail
                  have hbw1 := (hbb.alloc hz4 _).grown hgrow (by rw [World.size_alloc]; omega) (fun k e => own_base hown k e)
                  exact ⟨⟨j + 1, outs ++ [⟨#[]⟩], by omega, by go_num, by simpa using hown', by rw [HDT.out, HSD.out, drop_last l j HLA.out, H1.out, dots_nil]; simp [dots], by simp; omega, hbw1⟩, by simp [intOf]; omega⟩
              · have hb : ((j : Int) == (l.length : Int) - 1) = false := by rw [beq_eq_false_iff_ne]; omega
                have HLA := Lib.hid hlast
                clear hlast
                go_wp2_with fail
                exact ⟨⟨j + 1, outs, by omega, by go_num, hown, by rw [HDT.out, HSD.out, H1.out, dots_one _ (drop_ne l j (by have := HLA.out; omega))], by omega, hbb⟩, by simp [intOf]; omega⟩
            · have e1 := str_not h1
              have HND := Lib.hid (show noDot l[j].data.toList from ⟨h1, h2⟩)
              clear h1 h2
              go_wp2_with (at_builtin; refine wpList_append_own _ rfl _ _ 38 rfl wb.heap.size 9 i0 (.string ⟨#[]⟩) 1 16 Tryd.underlying38 hi hz0 hz1 hz2 rfl (by decide) _ _ _ rfl (hown.alloc _) ⟨wr.heap.size, 0, none⟩ 1 1 [.string l[j]] rfl rfl (cell_one_new _ _ _) ?c2 ?c3 ?c4 ?c5 ?c6)
              case c2 => simp [Value.oneCell']
              case c3 => unfold maxLen; omega
              case c4 => omega
              case c5 => omega
              case c6 =>
                intro v' w1 hown' hgrow hnil
                go_wp2_with fail
                have hbw1 := (hbb.alloc hz4 _).grown hgrow (by rw [World.size_alloc]; omega) (fun k e => own_base hown k e)
                exact ⟨⟨j + 1, outs ++ [l[j]], by omega, by go_num, by simpa using hown', by rw [HDT.out, HSD.out, dots_plain HND.out]; simp, by simp; omega, hbw1⟩, by simp [intOf]; omega⟩
        · have hdf : dots [] (l.map (·.data.toList)) = some (outs.map (·.data.toList)) := by
            rw [HDT.out, List.drop_of_length_le (by simp; omega), dots_nil]
          have hne := dots_ne _ _ _ (.inl (fun h => by have := congrArg List.length h; rw [List.length_map, List.length_nil] at this; omega)) hdf
          have hol0 : 0 < outs.length := by
            cases outs with
            | nil => simp at hne
            | cons _ _ => simp
          have hgl := dots_len _ _ _ hdf
          rw [HLL.out, glue_cuts, glue_nil] at hgl
          simp only [List.length_nil, List.length_cons, Nat.zero_add] at hgl
          have HJ := Lib.hid (join_glue _ hne)
          have hjl2 : (Lib.join (outs.map (·.data.toList)) [47]).length + 1 = (glue (outs.map (·.data.toList))).length := by rw [← HJ.out]; rfl
          have HNO := Lib.hid (show normal s.data.toList = some (glue (outs.map (·.data.toList))) by unfold normal; rw [HSG.out, hdf]; rfl)
          obtain ⟨g, cap, rfl, hg1, hg2, hg3, hg4⟩ := own_form hown hol0
          clear hdf hne hol0
          go_wp2_with fail
          refine (Tryd.strings_Join g 0 cap outs ⟨#[47]⟩ _ (fun j x hx => ?_) hg2 (by omega) hg3 (by show (Lib.join (outs.map (·.data.toList)) [47]).length ≤ _; omega)).mono ?_
          · have := hown.cells (g := g) rfl j (.string x) (by simp [hx])
            rw [add_plain] at this; rw [Nat.zero_add]; exact this
          · rintro e w5 ⟨rfl, hb5⟩
            go_wp2_with fail
            go_ret2
            have hb6 := hbb.trans ⟨hb5.os, hb5.tape, hb5.output, hb5.size, fun i hi => hb5.block i (by omega)⟩
            refine ⟨ret_tuple ?_, hbw3.trans ⟨hb6.os, hb6.tape, hb6.output, hb6.size, fun i hi => hb6.block i (by omega)⟩⟩
            rw [HNO.out]
            show Value.tuple #[.string (⟨#[47]⟩ ++ ⟨(Lib.join (outs.map (·.data.toList)) [47]).toArray⟩), .nilIface] = .tuple #[.string ⟨(glue (outs.map (·.data.toList))).toArray⟩, .nilIface]
            rw [← HJ.out, str_cons]
end Go.Proofs.YthobmfnmenbkeaaDoor
