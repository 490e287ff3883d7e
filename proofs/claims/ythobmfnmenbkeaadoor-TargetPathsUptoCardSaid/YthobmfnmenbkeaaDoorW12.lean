/- The program's 'Segments', walked; and how a list of texts lies in memory. -/
import Derived.Test.YthobmfnmenbkeaaDoorW8
set_option linter.unusedVariables false
set_option linter.unusedSimpArgs false
namespace Go.Proofs.YthobmfnmenbkeaaDoor
open Go.RowKit Tg

theorem normal_calls (s : ByteArray) (w : World) (hs : s.size ≤ 4294967280) (hr : Rdy w) : Calls Tryd.prog 14 #[.string s] w fun e w' => e = .returned (textOr (normal s.data.toList) 23) ∧ Below w.heap.size w w' := by
  cases h : isPath s.data.toList with
  | false => exact normal_no s w (by omega) h
  | true => exact normal_yes s w hs hr h

/-- a list of texts, as it lies in memory -/
def StrsAt (w : World) (v : Value) (xs : List (List UInt8)) : Prop :=
  (xs = [] ∧ v = .slice none 0 0) ∨ ∃ b cap, v = .slice (some ⟨b, 0, none⟩) xs.length cap ∧ b < w.heap.size ∧ ∀ j (h : j < xs.length), w.cell? ⟨b, j, none⟩ = some (.string (txt xs[j]))
theorem StrsAt.below {w w' : World} {v : Value} {xs : List (List UInt8)} (h : StrsAt w v xs) (hb : Below w.heap.size w w') : StrsAt w' v xs := by
  rcases h with h | ⟨b, cap, h1, h2, h3⟩
  · exact .inl h
  · exact .inr ⟨b, cap, h1, Nat.lt_of_lt_of_le h2 hb.size, fun j hj => (hb.cell (p := ⟨b, j, none⟩) h2).trans (h3 j hj)⟩

/-- the segments of a path, decoded; or an error's number -/
def segsOut (l : List UInt8) : Int × List (List UInt8) := match normal l with
  | none => (23, [])
  | some p => if 64 < (cuts 47 p.tail).length then (2, []) else (0, (cuts 47 p.tail).map fun x => (decoded x).getD [])
def SegsIs (l : List UInt8) (w : World) (e : Ending) (w' : World) : Prop := ∃ v, e = .returned (.tuple #[v, errV (segsOut l).1]) ∧ StrsAt w' v (segsOut l).2 ∧ Below w.heap.size w w'

theorem meant_len : ∀ (n : Nat) (l : List UInt8), l.length ≤ n → (meant l).length ≤ l.length := by
  intro n
  induction n with
  | zero => intro l hl; obtain rfl : l = [] := List.eq_nil_of_length_eq_zero (by omega); simp [meant]
  | succ n ih =>
    intro l hl
    match l with
    | [] => simp [meant]
    | c :: r =>
      cases hc : code (c :: r) with
      | none =>
        rw [meant_none hc]
        have := ih r (by simp at hl; omega)
        simp; omega
      | some v =>
        obtain ⟨q, hq⟩ := code_37_of hc
        simp only [List.cons.injEq] at hq
        obtain ⟨rfl, rfl⟩ := hq
        match r, hc, hl with
        | [], hc, _ => simp [code] at hc
        | [x], hc, _ => simp [code] at hc
        | x :: y :: q, hc, hl =>
          rw [code_cons, if_pos rfl] at hc
          rw [meant_code hc]
          have := ih q (by simp at hl; omega)
          have h3 : (if unres v then [v] else coded v).length ≤ 3 := by split <;> simp [coded]
          simp at h3 ⊢; omega
theorem normal_len {l p : List UInt8} (h : normal l = some p) : p.length ≤ l.length := by
  unfold normal segs at h
  by_cases hp : isPath l = true
  · rw [if_pos hp] at h
    obtain ⟨t, ht⟩ := path_head hp
    rw [ht, List.tail_cons] at h
    cases hd : dots [] (cuts 47 t) with
    | none => rw [hd] at h; cases h
    | some out =>
      rw [hd] at h
      simp only [Option.map_some, Option.some.injEq] at h
      have h1 := dots_len _ _ _ hd
      rw [glue_cuts, glue_nil, h] at h1
      have h2 := meant_len l.length l (Nat.le_refl _)
      rw [ht] at h2
      simp at h1 h2; omega
  · rw [if_neg hp] at h; cases h

theorem segs_none (s : ByteArray) (w : World) (hs : s.size ≤ 4294967280) (hr : Rdy w) (hn : normal s.data.toList = none) : Calls Tryd.prog 16 #[.string s] w (SegsIs s.data.toList w) := by
  have HS := Lib.hid (show segsOut s.data.toList = (23, []) by unfold segsOut; rw [hn])
  have HN := Lib.hid (show textOr (normal s.data.toList) 23 = .tuple #[.string ⟨#[]⟩, .iface 56 (.int .i64 23)] by rw [hn]; rfl)
  clear hn
  go_enter Tryd.func16, Tryd.ntmps16
  go_wp2_with fail
  refine (normal_calls _ _ hs hr).mono ?_
  rw [HN.out]
  rintro e w1 ⟨rfl, hb⟩
  go_wp2_with fail
  go_ret2
  exact ⟨.slice none 0 0, ret_tuple (by rw [HS.out]; rfl), .inl ⟨by rw [HS.out], rfl⟩, hb⟩

theorem cuts_mem_len (c : UInt8) : ∀ (l x : List UInt8), x ∈ cuts c l → x.length ≤ l.length
  | [], x, h => by simp [cuts] at h; subst h; simp
  | y :: r, x, h => by
    by_cases hy : y = c
    · subst hy; rw [cuts_cons_eq] at h
      rcases List.mem_cons.1 h with rfl | h
      · simp
      · have := cuts_mem_len y r x h; simp; omega
    · obtain ⟨hd, tl, e⟩ := cuts_form c r
      rw [cuts_cons_ne hy e] at h
      rcases List.mem_cons.1 h with rfl | h
      · have := cuts_mem_len c r hd (by rw [e]; simp); simp; omega
      · have := cuts_mem_len c r x (by rw [e]; simp [h]); simp; omega
theorem cells_at (w : World) (b : Nat) (c : Array Value) (t : TypeId) (h : w.heap[b]? = some (.cells c t (0, 0))) (j : Nat) : w.cell? ⟨b, j, none⟩ = c[j]? ∧ w.frozen? ⟨b, j, none⟩ = false := by
  constructor
  · simp [World.cell?, h]
  · simp [World.frozen?, h]
/-- the texts decoded so far, and the rest -/
def half (l : List ByteArray) (j : Nat) : Array Value := ((l.take j).map (fun x => Value.string (txt ((decoded x.data.toList).getD []))) ++ (l.drop j).map Value.string).toArray
theorem half_size (l : List ByteArray) (j : Nat) (hj : j ≤ l.length) : (half l j).size = l.length := by simp [half]; omega
theorem half_at (l : List ByteArray) (j : Nat) (hj : j < l.length) : (half l j)[j]? = some (.string l[j]) := by
  simp [half, List.getElem?_append, hj, Nat.min_eq_left (Nat.le_of_lt hj)]
theorem half_set (l : List ByteArray) (j : Nat) (hj : j < l.length) : (half l j).setIfInBounds j (.string (txt ((decoded l[j].data.toList).getD []))) = half l (j + 1) := by
  unfold half
  rw [List.setIfInBounds_toArray]
  congr 1
  rw [List.drop_eq_getElem_cons hj, List.map_cons, List.take_succ_eq_append_getElem hj, List.map_append]
  rw [List.set_append_right _ _ (by simp; omega)]
  simp [Nat.min_eq_left (Nat.le_of_lt hj)]
theorem textOr_parts (o : Option (List UInt8)) : ∃ v, textOr o 23 = .tuple #[.string (txt (o.getD [])), v] := by
  cases o with
  | none => exact ⟨_, rfl⟩
  | some d => exact ⟨_, rfl⟩

set_option maxRecDepth 100000 in
set_option maxHeartbeats 4000000 in
theorem segs_some (s : ByteArray) (p : List UInt8) (w : World) (hs : s.size ≤ 4294967280) (hr : Rdy w) (hn : normal s.data.toList = some p) : Calls Tryd.prog 16 #[.string s] w (SegsIs s.data.toList w) := by
  have HN := Lib.hid (show textOr (normal s.data.toList) 23 = .tuple #[.string (txt p), .nilIface] by rw [hn]; rfl)
  have HS := Lib.hid (show segsOut s.data.toList = (if 64 < (cuts 47 p.tail).length then (2, []) else (0, (cuts 47 p.tail).map fun x => (decoded x).getD [])) by unfold segsOut; rw [hn])
  have hpl := normal_len hn
  rw [len] at hpl
  obtain ⟨out, ho, ho1, _⟩ := normal_facts hn
  obtain ⟨t, ht⟩ : ∃ t, p = 47 :: t := by
    cases out with
    | nil => exact absurd rfl ho1
    | cons a l => exact ⟨_, by rw [ho, glue_cons]⟩
  subst ht
  rw [List.tail_cons] at HS
  have hpl2 : t.length + 1 ≤ s.size := by simpa using hpl
  have HX := Lib.hid (str_tail t)
  clear hn ho ho1 hpl
  go_enter Tryd.func16, Tryd.ntmps16
  go_wp2_with fail
  refine (normal_calls _ _ hs hr).mono ?_
  rw [HN.out]
  rintro e w1 ⟨rfl, hb⟩
  have hr2 := (hr.below hb).out
  go_wp2_with fail
  rw [HX.out]
  refine (split_calls _ 47 _ (by show t.length < _; omega) hr2).mono ?_
  rintro e w3 ⟨l, hl, rfl, rfl⟩
  have hl' : l.map (·.data.toList) = cuts 47 t := hl
  have HLL := Lib.hid hl'
  have hll : l.length = (cuts 47 t).length := by rw [← hl', List.length_map]
  have HLN := Lib.hid hll
  have HBK := Lib.hid (show (w1.alloc (.cells (l.map Value.string).toArray 9)).heap[w1.heap.size]? = some (.cells (half l 0) 9 (0, 0)) by
    show (w1.heap.push _)[w1.heap.size]? = _
    rw [Array.getElem?_push, if_pos rfl]; simp [half])
  have hb3 := Lib.hid (hb.alloc hb.size (.cells (l.map Value.string).toArray 9))
  obtain ⟨wb, hwb⟩ : ∃ wb, wb = w1.alloc (.cells (l.map Value.string).toArray 9) := ⟨_, rfl⟩
  rw [← hwb] at HBK hb3 ⊢
  have hzb : w1.heap.size < wb.heap.size := (Array.getElem?_eq_some_iff.1 HBK.out).1
  have hzw := hb.size
  clear hl hl' hll hwb hb
  by_cases h64 : l.length ≤ 64
  · have HS2 := Lib.hid (show segsOut s.data.toList = (0, (cuts 47 t).map fun x => (decoded x).getD []) by rw [HS.out, if_neg (by rw [← HLN.out]; omega)])
    go_wp2_with fail
    go_loopw [25] (fun i wr => ∃ k : Nat, k ≤ l.length ∧ i = .int .i64 k ∧ wr.heap[w1.heap.size]? = some (.cells (half l k) 9 (0, 0)) ∧ Below w.heap.size w wr) (fun i _ => l.length - (intOf i).toNat)
    case atStart => exact ⟨0, Nat.zero_le _, rfl, HBK.out, hb3.out⟩
    case round =>
      obtain ⟨k, hk, rfl, hbk, hbw⟩ := hrel
      have HB := Lib.hid hbk
      have hlt2 := (Array.getElem?_eq_some_iff.1 hbk).1
      clear hbk
      by_cases hlt : k < l.length
      · have hc1 := (cells_at _ _ _ _ HB.out k).1.trans (half_at l k hlt)
        have hlk : (l[k]).size ≤ 140737488355328 := by
          have hm : l[k].data.toList ∈ cuts 47 t := by rw [← HLL.out]; exact List.mem_map.2 ⟨_, List.getElem_mem hlt, rfl⟩
          have := cuts_mem_len 47 t _ hm
          rw [len] at this; omega
        have HST := Lib.hid (half_set l k hlt)
        obtain ⟨v, hv⟩ := textOr_parts (decoded l[k].data.toList)
        have HV := Lib.hid hv
        clear hv
        go_wp2_with fail
        refine (decode_calls _ _ hlk).mono ?_
        rw [HV.out]
        rintro e w5 ⟨rfl, hb5⟩
        have hbk5 := (hb5.block w1.heap.size hlt2).trans HB.out
        have HB5 := Lib.hid hbk5
        have hc5 := (cells_at _ _ _ _ hbk5 k).1.trans (half_at l k hlt)
        have hf5 := (cells_at _ _ _ _ hbk5 k).2
        have hbw5 := Lib.hid (show Below w.heap.size w w5 from hbw.trans ⟨hb5.os, hb5.tape, hb5.output, hb5.size, fun i hi => hb5.block i (by have := hbw.size; omega)⟩)
        clear hbk5 hb5
        go_wp2_with fail
        refine ⟨⟨k + 1, by omega, by go_num, ?_, hbw5.out.setCell (p := ⟨w1.heap.size, k, none⟩) hzw _⟩, by simp [intOf]; omega⟩
        rw [Go.heap_setCell_same _ _ _ _ _ _ HB5.out, HST.out]
      · go_wp2_with fail
        go_ret2
        have HT := HS2.out
        have e1 : half l k = ((cuts 47 t).map fun x => Value.string (txt ((decoded x).getD []))).toArray := by
          unfold half
          rw [List.take_of_length_le (by omega), List.drop_of_length_le (by omega), ← HLL.out]; simp
        refine ⟨.slice (some ⟨w1.heap.size, 0, none⟩) l.length l.length, ret_tuple (by rw [HT]; rfl), ?_, hbw⟩
        rw [HT]
        refine .inr ⟨w1.heap.size, l.length, by simp [HLN.out], hlt2, fun j hj => ?_⟩
        rw [(cells_at _ _ _ _ HB.out j).1, e1]
        simp at hj
        simp [hj]
  · go_wp2_with fail
    go_ret2
    have HS2 := HS.out
    rw [if_pos (by rw [← HLN.out]; omega)] at HS2
    exact ⟨.slice none 0 0, ret_tuple (by rw [HS2]; rfl), .inl ⟨by rw [HS2], rfl⟩, hb3.out⟩

theorem segments_calls (s : ByteArray) (w : World) (hs : s.size ≤ 4294967280) (hr : Rdy w) : Calls Tryd.prog 16 #[.string s] w (SegsIs s.data.toList w) := by
  cases h : normal s.data.toList with
  | none => exact segs_none s w hs hr h
  | some p => exact segs_some s p w hs hr h
end Go.Proofs.YthobmfnmenbkeaaDoor
