/- The program's 'Parse' at a target with a host, walked; and at every target whose letters are asked of the two calls. -/
import Derived.Test.YthobmfnmenbkeaaDoorW9
set_option linter.unusedVariables false
set_option linter.unusedSimpArgs false
namespace Go.Proofs.YthobmfnmenbkeaaDoor
open Go.RowKit Tg

/-- the two blocks of 'Parse': the result's, and the target's -/
structure Two (R : Nat) (f : Int) (h p q : ByteArray) (b : Bool) (w : World) : Prop where
  res : w.heap[R]? = some (.cells #[.int .i64 0, .string ⟨#[]⟩, .string ⟨#[]⟩, .string ⟨#[]⟩, .bool false] 23 (0, 0))
  tgt : w.heap[R + 1]? = some (.cells #[.int .i64 f, .string h, .string p, .string q, .bool b] 23 (0, 0))
section
variable {R : Nat} {f : Int} {h p q : ByteArray} {b : Bool} {w w' : World}
theorem Two.lt (t : Two R f h p q b w) : R + 1 < w.heap.size := (Array.getElem?_eq_some_iff.1 t.tgt).1
theorem Two.below (t : Two R f h p q b w) (hb : Below w.heap.size w w') : Two R f h p q b w' :=
  ⟨(hb.block R (by have := t.lt; omega)).trans t.res, (hb.block (R + 1) t.lt).trans t.tgt⟩
theorem Two.dr (t : Two R f h p q b w) (d : Dr w w') : Two R f h p q b w' := by obtain ⟨n, rfl⟩ := d; exact ⟨t.res, t.tgt⟩
theorem Two.put0 (t : Two R f h p q b w) (f' : Int) : Two R f' h p q b (w.setCell ⟨R + 1, 0, none⟩ (.int .i64 f')) :=
  ⟨(heap_setCell_other w _ _ _ (by simp)).trans t.res, by rw [heap_setCell_same w _ _ _ _ _ t.tgt]; rfl⟩
theorem Two.put1 (t : Two R f h p q b w) (h' : ByteArray) : Two R f h' p q b (w.setCell ⟨R + 1, 1, none⟩ (.string h')) :=
  ⟨(heap_setCell_other w _ _ _ (by simp)).trans t.res, by rw [heap_setCell_same w _ _ _ _ _ t.tgt]; rfl⟩
theorem Two.rs (t : Two R f h p q b w) : w.cell? ⟨R, 0, none⟩ = some (.int .i64 0) ∧ w.cell? ⟨R, 1, none⟩ = some (.string ⟨#[]⟩) ∧ w.cell? ⟨R, 2, none⟩ = some (.string ⟨#[]⟩) ∧ w.cell? ⟨R, 3, none⟩ = some (.string ⟨#[]⟩) ∧ w.cell? ⟨R, 4, none⟩ = some (.bool false) := by
  simp [World.cell?, t.res]
theorem Two.ts (t : Two R f h p q b w) : w.cell? ⟨R + 1, 0, none⟩ = some (.int .i64 f) ∧ w.cell? ⟨R + 1, 1, none⟩ = some (.string h) ∧ w.cell? ⟨R + 1, 2, none⟩ = some (.string p) ∧ w.cell? ⟨R + 1, 3, none⟩ = some (.string q) ∧ w.cell? ⟨R + 1, 4, none⟩ = some (.bool b) := by
  simp [World.cell?, t.tgt]
theorem Two.fz (t : Two R f h p q b w) : (∀ o, w.frozen? ⟨R, o, none⟩ = false) ∧ ∀ o, w.frozen? ⟨R + 1, o, none⟩ = false := by
  refine ⟨fun o => ?_, fun o => ?_⟩
  · simp [World.frozen?, t.res]
  · simp [World.frozen?, t.tgt]
end
theorem two_new (w : World) : Two w.heap.size 1 ⟨#[]⟩ ⟨#[]⟩ ⟨#[]⟩ false ((w.alloc (.cells #[.int .i64 0, .string ⟨#[]⟩, .string ⟨#[]⟩, .string ⟨#[]⟩, .bool false] 23)).alloc (.cells #[.int .i64 1, .string ⟨#[]⟩, .string ⟨#[]⟩, .string ⟨#[]⟩, .bool false] 23)) := by
  refine ⟨?_, ?_⟩
  · show ((w.heap.push _).push _)[w.heap.size]? = _
    simp [Array.getElem?_push]
  · show ((w.heap.push _).push _)[w.heap.size + 1]? = _
    rw [Array.getElem?_push, if_pos (by simp)]

theorem lowOn_ok (x : ByteArray) (hx : x.size ≤ 65536) (h : isHost x.data.toList = true) : ∀ w, Calls Tryd.prog 29 #[.string x] w fun e w' => e = .returned (.string (txt (lower x.data.toList))) ∧ Below w.heap.size w w' := by
  intro w
  have ha : ∀ c ∈ x.data.toList, c.toNat < 128 := by
    intro c hc
    unfold isHost at h
    simp only [Bool.and_eq_true, List.all_eq_true] at h
    exact host_ascii c (h.1.1 c hc)
  refine (Tryd.strings_ToLower_ascii x w (by omega) (fun j b hj => ha b (List.mem_of_getElem? hj))).mono ?_
  rintro e w' ⟨h1, h2⟩
  exact ⟨by rw [h1, low_A], h2⟩

theorem isHost_calls2 (s : ByteArray) (b : Bool) (w : World) (hs : s.size ≤ 65536) (hb : isHost s.data.toList = b) : Calls Tryd.prog 31 #[.string s] w fun e w' => e = .returned (.bool b) ∧ w = w' := by
  rw [← hb]; exact isHost_calls s w (by omega)
theorem low_calls2 (s : ByteArray) (l : List UInt8) (w : World) (hs : s.size ≤ 65536) (hl : s.data.toList = l) (h : isHost l = true) : Calls Tryd.prog 29 #[.string s] w fun e w' => e = .returned (.string (txt (lower l))) ∧ Below w.heap.size w w' := by
  rw [← hl] at h ⊢; exact lowOn_ok s hs h w
theorem cut_calls2 (s : ByteArray) (l : List UInt8) (w : World) (hs : s.size ≤ 65536) (hl : s.data.toList = l) (hr : ∃ m, w.cell? ⟨1, 0, none⟩ = some (.int .i64 m)) :
    Calls Tryd.prog 32 #[.string s, .string ⟨#[63]⟩] w fun e w' => e = .returned (.tuple #[.string (txt (cutAt 63 l).1), .string (txt (cutAt 63 l).2.1), .bool (cutAt 63 l).2.2]) ∧ Dr w w' := by
  rw [← hl]; exact cut_calls s w (by omega) hr
theorem pathOf_0 (rest : List UInt8) (h : (cutAt 63 rest).1 = []) : pathOf 2 rest = [47] := by unfold pathOf; rw [if_pos ⟨h, rfl⟩]
theorem pathOf_2 (rest : List UInt8) (h : ¬ (cutAt 63 rest).1 = []) : pathOf 2 rest = (cutAt 63 rest).1 := by unfold pathOf; rw [if_neg (fun k => h k.1)]
theorem isPath_47 : isPath [47] = true := by decide

set_option maxRecDepth 100000 in
set_option maxHeartbeats 4000000 in
theorem parse_host (s : ByteArray) (w : World) (hr : Rdy w) (hl : s.size ≤ 65536) (h1 : ¬ s.data.toList = [42]) (h7 : 7 ≤ s.size) (hL : LowOn (s.extract 0 7)) (hA : AnyOn (s.extract 7 s.size)) (hn : lower (s.data.toList.take 7) = http) :
    Calls Tryd.prog 10 #[.string s] w fun e w' => e = .returned (parseV (parse s.data.toList)) ∧ Below w.heap.size w w' := by
  have e1 := str_not h1
  have hbl := (((Below.refl w.heap.size w).alloc (Nat.le_refl _) (.cells #[.int .i64 0, .string ⟨#[]⟩, .string ⟨#[]⟩, .string ⟨#[]⟩, .bool false] 23)).alloc (by simp) (.cells #[.int .i64 1, .string ⟨#[]⟩, .string ⟨#[]⟩, .string ⟨#[]⟩, .bool false] 23))
  have HBL := Lib.hid hbl
  clear hbl
  have HP := Lib.hid (show parse s.data.toList = (if isHost (hostOf (s.data.toList.drop 7)) then behind 2 (lower (hostOf (s.data.toList.drop 7))) (afterHost (s.data.toList.drop 7)) else (23, zeroT)) by
    unfold parse
    rw [if_neg (by rw [len]; omega), if_neg h1]
    have : isHttp s.data.toList = true := by
      unfold isHttp; rw [len]
      have : (lower (s.data.toList.take 7) == http) = true := by simpa using hn
      rw [this, Bool.and_true]; simpa using h7
    rw [if_pos this])
  have HNE := Lib.hid (show (lower (s.extract 0 7).data.toList == http) = true by rw [Lib.extract_from_zero]; simpa using hn)
  have HX := Lib.hid (show (s.extract 7 s.size).data.toList = s.data.toList.drop 7 from Lib.extract_to_end s 7)
  clear hn h1
  go_enter Tryd.func10, Tryd.ntmps10
  go_wp2_with fail
  refine (hL _).mono ?_
  rintro e w1 ⟨y, rfl, hy, hb⟩
  have hy2 : (y == http) = true := hy.trans HNE.out
  have hne2 : (y == [104, 116, 116, 112, 58, 47, 47]) = true := hy2
  have HBL1 := Lib.hid (HBL.out.trans ⟨hb.os, hb.tape, hb.output, hb.size, fun i hi => hb.block i (by simp; omega)⟩)
  have T1 := (two_new w).below hb
  have T2 := T1.put0 2
  have hf1 := T1.fz
  have hr1 := T1.rs
  have ht1 := T1.ts
  have hz := T1.lt
  clear hy hy2 hb T1
  go_wp2_with fail
  refine (hA _).mono ?_
  rintro e w2 ⟨rfl, hb2⟩
  have T3 := T2.below hb2
  have HBL2 := Lib.hid (show Below w.heap.size w w2 from (HBL1.out.setCell (p := ⟨w.heap.size + 1, 0, none⟩) (by simp) _).trans ⟨hb2.os, hb2.tape, hb2.output, hb2.size, fun i hi => hb2.block i (by simp; omega)⟩)
  have hxs : (s.extract 7 s.size).size = s.size - 7 := by simp
  rw [HX.out]
  obtain ⟨X, hX⟩ : ∃ X, s.extract 7 s.size = X := ⟨_, rfl⟩
  rw [hX] at hxs HX ⊢
  obtain ⟨D, hD⟩ : ∃ D, s.data.toList.drop 7 = D := ⟨_, rfl⟩
  have HX2 := Lib.hid (show X.data.toList = D from HX.out.trans hD)
  rw [hD] at HP ⊢
  have hX65 : X.size ≤ 65536 := by omega
  have T4 := fun x => T3.put1 x
  have hf3 := T3.fz
  have ht3 := T3.ts
  have hr3 := T3.rs
  have hz3 := T3.lt
  clear hf1 ht1 hr1 hz T2 T3 hb2 hA hL hX hD HX hxs
  rcases stopAt_facts D with ⟨n1, n2, n3⟩ | ⟨k, n1, n2, n3, n4⟩
  · have HH := Lib.hid n2
    have HA := Lib.hid n3
    rw [n1]
    clear n1 n2 n3
    go_wp2_with fail
    have hRs : (ByteArray.empty).data.toList = afterHost D := by rw [HA.out]; first | rfl | (rw [Lib.extract_to_end, HX2.out])
    have hHs : (X).data.toList = hostOf D := by rw [HH.out]; first | exact HX2.out | (rw [Lib.extract_from_zero, HX2.out])
    have hRz : (ByteArray.empty).size ≤ 65536 := by first | omega | (simp; omega) | simp
    have hHz : (X).size ≤ 65536 := by first | omega | (simp; omega)
    have hcl := cutAt_len 63 (afterHost D)
    rw [← hRs, len, hRs] at hcl
    have T4 := T4 (X)
    have HRs := Lib.hid hRs
    have HHs := Lib.hid hHs
    clear hRs hHs
    have HB4 := Lib.hid (show Below w.heap.size w (w2.setCell ⟨w.heap.size + 1, 1, none⟩ (.string (X))) from HBL2.out.setCell (p := ⟨w.heap.size + 1, 1, none⟩) (by simp) _)
    cases hi : isHost (hostOf D) with
    | false =>
      have HI := Lib.hid hi
      refine (isHost_calls2 _ false _ hHz (by rw [HHs.out]; exact HI.out)).mono ?_
      clear hi
      rintro e w' ⟨rfl, rfl⟩
      go_wp2_with fail
      refine bodyPost_ret (v := parseV (23, zeroT)) ?h1 rfl ?h3
      case h1 => simp [results, Tryd.results10, go_sem, parseV, tgtV, zeroT, errV, hr3]
      case h3 =>
        refine ⟨ret_tuple ?_, ?_⟩
        · rw [HP.out, HI.out]; rfl
        · repeat (first | (with_reducible exact HBL2.out) | (with_reducible refine Below.setCell ?_ (by simp) _) | (with_reducible refine bel_drewN ?_ _))
    | true =>
      have HI := Lib.hid hi
      refine (isHost_calls2 _ true _ hHz (by rw [HHs.out]; exact HI.out)).mono ?_
      clear hi
      rintro e w' ⟨rfl, rfl⟩
      go_wp2_with fail
      refine (low_calls2 _ (hostOf D) _ hHz HHs.out HI.out).mono ?_
      rintro e w3 ⟨rfl, hb3⟩
      have T5 := T4.below hb3
      have HBL3 := Lib.hid (show Below w.heap.size w w3 from HB4.out.trans ⟨hb3.os, hb3.tape, hb3.output, hb3.size, fun i hi => hb3.block i (by simp; omega)⟩)
      have hr2 := (hr.below (HBL3.out.setCell (p := ⟨w.heap.size + 1, 1, none⟩) (by simp) (.string (txt (lower (hostOf D)))))).out
      have T6 := T5.put1 (txt (lower (hostOf D)))
      have HBL4 := Lib.hid (HBL3.out.setCell (p := ⟨w.heap.size + 1, 1, none⟩) (by simp) (.string (txt (lower (hostOf D)))))
      have hf5 := T5.fz
      have ht5 := T5.ts
      have hz5 := T5.lt
      clear hf3 ht3 hr3 hz3 hb3 T4 T5
      go_wp2_with fail
      refine (cut_calls2 _ (afterHost D) _ hRz HRs.out hr2).mono ?_
      rintro e w5 ⟨rfl, hd5⟩
      have HBL5 := Lib.hid (below_dr HBL4.out hd5)
      have T7 := T6.dr hd5
      clear hf5 ht5 hz5 hr2 hd5 T6
      have hf6 := T7.fz
      have ht6 := T7.ts
      have hr6 := T7.rs
      have hz6 := T7.lt
      clear T7
      have h47 := isPath_47
      go_wp2_with (first | (go_at_call 33; refine (isPath_calls _ _ (by rw [txt_size]; first | omega | simp)).mono ?_; rintro e w' ⟨rfl, rfl⟩) | (go_at_call 34; refine (isQuery_calls _ _ (by rw [txt_size]; omega)).mono ?_; rintro e w' ⟨rfl, rfl⟩))
      · refine bodyPost_ret (v := parseV (23, zeroT)) ?h1 rfl ?h3
        case h1 => simp [results, Tryd.results10, go_sem, parseV, tgtV, zeroT, errV, hr6]
        case h3 =>
          refine ⟨ret_tuple ?_, ?_⟩
          · rw [HP.out, HI.out, if_pos rfl, behind_bad (.inr (by simpa using ‹(!isQuery (cutAt 63 (afterHost D)).2.1) = true›))]
          · repeat (first | (with_reducible exact HBL5.out) | (with_reducible refine Below.setCell ?_ (by simp) _) | (with_reducible refine bel_drewN ?_ _))
      · refine bodyPost_ret (v := parseV (0, ⟨2, lower (hostOf D), [47], (cutAt 63 (afterHost D)).2.1, (cutAt 63 (afterHost D)).2.2⟩)) ?h1 rfl ?h3
        case h1 => simp [results, Tryd.results10, go_sem, parseV, tgtV, zeroT, errV, hr6]
        case h3 =>
          refine ⟨ret_tuple ?_, ?_⟩
          · rw [HP.out, HI.out, if_pos rfl, behind_good (by rw [pathOf_0 _ ‹(cutAt 63 (afterHost D)).1 = []›]; exact isPath_47) (by simpa using ‹(!isQuery (cutAt 63 (afterHost D)).2.1) = false›), pathOf_0 _ ‹(cutAt 63 (afterHost D)).1 = []›]
          · repeat (first | (with_reducible exact HBL5.out) | (with_reducible refine Below.setCell ?_ (by simp) _) | (with_reducible refine bel_drewN ?_ _))
      · refine bodyPost_ret (v := parseV (23, zeroT)) ?h1 rfl ?h3
        case h1 => simp [results, Tryd.results10, go_sem, parseV, tgtV, zeroT, errV, hr6]
        case h3 =>
          refine ⟨ret_tuple ?_, ?_⟩
          · rw [HP.out, HI.out, if_pos rfl, behind_bad (.inr (by simpa using ‹(!isQuery (cutAt 63 (afterHost D)).2.1) = true›))]
          · repeat (first | (with_reducible exact HBL5.out) | (with_reducible refine Below.setCell ?_ (by simp) _) | (with_reducible refine bel_drewN ?_ _))
      · refine bodyPost_ret (v := parseV (0, ⟨2, lower (hostOf D), (cutAt 63 (afterHost D)).1, (cutAt 63 (afterHost D)).2.1, (cutAt 63 (afterHost D)).2.2⟩)) ?h1 rfl ?h3
        case h1 => simp [results, Tryd.results10, go_sem, parseV, tgtV, zeroT, errV, hr6]
        case h3 =>
          refine ⟨ret_tuple ?_, ?_⟩
          · rw [HP.out, HI.out, if_pos rfl, behind_good (by rw [pathOf_2 _ ‹¬(cutAt 63 (afterHost D)).1 = []›]; exact ‹isPath (cutAt 63 (afterHost D)).1 = true›) (by simpa using ‹(!isQuery (cutAt 63 (afterHost D)).2.1) = false›), pathOf_2 _ ‹¬(cutAt 63 (afterHost D)).1 = []›]
          · repeat (first | (with_reducible exact HBL5.out) | (with_reducible refine Below.setCell ?_ (by simp) _) | (with_reducible refine bel_drewN ?_ _))
      · refine bodyPost_ret (v := parseV (23, zeroT)) ?h1 rfl ?h3
        case h1 => simp [results, Tryd.results10, go_sem, parseV, tgtV, zeroT, errV, hr6]
        case h3 =>
          refine ⟨ret_tuple ?_, ?_⟩
          · rw [HP.out, HI.out, if_pos rfl, behind_bad (.inl (by rw [pathOf_2 _ ‹¬(cutAt 63 (afterHost D)).1 = []›]; simpa using ‹¬isPath (cutAt 63 (afterHost D)).1 = true›))]
          · repeat (first | (with_reducible exact HBL5.out) | (with_reducible refine Below.setCell ?_ (by simp) _) | (with_reducible refine bel_drewN ?_ _))
  · have HH := Lib.hid n3
    have HA := Lib.hid n4
    have hkX : k < X.size := by rw [← len X, HX2.out]; exact n2
    rw [n1]
    clear n1 n2 n3 n4
    go_wp2_with fail
    have hRs : (X.extract k X.size).data.toList = afterHost D := by rw [HA.out]; first | rfl | (rw [Lib.extract_to_end, HX2.out])
    have hHs : (X.extract 0 k).data.toList = hostOf D := by rw [HH.out]; first | exact HX2.out | (rw [Lib.extract_from_zero, HX2.out])
    have hRz : (X.extract k X.size).size ≤ 65536 := by first | omega | (simp; omega) | simp
    have hHz : (X.extract 0 k).size ≤ 65536 := by first | omega | (simp; omega)
    have hcl := cutAt_len 63 (afterHost D)
    rw [← hRs, len, hRs] at hcl
    have T4 := T4 (X.extract 0 k)
    have HRs := Lib.hid hRs
    have HHs := Lib.hid hHs
    clear hRs hHs
    have HB4 := Lib.hid (show Below w.heap.size w (w2.setCell ⟨w.heap.size + 1, 1, none⟩ (.string (X.extract 0 k))) from HBL2.out.setCell (p := ⟨w.heap.size + 1, 1, none⟩) (by simp) _)
    cases hi : isHost (hostOf D) with
    | false =>
      have HI := Lib.hid hi
      refine (isHost_calls2 _ false _ hHz (by rw [HHs.out]; exact HI.out)).mono ?_
      clear hi
      rintro e w' ⟨rfl, rfl⟩
      go_wp2_with fail
      refine bodyPost_ret (v := parseV (23, zeroT)) ?h1 rfl ?h3
      case h1 => simp [results, Tryd.results10, go_sem, parseV, tgtV, zeroT, errV, hr3]
      case h3 =>
        refine ⟨ret_tuple ?_, ?_⟩
        · rw [HP.out, HI.out]; rfl
        · repeat (first | (with_reducible exact HBL2.out) | (with_reducible refine Below.setCell ?_ (by simp) _) | (with_reducible refine bel_drewN ?_ _))
    | true =>
      have HI := Lib.hid hi
      refine (isHost_calls2 _ true _ hHz (by rw [HHs.out]; exact HI.out)).mono ?_
      clear hi
      rintro e w' ⟨rfl, rfl⟩
      go_wp2_with fail
      refine (low_calls2 _ (hostOf D) _ hHz HHs.out HI.out).mono ?_
      rintro e w3 ⟨rfl, hb3⟩
      have T5 := T4.below hb3
      have HBL3 := Lib.hid (show Below w.heap.size w w3 from HB4.out.trans ⟨hb3.os, hb3.tape, hb3.output, hb3.size, fun i hi => hb3.block i (by simp; omega)⟩)
      have hr2 := (hr.below (HBL3.out.setCell (p := ⟨w.heap.size + 1, 1, none⟩) (by simp) (.string (txt (lower (hostOf D)))))).out
      have T6 := T5.put1 (txt (lower (hostOf D)))
      have HBL4 := Lib.hid (HBL3.out.setCell (p := ⟨w.heap.size + 1, 1, none⟩) (by simp) (.string (txt (lower (hostOf D)))))
      have hf5 := T5.fz
      have ht5 := T5.ts
      have hz5 := T5.lt
      clear hf3 ht3 hr3 hz3 hb3 T4 T5
      go_wp2_with fail
      refine (cut_calls2 _ (afterHost D) _ hRz HRs.out hr2).mono ?_
      rintro e w5 ⟨rfl, hd5⟩
      have HBL5 := Lib.hid (below_dr HBL4.out hd5)
      have T7 := T6.dr hd5
      clear hf5 ht5 hz5 hr2 hd5 T6
      have hf6 := T7.fz
      have ht6 := T7.ts
      have hr6 := T7.rs
      have hz6 := T7.lt
      clear T7
      have h47 := isPath_47
      go_wp2_with (first | (go_at_call 33; refine (isPath_calls _ _ (by rw [txt_size]; first | omega | simp)).mono ?_; rintro e w' ⟨rfl, rfl⟩) | (go_at_call 34; refine (isQuery_calls _ _ (by rw [txt_size]; omega)).mono ?_; rintro e w' ⟨rfl, rfl⟩))
      · refine bodyPost_ret (v := parseV (23, zeroT)) ?h1 rfl ?h3
        case h1 => simp [results, Tryd.results10, go_sem, parseV, tgtV, zeroT, errV, hr6]
        case h3 =>
          refine ⟨ret_tuple ?_, ?_⟩
          · rw [HP.out, HI.out, if_pos rfl, behind_bad (.inr (by simpa using ‹(!isQuery (cutAt 63 (afterHost D)).2.1) = true›))]
          · repeat (first | (with_reducible exact HBL5.out) | (with_reducible refine Below.setCell ?_ (by simp) _) | (with_reducible refine bel_drewN ?_ _))
      · refine bodyPost_ret (v := parseV (0, ⟨2, lower (hostOf D), [47], (cutAt 63 (afterHost D)).2.1, (cutAt 63 (afterHost D)).2.2⟩)) ?h1 rfl ?h3
        case h1 => simp [results, Tryd.results10, go_sem, parseV, tgtV, zeroT, errV, hr6]
        case h3 =>
          refine ⟨ret_tuple ?_, ?_⟩
          · rw [HP.out, HI.out, if_pos rfl, behind_good (by rw [pathOf_0 _ ‹(cutAt 63 (afterHost D)).1 = []›]; exact isPath_47) (by simpa using ‹(!isQuery (cutAt 63 (afterHost D)).2.1) = false›), pathOf_0 _ ‹(cutAt 63 (afterHost D)).1 = []›]
          · repeat (first | (with_reducible exact HBL5.out) | (with_reducible refine Below.setCell ?_ (by simp) _) | (with_reducible refine bel_drewN ?_ _))
      · refine bodyPost_ret (v := parseV (23, zeroT)) ?h1 rfl ?h3
        case h1 => simp [results, Tryd.results10, go_sem, parseV, tgtV, zeroT, errV, hr6]
        case h3 =>
          refine ⟨ret_tuple ?_, ?_⟩
          · rw [HP.out, HI.out, if_pos rfl, behind_bad (.inr (by simpa using ‹(!isQuery (cutAt 63 (afterHost D)).2.1) = true›))]
          · repeat (first | (with_reducible exact HBL5.out) | (with_reducible refine Below.setCell ?_ (by simp) _) | (with_reducible refine bel_drewN ?_ _))
      · refine bodyPost_ret (v := parseV (0, ⟨2, lower (hostOf D), (cutAt 63 (afterHost D)).1, (cutAt 63 (afterHost D)).2.1, (cutAt 63 (afterHost D)).2.2⟩)) ?h1 rfl ?h3
        case h1 => simp [results, Tryd.results10, go_sem, parseV, tgtV, zeroT, errV, hr6]
        case h3 =>
          refine ⟨ret_tuple ?_, ?_⟩
          · rw [HP.out, HI.out, if_pos rfl, behind_good (by rw [pathOf_2 _ ‹¬(cutAt 63 (afterHost D)).1 = []›]; exact ‹isPath (cutAt 63 (afterHost D)).1 = true›) (by simpa using ‹(!isQuery (cutAt 63 (afterHost D)).2.1) = false›), pathOf_2 _ ‹¬(cutAt 63 (afterHost D)).1 = []›]
          · repeat (first | (with_reducible exact HBL5.out) | (with_reducible refine Below.setCell ?_ (by simp) _) | (with_reducible refine bel_drewN ?_ _))
      · refine bodyPost_ret (v := parseV (23, zeroT)) ?h1 rfl ?h3
        case h1 => simp [results, Tryd.results10, go_sem, parseV, tgtV, zeroT, errV, hr6]
        case h3 =>
          refine ⟨ret_tuple ?_, ?_⟩
          · rw [HP.out, HI.out, if_pos rfl, behind_bad (.inl (by rw [pathOf_2 _ ‹¬(cutAt 63 (afterHost D)).1 = []›]; simpa using ‹¬isPath (cutAt 63 (afterHost D)).1 = true›))]
          · repeat (first | (with_reducible exact HBL5.out) | (with_reducible refine Below.setCell ?_ (by simp) _) | (with_reducible refine bel_drewN ?_ _))
end Go.Proofs.YthobmfnmenbkeaaDoor
