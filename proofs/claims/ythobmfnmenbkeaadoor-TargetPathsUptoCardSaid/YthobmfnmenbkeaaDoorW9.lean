/- The program's 'Parse' where letters are made small, walked. -/
import Derived.Test.YthobmfnmenbkeaaDoorW8
import Derived.Lib.IndexAny
set_option linter.unusedVariables false
set_option linter.unusedSimpArgs false
namespace Go.Proofs.YthobmfnmenbkeaaDoor
open Go.RowKit Tg

theorem bcell {W w1 : World} (hb : Below W.heap.size W w1) : (∀ b o, b < W.heap.size → w1.cell? ⟨b, o, none⟩ = W.cell? ⟨b, o, none⟩) ∧ (∀ b o, b < W.heap.size → w1.frozen? ⟨b, o, none⟩ = W.frozen? ⟨b, o, none⟩) :=
  ⟨fun b o h => hb.cell (p := ⟨b, o, none⟩) h, fun b o h => hb.frozen (p := ⟨b, o, none⟩) h⟩

/-- letters made small: what is asked of the call at a text -/
def LowOn (x : ByteArray) : Prop := ∀ w, Calls Tryd.prog 29 #[.string x] w fun e w' => ∃ y : List UInt8, e = .returned (.string (txt y)) ∧ ((y == http) = (lower x.data.toList == http)) ∧ Below w.heap.size w w'
theorem low_A (l : List UInt8) : Lib.toLowerA l = lower l := by
  unfold Lib.toLowerA lower
  apply List.map_congr_left
  intro c _
  rfl
theorem lowOn_ascii (x : ByteArray) (hx : x.size ≤ 65536) (ha : ∀ c ∈ x.data.toList, c.toNat < 128) : LowOn x := by
  intro w
  refine (Tryd.strings_ToLower_ascii x w (by omega) (fun j b hj => ha b (List.mem_of_getElem? hj))).mono ?_
  rintro e w' ⟨h1, h2⟩
  exact ⟨_, h1, by rw [low_A], h2⟩

set_option maxRecDepth 100000 in
set_option maxHeartbeats 4000000 in
theorem parse_other (s : ByteArray) (w : World) (hr : Rdy w) (hl : s.size ≤ 65536) (h1 : ¬ s.data.toList = [42]) (h7 : 7 ≤ s.size) (hL : LowOn (s.extract 0 7)) (hn : lower (s.data.toList.take 7) ≠ http) :
    Calls Tryd.prog 10 #[.string s] w fun e w' => e = .returned (parseV (parse s.data.toList)) ∧ Below w.heap.size w w' := by
  have e1 := str_not h1
  have hbl := (((Below.refl w.heap.size w).alloc (Nat.le_refl _) (.cells #[.int .i64 0, .string ⟨#[]⟩, .string ⟨#[]⟩, .string ⟨#[]⟩, .bool false] 23)).alloc (by simp) (.cells #[.int .i64 1, .string ⟨#[]⟩, .string ⟨#[]⟩, .string ⟨#[]⟩, .bool false] 23))
  have HBL := Lib.hid hbl
  clear hbl
  have hcl := cutAt_len 63 s.data.toList
  rw [len] at hcl
  have HP := Lib.hid (show parse s.data.toList = behind 1 [] s.data.toList by
    unfold parse
    rw [if_neg (by rw [len]; omega), if_neg h1]
    have : isHttp s.data.toList = false := by
      unfold isHttp; rw [len]
      have : (lower (s.data.toList.take 7) == http) = false := by simpa using hn
      rw [this, Bool.and_false]
    rw [this]; rfl)
  have HNE := Lib.hid (show (lower (s.extract 0 7).data.toList == http) = false by rw [Lib.extract_from_zero]; simpa using hn)
  clear hn h1
  go_enter Tryd.func10, Tryd.ntmps10
  go_wp2_with fail
  refine (hL _).mono ?_
  rintro e w1 ⟨y, rfl, hy, hb⟩
  have hy2 : (y == http) = false := hy.trans HNE.out
  have hne2 : (y == [104, 116, 116, 112, 58, 47, 47]) = false := hy2
  have HBL1 := Lib.hid (HBL.out.trans ⟨hb.os, hb.tape, hb.output, hb.size, fun i hi => hb.block i (by simp; omega)⟩)
  have hr2 := (hr.below HBL1.out).out
  obtain ⟨hc, hf⟩ := bcell hb
  have HR := Lib.hid (show ∀ i, i < 5 → (w1.cell? ⟨w.heap.size, i, none⟩).isSome = true by
    intro i hi
    rw [hc _ _ (by simp; omega)]
    match i, hi with
    | 0, _ => simp [go_sem]
    | 1, _ => simp [go_sem]
    | 2, _ => simp [go_sem]
    | 3, _ => simp [go_sem]
    | 4, _ => simp [go_sem])
  have hz : w.heap.size + 1 < w1.heap.size := by have := hb.size; simp at this; omega
  clear hy hy2 hb
  go_wp2_with fail
  refine (cut_calls _ _ (by omega) hr2).mono ?_
  rintro e w' ⟨rfl, ⟨n, rfl⟩⟩
  go_wp2_with (first | (go_at_call 33; refine (isPath_calls _ _ (by rw [txt_size]; first | omega | simp)).mono ?_; rintro e w' ⟨rfl, rfl⟩) | (go_at_call 34; refine (isQuery_calls _ _ (by rw [txt_size]; omega)).mono ?_; rintro e w' ⟨rfl, rfl⟩))
  all_goals clear hr2
  · refine bodyPost_ret (v := parseV (23, zeroT)) ?h1 rfl ?h3
    case h1 => simp [results, Tryd.results10, go_sem, parseV, tgtV, zeroT, errV, HR.out 0 (by decide), HR.out 1 (by decide), HR.out 2 (by decide), HR.out 3 (by decide), HR.out 4 (by decide)]
    case h3 =>
      refine ⟨ret_tuple ?_, ?_⟩
      · rw [HP.out, behind_bad (.inl (by rw [pathOf_1]; simp [*]))]
      · repeat (first | (with_reducible exact HBL1.out) | (with_reducible refine Below.setCell ?_ (by simp) _) | (with_reducible refine bel_drewN ?_ _) | (with_reducible refine Below.alloc ?_ (by simp) _))
  · refine bodyPost_ret (v := parseV (23, zeroT)) ?h1 rfl ?h3
    case h1 => simp [results, Tryd.results10, go_sem, parseV, tgtV, zeroT, errV, HR.out 0 (by decide), HR.out 1 (by decide), HR.out 2 (by decide), HR.out 3 (by decide), HR.out 4 (by decide)]
    case h3 =>
      refine ⟨ret_tuple ?_, ?_⟩
      · rw [HP.out, behind_bad (.inr (by simpa using ‹(!isQuery _) = true›))]
      · repeat (first | (with_reducible exact HBL1.out) | (with_reducible refine Below.setCell ?_ (by simp) _) | (with_reducible refine bel_drewN ?_ _) | (with_reducible refine Below.alloc ?_ (by simp) _))
  · refine bodyPost_ret (v := parseV (0, ⟨1, [], (cutAt 63 s.data.toList).1, (cutAt 63 s.data.toList).2.1, (cutAt 63 s.data.toList).2.2⟩)) ?h1 rfl ?h3
    case h1 => simp [results, Tryd.results10, go_sem, parseV, tgtV, zeroT, errV, HR.out 0 (by decide), HR.out 1 (by decide), HR.out 2 (by decide), HR.out 3 (by decide), HR.out 4 (by decide)]
    case h3 =>
      refine ⟨ret_tuple ?_, ?_⟩
      · rw [HP.out, behind_good (by rw [pathOf_1]; simp [*]) (by simpa using ‹(!isQuery _) = false›), pathOf_1]
      · repeat (first | (with_reducible exact HBL1.out) | (with_reducible refine Below.setCell ?_ (by simp) _) | (with_reducible refine bel_drewN ?_ _) | (with_reducible refine Below.alloc ?_ (by simp) _))
  · refine bodyPost_ret (v := parseV (23, zeroT)) ?h1 rfl ?h3
    case h1 => simp [results, Tryd.results10, go_sem, parseV, tgtV, zeroT, errV, HR.out 0 (by decide), HR.out 1 (by decide), HR.out 2 (by decide), HR.out 3 (by decide), HR.out 4 (by decide)]
    case h3 =>
      refine ⟨ret_tuple ?_, ?_⟩
      · rw [HP.out, behind_bad (.inl (by rw [pathOf_1]; simp [*]))]
      · repeat (first | (with_reducible exact HBL1.out) | (with_reducible refine Below.setCell ?_ (by simp) _) | (with_reducible refine bel_drewN ?_ _) | (with_reducible refine Below.alloc ?_ (by simp) _))

/-- the first place of a byte that ends a host: what is asked of the call at a text -/
def stopAt (l : List UInt8) : Int := Lib.indexAny l [47, 63]
def AnyOn (x : ByteArray) : Prop := ∀ w, Calls Tryd.prog 30 #[.string x, .string ⟨#[47, 63]⟩] w fun e w' => e = .returned (.int .i64 (stopAt x.data.toList)) ∧ Below w.heap.size w w'
theorem anyOn_ascii (x : ByteArray) (hx : x.size ≤ 65536) (ha : ∀ c ∈ x.data.toList, c.toNat < 128) : AnyOn x := by
  intro w
  exact Tryd.strings_IndexAny_laid x ⟨#[47, 63]⟩ w (by omega) (by decide) (fun j b hj => ha b (List.mem_of_getElem? hj)) (fun j b hj => by
    match j, hj with
    | 0, hj => simp at hj; subst hj; decide
    | 1, hj => simp at hj; subst hj; decide
    | j + 2, hj => simp at hj)
theorem stop_has : ∀ c : UInt8, ([47, 63] : List UInt8).contains c = Tg.stop c := all_bytes _ (by decide +kernel)
/-- -1, or the place: what stands ahead of it and behind it -/
theorem stopAt_facts : ∀ l : List UInt8, (stopAt l = -1 ∧ hostOf l = l ∧ afterHost l = []) ∨ (∃ k : Nat, stopAt l = k ∧ k < l.length ∧ hostOf l = l.take k ∧ afterHost l = l.drop k)
  | [] => .inl ⟨rfl, rfl, rfl⟩
  | x :: r => by
    have ih := stopAt_facts r
    unfold stopAt at ih ⊢
    rw [Lib.indexAny, stop_has]
    unfold hostOf afterHost at ih ⊢
    rw [List.takeWhile_cons, List.dropWhile_cons]
    cases hx : Tg.stop x with
    | true => exact .inr ⟨0, by simp⟩
    | false =>
      simp only [Bool.not_false, if_true, Bool.false_eq_true, if_false]
      rcases ih with ⟨h1, h2, h3⟩ | ⟨k, h1, h2, h3, h4⟩
      · exact .inl ⟨by rw [h1]; rfl, by rw [h2], h3⟩
      · refine .inr ⟨k + 1, ?_, by simpa using h2, by rw [h3]; rfl, by rw [h4]; rfl⟩
        rw [h1, if_neg (by rw [beq_iff_eq]; omega)]; omega

end Go.Proofs.YthobmfnmenbkeaaDoor
