/- The program's 'Parse', walked. -/
import Derived.Test.YthobmfnmenbkeaaDoorW7
import Derived.Test.YthobmfnmenbkeaaDoorW6
set_option linter.unusedVariables false
set_option linter.unusedSimpArgs false
namespace Go.Proofs.YthobmfnmenbkeaaDoor
open Go.RowKit Tg

/-- a text, of a list -/
abbrev txt (l : List UInt8) : ByteArray := ⟨l.toArray⟩
def tgtV (t : T) : Value := .agg #[.int .i64 t.form, .string (txt t.host), .string (txt t.path), .string (txt t.query), .bool t.has]
def parseV (r : Int × T) : Value := .tuple #[tgtV r.2, errV r.1]
theorem cut_calls (s : ByteArray) (w : World) (hs : s.size < 4294967281) (hr : ∃ m, w.cell? ⟨1, 0, none⟩ = some (.int .i64 m)) :
    Calls Tryd.prog 32 #[.string s, .string ⟨#[63]⟩] w fun e w' => e = .returned (.tuple #[.string (txt (cutAt 63 s.data.toList).1), .string (txt (cutAt 63 s.data.toList).2.1), .bool (cutAt 63 s.data.toList).2.2]) ∧ Dr w w' := by
  obtain ⟨m, hm⟩ := hr
  refine (Tryd.strings_Cut s ⟨#[63]⟩ m w hs hm).mono ?_
  rintro e w' ⟨h1, h2⟩
  have : Lib.cut s.data.toList [63] = cutAt 63 s.data.toList := cut_cutAt 63 _
  rw [← this]
  exact ⟨h1, ⟨h2⟩⟩

set_option maxRecDepth 100000 in
set_option maxHeartbeats 1000000 in
theorem parse_long (s : ByteArray) (w : World) (hl : 65536 < s.size) : Calls Tryd.prog 10 #[.string s] w fun e w' => e = .returned (parseV (parse s.data.toList)) ∧ Below w.heap.size w w' := by
  have HP := Lib.hid (show parse s.data.toList = (2, zeroT) by unfold parse; rw [if_pos (by rw [len]; omega)])
  go_enter Tryd.func10, Tryd.ntmps10
  go_wp2_with fail
  refine bodyPost_ret (v := parseV (2, zeroT)) (by simp [results, Tryd.results10, go_sem, parseV, tgtV, zeroT, errV]) rfl ⟨by rw [HP.out], below_new _ _⟩

theorem cutAt_len (c : UInt8) : ∀ l : List UInt8, (cutAt c l).1.length ≤ l.length ∧ (cutAt c l).2.1.length ≤ l.length
  | [] => ⟨Nat.le_refl _, Nat.le_refl _⟩
  | x :: r => by
    have ih := cutAt_len c r
    unfold cutAt
    split
    · simp
    · simp; omega
theorem txt_size (l : List UInt8) : (txt l).size = l.length := by simp [txt, ByteArray.size]
theorem txt_data (l : List UInt8) : (txt l).data.toList = l := by simp [txt]

theorem bel_drewN {B : Nat} {w w' : World} (h : Below B w w') (n : Nat) : Below B w (w'.drewN n) := below_dr h ⟨⟨n, rfl⟩⟩
/-- the path that is looked at -/
def pathOf (form : Int) (rest : List UInt8) : List UInt8 := if (cutAt 63 rest).1 = [] ∧ form = 2 then [47] else (cutAt 63 rest).1
theorem pathOf_1 (rest : List UInt8) : pathOf 1 rest = (cutAt 63 rest).1 := by unfold pathOf; rw [if_neg (by omega)]
theorem behind_bad {form : Int} {host rest : List UInt8} (h : isPath (pathOf form rest) = false ∨ isQuery (cutAt 63 rest).2.1 = false) : behind form host rest = (23, zeroT) := by
  unfold behind
  unfold pathOf at h
  rw [if_neg]
  rcases h with h | h <;> simp [h]
theorem behind_good {form : Int} {host rest : List UInt8} (h : isPath (pathOf form rest) = true) (g : isQuery (cutAt 63 rest).2.1 = true) :
    behind form host rest = (0, ⟨form, host, pathOf form rest, (cutAt 63 rest).2.1, (cutAt 63 rest).2.2⟩) := by
  unfold behind
  unfold pathOf at h ⊢
  rw [if_pos]
  simp [h, g]

set_option maxRecDepth 100000 in
set_option maxHeartbeats 4000000 in
theorem parse_plain (s : ByteArray) (w : World) (hr : Rdy w) (hl : s.size ≤ 65536) (h1 : ¬ s.data.toList = [42]) (h7 : s.size < 7) : Calls Tryd.prog 10 #[.string s] w fun e w' => e = .returned (parseV (parse s.data.toList)) ∧ Below w.heap.size w w' := by
  have e1 := str_not h1
  have hr2 := (hr.below (((Below.refl w.heap.size w).alloc (Nat.le_refl _) (.cells #[.int .i64 0, .string ⟨#[]⟩, .string ⟨#[]⟩, .string ⟨#[]⟩, .bool false] 23)).alloc (by simp) (.cells #[.int .i64 1, .string ⟨#[]⟩, .string ⟨#[]⟩, .string ⟨#[]⟩, .bool false] 23))).out
  have hcl := cutAt_len 63 s.data.toList
  rw [len] at hcl
  have HP := Lib.hid (show parse s.data.toList = behind 1 [] s.data.toList by
    unfold parse
    rw [if_neg (by rw [len]; omega), if_neg h1]
    have : isHttp s.data.toList = false := by unfold isHttp; rw [len]; simp; omega
    rw [this]; rfl)
  go_enter Tryd.func10, Tryd.ntmps10
  go_wp2_with fail
  refine (cut_calls _ _ (by omega) hr2).mono ?_
  rintro e w' ⟨rfl, ⟨n, rfl⟩⟩
  go_wp2_with (first | (go_at_call 33; refine (isPath_calls _ _ (by rw [txt_size]; first | omega | simp)).mono ?_; rintro e w' ⟨rfl, rfl⟩) | (go_at_call 34; refine (isQuery_calls _ _ (by rw [txt_size]; omega)).mono ?_; rintro e w' ⟨rfl, rfl⟩))
  all_goals clear hr2
  · refine bodyPost_ret (v := parseV (23, zeroT)) ?h1 rfl ?h3
    case h1 => simp [results, Tryd.results10, go_sem, parseV, tgtV, zeroT, errV]
    case h3 =>
      refine ⟨ret_tuple ?_, ?_⟩
      · rw [HP.out, behind_bad (.inl (by rw [pathOf_1]; simp [*]))]
      · repeat (first | (with_reducible refine Below.setCell ?_ (by simp) _) | (with_reducible refine bel_drewN ?_ _) | (with_reducible refine Below.alloc ?_ (by simp) _) | (with_reducible exact Below.refl _ _))
  · refine bodyPost_ret (v := parseV (23, zeroT)) ?h1 rfl ?h3
    case h1 => simp [results, Tryd.results10, go_sem, parseV, tgtV, zeroT, errV]
    case h3 =>
      refine ⟨ret_tuple ?_, ?_⟩
      · rw [HP.out, behind_bad (.inr (by simpa using ‹(!isQuery _) = true›))]
      · repeat (first | (with_reducible refine Below.setCell ?_ (by simp) _) | (with_reducible refine bel_drewN ?_ _) | (with_reducible refine Below.alloc ?_ (by simp) _) | (with_reducible exact Below.refl _ _))
  · refine bodyPost_ret (v := parseV (0, ⟨1, [], (cutAt 63 s.data.toList).1, (cutAt 63 s.data.toList).2.1, (cutAt 63 s.data.toList).2.2⟩)) ?h1 rfl ?h3
    case h1 => simp [results, Tryd.results10, go_sem, parseV, tgtV, zeroT, errV]
    case h3 =>
      refine ⟨ret_tuple ?_, ?_⟩
      · rw [HP.out, behind_good (by rw [pathOf_1]; simp [*]) (by simpa using ‹(!isQuery _) = false›), pathOf_1]
      · repeat (first | (with_reducible refine Below.setCell ?_ (by simp) _) | (with_reducible refine bel_drewN ?_ _) | (with_reducible refine Below.alloc ?_ (by simp) _) | (with_reducible exact Below.refl _ _))
  · refine bodyPost_ret (v := parseV (23, zeroT)) ?h1 rfl ?h3
    case h1 => simp [results, Tryd.results10, go_sem, parseV, tgtV, zeroT, errV]
    case h3 =>
      refine ⟨ret_tuple ?_, ?_⟩
      · rw [HP.out, behind_bad (.inl (by rw [pathOf_1]; simp [*]))]
      · repeat (first | (with_reducible refine Below.setCell ?_ (by simp) _) | (with_reducible refine bel_drewN ?_ _) | (with_reducible refine Below.alloc ?_ (by simp) _) | (with_reducible exact Below.refl _ _))
end Go.Proofs.YthobmfnmenbkeaaDoor
