/- strings.Split at one byte, in the words of this seat's laws. -/
import Derived.Test.YthobmfnmenbkeaaDoorW5
import Derived.Lib.SplitLaws
set_option linter.unusedVariables false
set_option linter.unusedSimpArgs false
namespace Go.Proofs.YthobmfnmenbkeaaDoor
open Go.RowKit Tg

theorem index_cons (x c : UInt8) (r : List UInt8) (h : x ≠ c) : Lib.index (x :: r) [c] = if Lib.index r [c] == -1 then -1 else Lib.index r [c] + 1 := by
  have hp : ([c] : List UInt8).isPrefixOf (x :: r) = false := by simp [List.isPrefixOf, Ne.symm h]
  rw [Lib.index, hp]; simp
theorem index_head (c : UInt8) (r : List UInt8) : Lib.index (c :: r) [c] = 0 := by
  rw [Lib.index]; simp [List.isPrefixOf]
theorem index_count (c : UInt8) : ∀ r : List UInt8, Lib.index r [c] = -1 ↔ r.count c = 0
  | [] => by simp [Lib.index]
  | x :: r => by
    by_cases h : x = c
    · subst h; rw [index_head]; simp
    · have ih := index_count c r
      have hg := Lib.index_ge r [c]
      rw [index_cons x c r h, List.count_cons_of_ne (by simpa using h)]
      constructor
      · intro e
        split at e
        · rename_i h1; exact ih.1 (by simpa using h1)
        · rename_i h1; simp at h1; omega
      · intro e
        rw [if_pos (by simpa using ih.2 e)]
theorem splitK_cuts (c : UInt8) : ∀ s : List UInt8, Lib.splitK [c] 0 (s.count c) s = cuts c s
  | [] => rfl
  | x :: r => by
    have ih := splitK_cuts c r
    by_cases h : x = c
    · subst h
      rw [List.count_cons_self, Lib.splitK, index_head, cuts_cons_eq]
      simpa using ih
    · rw [List.count_cons_of_ne (by simpa using h)]
      obtain ⟨hd, tl, e⟩ := cuts_form c r
      rw [cuts_cons_ne h e]
      cases hn : r.count c with
      | zero =>
        rw [hn] at ih
        rw [Lib.splitK] at ih ⊢
        rw [e] at ih
        simp only [List.cons.injEq] at ih
        rw [ih.1, ih.2]
      | succ m =>
        rw [hn, Lib.splitK] at ih
        have hne : ¬ Lib.index r [c] = -1 := fun k => by have := (index_count c r).1 k; omega
        have hg := Lib.index_ge r [c]
        obtain ⟨j, hj⟩ : ∃ j : Nat, Lib.index r [c] = j := ⟨(Lib.index r [c]).toNat, by omega⟩
        rw [if_neg (by simpa using hne), e] at ih
        rw [Lib.splitK, index_cons x c r h]
        have hnb : ¬ (Lib.index r [c] == -1) = true := by simpa using hne
        rw [if_neg hnb, if_neg (by simp; omega)]
        rw [hj] at ih ⊢
        simp only [List.cons.injEq] at ih
        have e1 : ((j : Int) + 1).toNat = j + 1 := by omega
        rw [e1]
        simp only [Int.toNat_natCast, Nat.add_zero, List.length_cons, List.length_nil, Nat.zero_add] at ih ⊢
        rw [List.take_succ_cons, ih.1]
        have : List.drop (j + 1 + 1) (x :: r) = List.drop (j + 1) r := rfl
        rw [this, ih.2]

theorem countB_one (s : ByteArray) (c : UInt8) : Lib.countB s ⟨#[c]⟩ = s.data.toList.count c := Lib.count_one c s.data.toList
theorem split_data (s : ByteArray) (c : UInt8) : (Lib.splitB ⟨#[c]⟩ 0 (Lib.countB s ⟨#[c]⟩) s).map (·.data.toList) = cuts c s.data.toList := by
  rw [Lib.splitB_data, countB_one]; exact splitK_cuts c s.data.toList

theorem split_calls (s : ByteArray) (c : UInt8) (w : World) (hs : s.size < 4294967281) (hr : ∃ m, w.cell? ⟨1, 0, none⟩ = some (.int .i64 m)) : Calls Tryd.prog 44 #[.string s, .string ⟨#[c]⟩] w fun e w' =>
    ∃ l : List ByteArray, l.map (·.data.toList) = cuts c s.data.toList ∧ e = .returned (.slice (some ⟨w.heap.size, 0, none⟩) l.length l.length) ∧ w' = w.alloc (.cells (l.map Value.string).toArray 9) := by
  obtain ⟨m, hm⟩ := hr
  refine (Tryd.strings_Split s ⟨#[c]⟩ m w hs hm (Nat.le_refl 1)).mono ?_
  rintro e w' ⟨h1, h2⟩
  refine ⟨_, split_data s c, ?_, h2⟩
  rw [h1, Lib.splitB_all ⟨#[c]⟩ (Nat.le_refl 1) 0 _ s rfl]
end Go.Proofs.YthobmfnmenbkeaaDoor
