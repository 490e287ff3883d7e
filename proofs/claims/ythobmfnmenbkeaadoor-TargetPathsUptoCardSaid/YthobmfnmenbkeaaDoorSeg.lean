/- The segments of a path that is meant, met byte by byte; and the code of a byte, decoded. -/
import Derived.Test.YthobmfnmenbkeaaDoorLaws2
namespace Go.Proofs.YthobmfnmenbkeaaDoor
open Tg

/-- a place in a path that is meant: its segment began at 'a', and 'i' has not passed its end -/
def SegAt (p : List UInt8) (a i : Nat) : Prop := ∃ (x : List UInt8) (xs : List (List UInt8)), noDot x ∧ 47 ∉ x ∧ (∀ y ∈ xs, noDot y ∧ 47 ∉ y) ∧ p.drop a = x ++ glue xs ∧ a ≤ i ∧ i ≤ a + x.length ∧ a ≤ p.length
theorem seg_start {p : List UInt8} {out : List (List UInt8)} (e : p = glue out) (hne : out ≠ []) (h1 : ∀ x ∈ out, noDot x) (h2 : ∀ x ∈ out, 47 ∉ x) : SegAt p 1 1 := by
  cases out with
  | nil => exact absurd rfl hne
  | cons x xs =>
    refine ⟨x, xs, h1 x (by simp), h2 x (by simp), fun y hy => ⟨h1 y (by simp [hy]), h2 y (by simp [hy])⟩, ?_, Nat.le_refl _, by omega, ?_⟩
    · subst e; simp [glue]
    · subst e; simp [glue]
theorem seg_at {p : List UInt8} {a i : Nat} (h : SegAt p a i) {j : Nat} (hj : i = a + j) : ∃ (x : List UInt8) (xs : List (List UInt8)), noDot x ∧ 47 ∉ x ∧ (∀ y ∈ xs, noDot y ∧ 47 ∉ y) ∧ p.drop a = x ++ glue xs ∧ j ≤ x.length ∧ a ≤ p.length ∧ p[i]? = (x ++ glue xs)[j]? := by
  obtain ⟨x, xs, h1, h2, h3, h4, h5, h6, h7⟩ := h
  refine ⟨x, xs, h1, h2, h3, h4, by omega, h7, ?_⟩
  rw [← h4, List.getElem?_drop, hj]
theorem seg_step {p : List UInt8} {a i : Nat} (h : SegAt p a i) (hi : i < p.length) (hc : p[i]? ≠ some 47) : SegAt p a (i + 1) := by
  have ⟨x, xs, h1, h2, h3, h4, h5, h6, h7⟩ := h
  obtain ⟨x', xs', -, -, -, h4', -, -, h8⟩ := seg_at h (j := i - a) (by omega)
  rw [← h4', h4] at h8
  refine ⟨x, xs, h1, h2, h3, h4, by omega, ?_, h7⟩
  rcases Nat.lt_or_ge i (a + x.length) with hh | hh
  · omega
  · have e : i - a = x.length := by omega
    rw [e, List.getElem?_append_right (Nat.le_refl _), Nat.sub_self] at h8
    cases xs with
    | nil =>
      have := congrArg List.length h4
      simp [glue] at this
      omega
    | cons y ys => exact absurd h8 (by simpa [glue] using hc)
theorem seg_end {p : List UInt8} {a i : Nat} (h : SegAt p a i) (hi : i ≤ p.length) (hc : i < p.length → p[i]? = some 47) : noDot ((p.take i).drop a) ∧ (i < p.length → SegAt p (i + 1) (i + 1)) := by
  have ⟨x, xs, h1, h2, h3, h4, h5, h6, h7⟩ := h
  obtain ⟨x', xs', -, -, -, h4', -, -, h8⟩ := seg_at h (j := i - a) (by omega)
  rw [← h4', h4] at h8
  have hlen := congrArg List.length h4
  simp at hlen
  have e : i = a + x.length := by
    rcases Nat.lt_or_ge i (a + x.length) with hh | hh
    · exfalso
      have hip : i < p.length := by omega
      rw [hc hip, List.getElem?_append_left (by omega)] at h8
      exact h2 (List.mem_of_getElem? h8.symm)
    · omega
  refine ⟨?_, fun hip => ?_⟩
  · have : (p.take i).drop a = x := by
      rw [List.drop_take, h4, e, Nat.add_sub_cancel_left, List.take_left' rfl]
    rw [this]; exact h1
  · cases xs with
    | nil => simp [glue] at hlen; omega
    | cons y ys =>
      refine ⟨y, ys, (h3 y (by simp)).1, (h3 y (by simp)).2, fun z hz => h3 z (by simp [hz]), ?_, Nat.le_refl _, by omega, by omega⟩
      have : p.drop (i + 1) = (p.drop a).drop (x.length + 1) := by rw [List.drop_drop, e]; rfl
      rw [this, h4, List.drop_append]
      simp [glue]

theorem up_back : ∀ v : UInt8, hex2 (up (v / 16)) (up (v % 16)) = some v := all_bytes _ (by decide +kernel)
theorem decoded_up (v : UInt8) : decoded [37, up (v / 16), up (v % 16)] = some [v] := by
  simp [decoded, up_back v]
/-- what stands at a percent sign of a path that is meant -/
theorem code_at {l : List UInt8} (h : Canon l) {i : Nat} (hi : l[i]? = some 37) : ∃ v : UInt8, (l.take (i + 3)).drop i = [37, up (v / 16), up (v % 16)] ∧ unres v = false ∧ l[i + 1]? = some (up (v / 16)) ∧ l[i + 2]? = some (up (v % 16)) := by
  obtain ⟨v, h1, h2, h3⟩ := canon_at h i hi
  refine ⟨v, ?_, h3, h1, h2⟩
  obtain ⟨b0, e0⟩ := List.getElem?_eq_some_iff.1 hi
  obtain ⟨b1, e1⟩ := List.getElem?_eq_some_iff.1 h1
  obtain ⟨b2, e2⟩ := List.getElem?_eq_some_iff.1 h2
  rw [List.drop_take, List.drop_eq_getElem_cons b0, List.drop_eq_getElem_cons b1, List.drop_eq_getElem_cons b2, e0, e1, e2]
  rw [show i + 3 - i = 3 by omega]
  rfl
end Go.Proofs.YthobmfnmenbkeaaDoor
