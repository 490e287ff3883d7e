/- Plain laws of layer 8's words: a path as it is meant is meant again; dot segments laid in change nothing; codes are decoded to what was coded. No program stands in this text. -/
import Derived.Test.YthobmfnmenbkeaaDoorSpec
namespace Go.Proofs.YthobmfnmenbkeaaDoor.Tg

/-! ### cuts and glue -/
theorem cuts_ne (c : UInt8) (l : List UInt8) : cuts c l ≠ [] := by
  cases l with
  | nil => simp [cuts]
  | cons x r =>
    unfold cuts
    split
    · simp
    · split <;> simp

theorem cuts_cons_eq (c : UInt8) (r : List UInt8) : cuts c (c :: r) = [] :: cuts c r := by simp [cuts]
theorem cuts_cons_ne {c x : UInt8} (h : x ≠ c) {r hd : List UInt8} {tl : List (List UInt8)} (e : cuts c r = hd :: tl) : cuts c (x :: r) = (x :: hd) :: tl := by
  simp [cuts, h, e]
theorem cuts_form (c : UInt8) (l : List UInt8) : ∃ hd tl, cuts c l = hd :: tl := by
  cases h : cuts c l with
  | nil => exact absurd h (cuts_ne c l)
  | cons a b => exact ⟨a, b, rfl⟩

theorem cuts_append (c : UInt8) : ∀ a b : List UInt8, cuts c (a ++ c :: b) = cuts c a ++ cuts c b
  | [], b => by simp [cuts]
  | x :: a, b => by
    have ih := cuts_append c a b
    by_cases h : x = c
    · subst h; simp only [List.cons_append, cuts_cons_eq, ih]
    · obtain ⟨hd, tl, e⟩ := cuts_form c a
      rw [e] at ih
      rw [List.cons_append, cuts_cons_ne h (hd := hd) (tl := tl ++ cuts c b) (by rw [ih]; rfl), cuts_cons_ne h e]; rfl

theorem cuts_plain (c : UInt8) : ∀ l : List UInt8, c ∉ l → cuts c l = [l]
  | [], _ => rfl
  | x :: r, h => by
    have hx : x ≠ c := fun e => h (by simp [e])
    exact cuts_cons_ne hx (cuts_plain c r fun m => h (by simp [m]))

theorem cuts_mem (c : UInt8) : ∀ (l s : List UInt8), s ∈ cuts c l → c ∉ s
  | [], s, h => by simp [cuts] at h; subst h; simp
  | x :: r, s, h => by
    by_cases hx : x = c
    · subst hx; rw [cuts_cons_eq] at h
      rcases List.mem_cons.1 h with rfl | h
      · simp
      · exact cuts_mem x r s h
    · obtain ⟨hd, tl, e⟩ := cuts_form c r
      rw [cuts_cons_ne hx e] at h
      rcases List.mem_cons.1 h with rfl | h
      · have := cuts_mem c r hd (by rw [e]; simp)
        simp only [List.mem_cons, not_or]; exact ⟨fun e => hx e.symm, this⟩
      · exact cuts_mem c r s (by rw [e]; simp [h])

theorem glue_nil : glue [] = [] := rfl
theorem glue_cons (a : List UInt8) (l : List (List UInt8)) : glue (a :: l) = 47 :: (a ++ glue l) := by simp [glue]
theorem glue_append (a b : List (List UInt8)) : glue (a ++ b) = glue a ++ glue b := by simp [glue]

theorem glue_cuts : ∀ l : List UInt8, glue (cuts 47 l) = 47 :: l
  | [] => by simp [cuts, glue]
  | x :: r => by
    have ih := glue_cuts r
    by_cases h : x = 47
    · subst h; rw [cuts_cons_eq, glue_cons, ih]; rfl
    · obtain ⟨hd, tl, e⟩ := cuts_form 47 r
      rw [e, glue_cons] at ih
      rw [cuts_cons_ne h e, glue_cons]
      simp only [List.cons.injEq, true_and] at ih
      simp [ih]

theorem cuts_glue : ∀ l : List (List UInt8), l ≠ [] → (∀ s ∈ l, 47 ∉ s) → cuts 47 (glue l).tail = l
  | [], h, _ => absurd rfl h
  | [a], _, h => by rw [glue_cons, glue_nil, List.append_nil, List.tail_cons, cuts_plain 47 a (h a (by simp))]
  | a :: b :: l, _, h => by
    have ih := cuts_glue (b :: l) (by simp) (fun s hs => h s (by simp at hs ⊢; exact .inr hs))
    rw [glue_cons, List.tail_cons]
    rw [glue_cons] at ih ⊢
    rw [List.tail_cons] at ih
    rw [cuts_append, cuts_plain 47 a (h a (by simp)), ih]; rfl

/-! ### dot segments -/
def noDot (s : List UInt8) : Prop := s ≠ [46] ∧ s ≠ [46, 46]

theorem dots_nil (out : List (List UInt8)) : dots out [] = some out := by simp [dots]
theorem dots_plain {s : List UInt8} (h : noDot s) (out t : List (List UInt8)) : dots out (s :: t) = dots (out ++ [s]) t := by
  rw [dots, if_neg h.2, if_neg h.1]
theorem dots_one (out : List (List UInt8)) {t : List (List UInt8)} (h : t ≠ []) : dots out ([46] :: t) = dots out t := by
  rw [dots]; simp [h]
theorem dots_two (out : List (List UInt8)) (x : List UInt8) {t : List (List UInt8)} (h : t ≠ []) : dots (out ++ [x]) ([46, 46] :: t) = dots out t := by
  rw [dots]; simp [h]
theorem dots_all : ∀ (l out : List (List UInt8)), (∀ s ∈ l, noDot s) → ∀ t, dots out (l ++ t) = dots (out ++ l) t
  | [], out, _, t => by simp
  | s :: l, out, h, t => by
    rw [List.cons_append, dots_plain (h s (by simp)), dots_all l (out ++ [s]) (fun x hx => h x (by simp [hx])) t]; simp
theorem dots_same (l : List (List UInt8)) (h : ∀ s ∈ l, noDot s) : dots [] l = some l := by
  have := dots_all l [] h []
  rw [List.append_nil, dots_nil] at this
  simpa using this

theorem dots_keeps (Q : List UInt8 → Prop) (hQ : Q []) : ∀ (l out o : List (List UInt8)), (∀ s ∈ out, noDot s ∧ Q s) → (∀ s ∈ l, Q s) → dots out l = some o → ∀ s ∈ o, noDot s ∧ Q s := by
  intro l
  induction l with
  | nil => intro out o h _ e; rw [dots_nil] at e; cases e; exact h
  | cons s t ih =>
    intro out o h hl e
    have ht : ∀ x ∈ t, Q x := fun x hx => hl x (by simp [hx])
    have hd : ∀ x ∈ out.dropLast, noDot x ∧ Q x := fun x hx => h x ((List.dropLast_sublist _).subset hx)
    have he : noDot ([] : List UInt8) := ⟨by simp, by simp⟩
    unfold dots at e
    split at e
    · split at e
      · cases e
      · split at e
        · cases e
          intro x hx
          rcases List.mem_append.1 hx with hx | hx
          · exact hd x hx
          · simp at hx; subst hx; exact ⟨he, hQ⟩
        · exact ih _ o hd ht e
    · split at e
      · split at e
        · cases e
          intro x hx
          rcases List.mem_append.1 hx with hx | hx
          · exact h x hx
          · simp at hx; subst hx; exact ⟨he, hQ⟩
        · exact ih _ o h ht e
      · rename_i h2 h1
        refine ih _ o ?_ ht e
        intro x hx
        rcases List.mem_append.1 hx with hx | hx
        · exact h x hx
        · simp at hx; subst hx; exact ⟨⟨h1, h2⟩, hl _ (by simp)⟩

theorem dots_ne : ∀ (l out o : List (List UInt8)), (l ≠ [] ∨ out ≠ []) → dots out l = some o → o ≠ [] := by
  intro l
  induction l with
  | nil => intro out o h e; rw [dots_nil] at e; cases e; simpa using h
  | cons s t ih =>
    intro out o _ e
    unfold dots at e
    split at e
    · split at e
      · cases e
      · split at e
        · cases e; simp
        · rename_i ht; exact ih _ o (.inl ht) e
    · split at e
      · split at e
        · cases e; simp
        · rename_i ht; exact ih _ o (.inl ht) e
      · exact ih _ o (.inr (by simp)) e

/-! ### bytes -/
theorem hexv_coded : ∀ v : UInt8, hex2 (up (v / 16)) (up (v % 16)) = some v := all_bytes _ (by decide +kernel)
theorem up_lo : ∀ v : UInt8, up (v / 16) < 97 ∧ up (v % 16) < 97 := all_bytes _ (by decide +kernel)
theorem hexv_not : ∀ x : UInt8, hexv x ≠ none → x ≠ 47 ∧ x ≠ 37 := all_bytes _ (by decide +kernel)
theorem pathB_not : ∀ x : UInt8, (pathB x || slash x) = true → x ≠ 37 := all_bytes _ (by decide +kernel)
theorem hex2_some {x y v : UInt8} (h : hex2 x y = some v) : hexv x ≠ none ∧ hexv y ≠ none := by
  unfold hex2 at h
  split at h
  · rename_i a b ha hb; exact ⟨by simp [ha], by simp [hb]⟩
  · cases h
theorem unres_not : ∀ x : UInt8, unres x = true → x ≠ 37 ∧ pathB x = true := all_bytes _ (by decide +kernel)

theorem hexv_lt : ∀ x : UInt8, ((hexv x).getD 0) < 16 := all_bytes _ (by decide +kernel)
theorem hexv_lt' {x v : UInt8} (h : hexv x = some v) : v < 16 := by have := hexv_lt x; rw [h] at this; exact this
theorem shl_or : ∀ a b : UInt8, a < 16 → b < 16 → a <<< 4 ||| b = a * 16 + b := by
  intro a b ha hb
  obtain ⟨m, hm⟩ : ∃ m : Fin 16, a = UInt8.ofNat m.val := ⟨⟨a.toNat, by simpa [UInt8.lt_iff_toNat_lt] using ha⟩, by simp⟩
  obtain ⟨n, hn⟩ : ∃ n : Fin 16, b = UInt8.ofNat n.val := ⟨⟨b.toNat, by simpa [UInt8.lt_iff_toNat_lt] using hb⟩, by simp⟩
  subst hm hn
  revert m n
  decide +kernel
theorem code_raw {l : List UInt8} {v : UInt8} (h : code l = some v) : rawCode l = v := by
  unfold code at h
  split at h
  · rename_i p x y _
    split at h
    · rename_i hp
      show (if p = 37 then ((hexv x).getD 0) <<< 4 ||| (hexv y).getD 0 else 0) = v
      rw [if_pos hp]
      unfold hex2 at h
      split at h
      · rename_i a b ha hb
        cases h
        rw [ha, hb]
        exact shl_or a b (hexv_lt' ha) (hexv_lt' hb)
      · cases h
    · cases h
  · cases h
theorem code_cons (p x y : UInt8) (r : List UInt8) : code (p :: x :: y :: r) = if p = 37 then hex2 x y else none := rfl
theorem code_short {l : List UInt8} (h : l.length < 3) : code l = none ∧ rawCode l = 0 := by
  match l with
  | [] => exact ⟨rfl, rfl⟩
  | [_] => exact ⟨rfl, rfl⟩
  | [_, _] => exact ⟨rfl, rfl⟩
  | _ :: _ :: _ :: _ => simp at h; omega
theorem code_not {p : UInt8} (h : p ≠ 37) (r : List UInt8) : code (p :: r) = none ∧ rawCode (p :: r) = 0 := by
  match r with
  | [] => exact ⟨rfl, rfl⟩
  | [_] => exact ⟨rfl, rfl⟩
  | x :: y :: r => exact ⟨by rw [code_cons, if_neg h], by show (if p = 37 then ((hexv x).getD 0) <<< 4 ||| (hexv y).getD 0 else 0) = 0; rw [if_neg h]⟩

/-! ### made, meant -/
theorem made_nil (oth : UInt8 → Bool) (on : Bool) : made oth on [] = true := by simp [made]
theorem made_code (oth : UInt8 → Bool) (on : Bool) (x y : UInt8) (r : List UInt8) : made oth on (37 :: x :: y :: r) = (match hex2 x y with | some v => !soft on v && made oth on r | none => false) := by rw [Tg.made]; rfl
theorem made_byte (oth : UInt8 → Bool) (on : Bool) {c : UInt8} (h : c ≠ 37) : ∀ r : List UInt8, made oth on (c :: r) = ((pathB c || oth c) && made oth on r)
  | [] => by unfold Tg.made; rw [if_neg h]; rfl
  | [x] => by rw [Tg.made, if_neg h]; intro a b c e; simp at e
  | x :: y :: r => by rw [Tg.made, if_neg h]
theorem meant_nil : meant [] = [] := by simp [meant]
theorem meant_code {x y v : UInt8} (h : hex2 x y = some v) (r : List UInt8) : meant (37 :: x :: y :: r) = (if unres v then [v] else coded v) ++ meant r := by simp [meant, code, h]
theorem meant_byte {c : UInt8} (h : c ≠ 37) (r : List UInt8) : meant (c :: r) = c :: meant r := by
  match r with
  | [] => simp [meant]
  | [x] => simp [meant]
  | x :: y :: r => rw [meant]; simp [code, h]

/-- A text of path bytes, slashes and codes that is meant already. -/
inductive Canon : List UInt8 → Prop where
  | nil : Canon []
  | byte {c : UInt8} {r : List UInt8} (h : (pathB c || slash c) = true) (hr : Canon r) : Canon (c :: r)
  | code {v : UInt8} {r : List UInt8} (h : unres v = false) (hs : soft true v = false) (hr : Canon r) : Canon (37 :: up (v / 16) :: up (v % 16) :: r)

theorem Canon.meant {l : List UInt8} (h : Canon l) : ∀ z, Tg.meant (l ++ z) = l ++ Tg.meant z := by
  induction h with
  | nil => intro z; rfl
  | byte h _ ih => intro z; rw [List.cons_append, meant_byte (pathB_not _ h), ih]; rfl
  | code h _ _ ih => intro z; simp only [List.cons_append]; rw [meant_code (hexv_coded _), ih, h]; rfl
theorem Canon.made {l : List UInt8} (h : Canon l) : ∀ z, Tg.made slash true (l ++ z) = Tg.made slash true z := by
  induction h with
  | nil => intro z; rfl
  | byte h _ ih => intro z; rw [List.cons_append, made_byte _ _ (pathB_not _ h), ih, h]; rfl
  | code h hs _ ih => intro z; simp only [List.cons_append]; rw [made_code, hexv_coded, ih]; simp [hs]
theorem Canon.meant_self {l : List UInt8} (h : Canon l) : Tg.meant l = l := by
  have := h.meant []
  simpa [meant_nil] using this
theorem Canon.made_self {l : List UInt8} (h : Canon l) : Tg.made slash true l = true := by
  have := h.made []
  simpa [made_nil] using this
theorem Canon.append {a b : List UInt8} (h : Canon a) (hb : Canon b) : Canon (a ++ b) := by
  induction h with
  | nil => exact hb
  | byte h _ ih => exact .byte h ih
  | code h hs _ ih => exact .code h hs ih
theorem Canon.slash {l : List UInt8} (h : Canon l) : Canon (47 :: l) := .byte (by decide) h

theorem canon_meant : ∀ (n : Nat) (l : List UInt8), l.length ≤ n → Tg.made slash true l = true → Canon (Tg.meant l) := by
  intro n
  induction n with
  | zero => intro l hl _; obtain rfl : l = [] := List.eq_nil_of_length_eq_zero (by omega); rw [meant_nil]; exact .nil
  | succ n ih =>
    intro l hl h
    match l with
    | [] => rw [meant_nil]; exact .nil
    | c :: r =>
      by_cases hc : c = 37
      · subst hc
        match r with
        | [] => simp [Tg.made] at h
        | [x] => simp [Tg.made] at h
        | x :: y :: r' =>
          rw [made_code] at h
          cases e : hex2 x y with
          | none => rw [e] at h; simp at h
          | some v =>
            rw [e] at h
            simp only [Bool.and_eq_true, Bool.not_eq_true'] at h
            rw [meant_code e]
            have hr := ih r' (by simp at hl; omega) h.2
            cases hu : unres v with
            | true => exact .byte (by simp [(unres_not v hu).2]) hr
            | false => exact .code hu h.1 hr
      · rw [made_byte _ _ hc, Bool.and_eq_true] at h
        rw [meant_byte hc]
        exact .byte h.1 (ih r (by simp at hl; omega) h.2)

theorem canon_cuts {l : List UInt8} (h : Canon l) : ∀ s ∈ cuts 47 l, Canon s := by
  induction h with
  | nil => intro s hs; simp [cuts] at hs; subst hs; exact .nil
  | @byte c r h _ ih =>
    intro s hs
    by_cases hc : c = 47
    · subst hc; rw [cuts_cons_eq] at hs
      rcases List.mem_cons.1 hs with rfl | hs
      · exact .nil
      · exact ih s hs
    · obtain ⟨hd, tl, e⟩ := cuts_form 47 r
      rw [cuts_cons_ne hc e] at hs
      rcases List.mem_cons.1 hs with rfl | hs
      · exact .byte h (ih hd (by rw [e]; simp))
      · exact ih s (by rw [e]; simp [hs])
  | @code v r hu hsf _ ih =>
    intro s hs
    have hx := hex2_some (hexv_coded v)
    obtain ⟨hd, tl, e⟩ := cuts_form 47 r
    rw [cuts_cons_ne (by decide) (cuts_cons_ne (hexv_not _ hx.1).1 (cuts_cons_ne (hexv_not _ hx.2).1 e))] at hs
    rcases List.mem_cons.1 hs with rfl | hs
    · exact .code hu hsf (ih hd (by rw [e]; simp))
    · exact ih s (by rw [e]; simp [hs])
theorem canon_glue (l : List (List UInt8)) (h : ∀ s ∈ l, Canon s) : Canon (glue l) := by
  induction l with
  | nil => exact .nil
  | cons a l ih => rw [glue_cons]; exact ((h a (by simp)).append (ih fun s hs => h s (by simp [hs]))).slash

/-- A canon text cut at a slash. -/
theorem canon_split : ∀ {a b : List UInt8}, Canon (a ++ 47 :: b) → Canon a ∧ Canon b := by
  intro a b h
  generalize hl : a ++ 47 :: b = l at h
  induction h generalizing a with
  | nil => simp at hl
  | @byte c r h hr ih =>
    cases a with
    | nil => simp at hl; obtain ⟨_, rfl⟩ := hl; exact ⟨.nil, hr⟩
    | cons x a =>
      simp at hl
      obtain ⟨rfl, hl⟩ := hl
      obtain ⟨h1, h2⟩ := ih hl
      exact ⟨.byte h h1, h2⟩
  | @code v r hu hs hr ih =>
    have hx := hex2_some (hexv_coded v)
    match a with
    | [] => simp at hl
    | [x] => simp at hl; exact absurd hl.2.1.symm (hexv_not _ hx.1).1
    | [x, y] => simp at hl; exact absurd hl.2.2.1.symm (hexv_not _ hx.2).1
    | x :: y :: z :: a =>
      simp at hl
      obtain ⟨rfl, rfl, rfl, hl⟩ := hl
      obtain ⟨h1, h2⟩ := ih hl
      exact ⟨.code hu hs h1, h2⟩

/-- What stands at each place of a canon text where a code begins. -/
theorem canon_at {l : List UInt8} (h : Canon l) : ∀ i : Nat, l[i]? = some 37 → ∃ v : UInt8, l[i + 1]? = some (up (v / 16)) ∧ l[i + 2]? = some (up (v % 16)) ∧ unres v = false := by
  induction h with
  | nil => intro i hi; simp at hi
  | @byte c r h hr ih =>
    intro i hi
    cases i with
    | zero => simp at hi; exact absurd hi (pathB_not _ h)
    | succ i => simpa using ih i (by simpa using hi)
  | @code v r hu hs hr ih =>
    intro i hi
    have hx := hex2_some (hexv_coded v)
    match i with
    | 0 => exact ⟨v, by simp, by simp, hu⟩
    | 1 => simp at hi; exact absurd hi (hexv_not _ hx.1).2
    | 2 => simp at hi; exact absurd hi (hexv_not _ hx.2).2
    | i + 3 => simpa using ih i (by simpa using hi)

/-! ### the path as it is meant -/
theorem segs_facts {p : List UInt8} {out : List (List UInt8)} (h : segs p = some out) : out ≠ [] ∧ (∀ s ∈ out, noDot s) ∧ (∀ s ∈ out, 47 ∉ s) ∧ Canon (glue out) := by
  unfold segs at h
  split at h
  · rename_i hp
    have hm : made slash true p = true := by
      cases p with
      | nil => simp [isPath] at hp
      | cons c r => simp [isPath] at hp; exact hp.2
    have hc : Canon (meant p) := canon_meant p.length p (Nat.le_refl _) hm
    obtain ⟨t, ht⟩ : ∃ t, meant p = 47 :: t := by
      cases p with
      | nil => simp [isPath] at hp
      | cons c r => simp [isPath] at hp; obtain ⟨rfl, _⟩ := hp; exact ⟨_, meant_byte (by decide) r⟩
    rw [ht] at hc h
    have hct : Canon t := (canon_split (a := []) hc).2
    have k := dots_keeps (fun s => 47 ∉ s ∧ Canon s) ⟨by simp, .nil⟩ _ _ out (by simp) (fun s hs => ⟨cuts_mem 47 _ s hs, canon_cuts hct s hs⟩) h
    exact ⟨dots_ne _ _ _ (.inl (cuts_ne _ _)) h, fun s hs => (k s hs).1, fun s hs => (k s hs).2.1, canon_glue _ fun s hs => (k s hs).2.2⟩
  · cases h

theorem segs_glue {out : List (List UInt8)} (h1 : out ≠ []) (h2 : ∀ s ∈ out, noDot s) (h3 : ∀ s ∈ out, 47 ∉ s) (h4 : Canon (glue out)) : segs (glue out) = some out := by
  have hp : isPath (glue out) = true := by
    cases out with
    | nil => exact absurd rfl h1
    | cons a l =>
      have := h4.made_self
      rw [glue_cons] at this ⊢
      simp [isPath, this]
  unfold segs
  rw [if_pos hp, h4.meant_self, cuts_glue out h1 h3, dots_same out h2]

theorem segs_idem {p : List UInt8} {out : List (List UInt8)} (h : segs p = some out) : segs (glue out) = some out :=
  have f := segs_facts h
  segs_glue f.1 f.2.1 f.2.2.1 f.2.2.2

theorem normal_idem {p s : List UInt8} (h : normal p = some s) : normal s = some s := by
  unfold normal at h ⊢
  cases e : segs p with
  | none => rw [e] at h; cases h
  | some out =>
    rw [e] at h
    simp only [Option.map_some, Option.some.injEq] at h
    subst h
    rw [segs_idem e]; rfl

theorem normal_facts {p s : List UInt8} (h : normal p = some s) : ∃ out, s = glue out ∧ out ≠ [] ∧ (∀ x ∈ out, noDot x) ∧ (∀ x ∈ out, 47 ∉ x) ∧ Canon s := by
  unfold normal at h
  cases e : segs p with
  | none => rw [e] at h; cases h
  | some out =>
    rw [e] at h
    simp only [Option.map_some, Option.some.injEq] at h
    subst h
    have f := segs_facts e
    exact ⟨out, rfl, f.1, f.2.1, f.2.2.1, f.2.2.2⟩

/-- A text laid in ahead of a slash that is itself meant away. -/
theorem normal_laid {p a b m : List UInt8} (h : normal p = some (a ++ 47 :: b)) (hm : made slash true (47 :: m ++ 47 :: b) = true) (ht : meant (47 :: m ++ 47 :: b) = 47 :: meant m ++ 47 :: b)
    (hd : ∀ out t, t ≠ [] → dots out (cuts 47 (meant m) ++ t) = dots out t) : normal (a ++ (47 :: m) ++ 47 :: b) = some (a ++ 47 :: b) := by
  obtain ⟨out, e, h1, h2, h3, h4⟩ := normal_facts h
  obtain ⟨ha, hb⟩ := canon_split h4
  have hs : segs (a ++ 47 :: b) = some out := by rw [e] at h4 ⊢; exact segs_glue h1 h2 h3 h4
  have hout : out = cuts 47 (a ++ 47 :: b).tail := by rw [e, cuts_glue out h1 h3]
  have hpath : isPath (a ++ (47 :: m) ++ 47 :: b) = true := by
    cases a with
    | nil =>
      simp only [List.nil_append] at *
      simp only [List.cons_append] at hm ⊢
      simp [isPath, hm]
    | cons x a =>
      have hx : x = 47 := by
        cases out with
        | nil => exact absurd rfl h1
        | cons o l => rw [glue_cons] at e; simp at e; exact e.1
      subst hx
      have := ha.made (47 :: m ++ 47 :: b)
      rw [hm] at this
      simp only [List.cons_append, List.append_assoc] at this ⊢
      simp [isPath, this]
  have hmean : meant (a ++ (47 :: m) ++ 47 :: b) = a ++ (47 :: meant m ++ 47 :: b) := by
    rw [List.append_assoc, ha.meant, ht]
  have key : dots [] (cuts 47 (meant (a ++ (47 :: m) ++ 47 :: b)).tail) = some out := by
    rw [hmean]
    cases a with
    | nil =>
      simp only [List.nil_append, List.tail_cons, List.cons_append] at hout ⊢
      rw [cuts_append, hd _ _ (cuts_ne _ _), ← hout]
      exact dots_same out h2
    | cons x a =>
      simp only [List.tail_cons, List.cons_append] at hout ⊢
      rw [cuts_append] at hout
      rw [cuts_append, cuts_append]
      have hn1 : ∀ s ∈ cuts 47 a, noDot s := fun s hs => h2 s (by rw [hout]; simp [hs])
      have hn2 : ∀ s ∈ cuts 47 b, noDot s := fun s hs => h2 s (by rw [hout]; simp [hs])
      rw [dots_all _ [] hn1, List.nil_append, hd _ _ (cuts_ne _ _), ← List.append_nil (cuts 47 b), dots_all _ _ hn2, dots_nil, hout]
  unfold normal segs
  rw [if_pos hpath, key, e]; rfl

theorem normal_dot {p a b : List UInt8} (h : normal p = some (a ++ 47 :: b)) : normal (a ++ [47, 46] ++ 47 :: b) = some (a ++ 47 :: b) := by
  obtain ⟨out, e, h1, h2, h3, h4⟩ := normal_facts h
  have hb := (canon_split h4).2
  have hc : Canon (47 :: [46] ++ 47 :: b) := (Canon.byte (by decide) (Canon.slash hb)).slash
  refine normal_laid (m := [46]) h hc.made_self ?_ ?_
  · rw [hc.meant_self]; rfl
  · intro out t ht
    rw [show meant [46] = [46] from by decide, show cuts 47 [46] = [[46]] from by decide]
    exact dots_one out ht

theorem normal_dots {p a b : List UInt8} (h : normal p = some (a ++ 47 :: b)) : normal (a ++ [47, 120, 47, 37, 50, 69, 46] ++ 47 :: b) = some (a ++ 47 :: b) := by
  obtain ⟨out, e, h1, h2, h3, h4⟩ := normal_facts h
  have hb := (canon_split h4).2
  have hc : Canon ([47, 120, 47] : List UInt8) := (Canon.byte (by decide) (Canon.byte (by decide) .nil)).slash
  have hc2 : Canon (46 :: 47 :: b) := Canon.byte (by decide) hb.slash
  have e1 : (47 :: [120, 47, 37, 50, 69, 46] ++ 47 :: b : List UInt8) = [47, 120, 47] ++ (37 :: 50 :: 69 :: 46 :: 47 :: b) := rfl
  refine normal_laid (m := [120, 47, 37, 50, 69, 46]) h ?_ ?_ ?_
  · rw [e1, hc.made, made_code, hc2.made_self, show hex2 50 69 = some 46 from by decide]; rfl
  · rw [e1, hc.meant, meant_code (show hex2 50 69 = some 46 from by decide), hc2.meant_self, show meant [120, 47, 37, 50, 69, 46] = [120, 47, 46, 46] from by decide]; rfl
  · intro out t ht
    rw [show meant [120, 47, 37, 50, 69, 46] = [120, 47, 46, 46] from by decide, show cuts 47 [120, 47, 46, 46] = [[120], [46, 46]] from by decide]
    simp only [List.cons_append, List.nil_append]
    rw [dots_plain ⟨by decide, by decide⟩]
    exact dots_two out [120] ht

/-! ### codes -/
theorem decode_nil : decoded [] = some [] := by simp [decoded]
theorem decode_byte {c : UInt8} (h : c ≠ 37) : ∀ r : List UInt8, decoded (c :: r) = (decoded r).map (c :: ·)
  | [] => by unfold decoded; rw [if_neg h]; rfl
  | [x] => by rw [decoded, if_neg h]; intro a b c e; simp at e
  | x :: y :: r => by rw [decoded, if_neg h]
theorem decode_code {x y v : UInt8} (h : hex2 x y = some v) (r : List UInt8) : decoded (37 :: x :: y :: r) = (decoded r).map (v :: ·) := by rw [decoded, if_pos rfl]; simp only [h]
theorem decode_encode (l : List UInt8) : decoded (encode l) = some l := by
  induction l with
  | nil => exact decode_nil
  | cons c r ih =>
    unfold encode at ih ⊢
    rw [List.flatMap_cons]
    cases hu : unres c with
    | true => simp only [if_true, List.cons_append, List.nil_append]; rw [decode_byte (unres_not c hu).1, ih]; rfl
    | false => rw [if_neg (by simp)]; show decoded (37 :: up (c / 16) :: up (c % 16) :: (List.flatMap (fun c => if unres c = true then [c] else coded c) r)) = _; rw [decode_code (hexv_coded c), ih]; rfl

end Go.Proofs.YthobmfnmenbkeaaDoor.Tg
