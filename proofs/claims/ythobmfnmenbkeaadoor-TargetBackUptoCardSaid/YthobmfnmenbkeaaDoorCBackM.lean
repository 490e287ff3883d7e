/- Proved: TargetBack answers true for every path, where what it reads is of bulk at most 1048576: the law's card in its second form. -/
import Derived.Test.YthobmfnmenbkeaaDoorMA
import Derived.Test.YthobmfnmenbkeaaDoorMC
import Derived.Test.YthobmfnmenbkeaaDoorMB
import Derived.Test.YthobmfnmenbkeaaDoorCards
import Derived.Test.YthobmfnmenbkeaaDoorTie
import Derived.ProofKit
import Derived.OpenShut
import Derived.Deep.DeepHandedRow
import Derived.ShutString
import Derived.Lay
import Derived.PinnedBridge
import Derived.Lib.LaidU8
import Derived.Lib.LaidCaseMet
/- Plain laws of a target's text: what is told of a target's parts is read as them. No program stands in this text. -/
section
set_option linter.unusedVariables false
set_option linter.unusedSimpArgs false
namespace Go.Proofs.YthobmfnmenbkeaaDoor.Tg

theorem cutAt_join (c : UInt8) : ∀ l : List UInt8, (cutAt c l).1 ++ (if (cutAt c l).2.2 then c :: (cutAt c l).2.1 else []) = l
  | [] => rfl
  | x :: r => by
    unfold cutAt
    by_cases h : x = c
    · rw [if_pos h]; subst h; rfl
    · rw [if_neg h]
      have := cutAt_join c r
      simp only [List.cons_append, this]
theorem cutAt_free (c : UInt8) : ∀ l : List UInt8, c ∉ (cutAt c l).1
  | [] => by simp [cutAt]
  | x :: r => by
    unfold cutAt
    by_cases h : x = c
    · rw [if_pos h]; simp
    · rw [if_neg h]
      have := cutAt_free c r
      simp only [List.mem_cons, not_or]
      exact ⟨fun e => h e.symm, this⟩
theorem cutAt_none {c : UInt8} : ∀ {l : List UInt8}, (cutAt c l).2.2 = false → (cutAt c l).2.1 = []
  | [], _ => rfl
  | x :: r, h => by
    unfold cutAt at h ⊢
    by_cases e : x = c
    · rw [if_pos e] at h; cases h
    · rw [if_neg e] at h ⊢; exact cutAt_none h
theorem cutAt_app {c : UInt8} {p : List UInt8} (hp : c ∉ p) (q : List UInt8) : cutAt c (p ++ c :: q) = (p, q, true) := by
  induction p with
  | nil => simp [cutAt]
  | cons x r ih =>
    simp only [List.mem_cons, not_or] at hp
    rw [List.cons_append, cutAt, if_neg (fun e => hp.1 e.symm), ih hp.2]
theorem cutAt_whole {c : UInt8} {p : List UInt8} (hp : c ∉ p) : cutAt c p = (p, [], false) := by
  induction p with
  | nil => rfl
  | cons x r ih =>
    simp only [List.mem_cons, not_or] at hp
    rw [cutAt, if_neg (fun e => hp.1 e.symm), ih hp.2]
def mark (b : Bool) (q : List UInt8) : List UInt8 := if b then 63 :: q else []
theorem cutAt_mark {p : List UInt8} (hp : 63 ∉ p) {q : List UInt8} {b : Bool} (hq : b = false → q = []) : cutAt 63 (p ++ mark b q) = (p, q, b) := by
  cases b with
  | true => exact cutAt_app hp q
  | false => rw [hq rfl]; unfold mark; simp [cutAt_whole hp]

/-- a target's parts as a text: the program's, and the reference's -/
def progS (t : T) : List UInt8 := if t.form = 3 then [42] else if t.form = 2 then http ++ t.host ++ (if t.path = [47] then [] else t.path) else t.path
def refS (t : T) : List UInt8 := if t.form = 3 then [42] else if t.form = 1 then t.path else if t.form = 2 then http ++ t.host ++ (if t.path = [47] then [] else t.path) else []
def withQ (s : List UInt8) (t : T) : List UInt8 := s ++ mark t.has t.query
def textL (t : T) : List UInt8 := withQ (progS t) t

theorem behind_form (form : Int) (h r : List UInt8) (e : (behind form h r).1 = 0) : behind form h r = (0, ⟨form, h, if (cutAt 63 r).1 = [] ∧ form = 2 then [47] else (cutAt 63 r).1, (cutAt 63 r).2.1, (cutAt 63 r).2.2⟩) ∧ isPath (if (cutAt 63 r).1 = [] ∧ form = 2 then [47] else (cutAt 63 r).1) = true ∧ isQuery (cutAt 63 r).2.1 = true := by
  unfold behind at e ⊢
  dsimp only at e ⊢
  generalize (if (cutAt 63 r).1 = [] ∧ form = 2 then ([47] : List UInt8) else (cutAt 63 r).1) = p at *
  split
  · rename_i hc
    rw [Bool.and_eq_true] at hc
    exact ⟨rfl, hc⟩
  · rename_i hc
    rw [if_neg hc] at e
    exact absurd e (by decide)
theorem behind_zero (form : Int) (h r : List UInt8) (e : (behind form h r).1 ≠ 0) : behind form h r = (23, zeroT) := by
  unfold behind at e ⊢
  dsimp only at e ⊢
  generalize (if (cutAt 63 r).1 = [] ∧ form = 2 then ([47] : List UInt8) else (cutAt 63 r).1) = p at *
  split
  · rename_i hc
    rw [if_pos hc] at e
    exact absurd rfl e
  · rfl
theorem parse_bad (l : List UInt8) (e : (parse l).1 ≠ 0) : (parse l).2 = zeroT := by
  unfold parse at e ⊢
  split
  · rfl
  · rename_i h1
    rw [if_neg h1] at e
    split
    · rename_i h2
      rw [if_pos h2] at e
      exact absurd rfl e
    · rename_i h2
      rw [if_neg h2] at e
      split
      · rename_i h3
        rw [if_pos h3] at e
        split
        · rename_i h4
          rw [if_pos h4] at e
          rw [behind_zero _ _ _ e]
        · rfl
      · rename_i h3
        rw [if_neg h3] at e
        rw [behind_zero _ _ _ e]
theorem parse_form (l : List UInt8) (e : (parse l).1 = 0) : (parse l).2.form = 1 ∨ (parse l).2.form = 2 ∨ (parse l).2.form = 3 := by
  unfold parse at e ⊢
  split
  · rename_i h1; rw [if_pos h1] at e; exact absurd e (by decide)
  · rename_i h1
    rw [if_neg h1] at e
    split
    · exact .inr (.inr rfl)
    · rename_i h2
      rw [if_neg h2] at e
      split
      · rename_i h3
        rw [if_pos h3] at e
        split
        · rename_i h4
          rw [if_pos h4] at e
          rw [(behind_form _ _ _ e).1]; exact .inr (.inl rfl)
        · rename_i h4
          rw [if_neg h4] at e; exact absurd e (by decide)
      · rename_i h3
        rw [if_neg h3] at e
        rw [(behind_form _ _ _ e).1]; exact .inl rfl

theorem low_host : ∀ c : UInt8, hostB c = true → hostB (low c) = true ∧ Tg.stop (low c) = false ∧ Tg.stop c = false := all_bytes _ (by decide +kernel)
theorem low_low : ∀ c : UInt8, low (low c) = low c := all_bytes _ (by decide +kernel)
theorem lower_lower (l : List UInt8) : lower (lower l) = lower l := by unfold lower; rw [List.map_map]; exact List.map_congr_left fun c _ => low_low c
theorem take_stop {h r : List UInt8} (hh : ∀ c ∈ h, Tg.stop c = false) (hr : r = [] ∨ ∃ x t, r = x :: t ∧ Tg.stop x = true) : hostOf (h ++ r) = h ∧ afterHost (h ++ r) = r := by
  induction h with
  | nil =>
    rcases hr with rfl | ⟨x, t, rfl, hx⟩
    · exact ⟨rfl, rfl⟩
    · unfold hostOf afterHost; simp [hx]
  | cons x t ih =>
    have hx := hh x (by simp)
    obtain ⟨h1, h2⟩ := ih (fun c hc => hh c (by simp [hc]))
    unfold hostOf at h1 ⊢
    unfold afterHost at h2 ⊢
    simp [hx, h1, h2]
theorem host_join : ∀ l : List UInt8, hostOf l ++ afterHost l = l := fun l => List.takeWhile_append_dropWhile
theorem after_stop : ∀ l : List UInt8, afterHost l = [] ∨ ∃ x t, afterHost l = x :: t ∧ Tg.stop x = true
  | [] => .inl rfl
  | x :: r => by
    unfold afterHost
    rw [List.dropWhile_cons]
    cases h : Tg.stop x with
    | true => exact .inr ⟨x, r, by simp, h⟩
    | false => exact after_stop r
theorem path_start {p : List UInt8} (h : isPath p = true) : ∃ r, p = 47 :: r := by
  cases p with
  | nil => cases h
  | cons x r => simp [isPath] at h; exact ⟨r, by rw [h.1]⟩

/-- what is told of the parts of a target that was read is read as them, and is no longer -/
theorem parse_text (l : List UInt8) (t : T) (h : parse l = (0, t)) : parse (textL t) = (0, t) ∧ (textL t).length ≤ l.length := by
  have e0 : (parse l).1 = 0 := by rw [h]
  have h' := h
  unfold parse at h
  by_cases h1 : 65536 < l.length
  · rw [if_pos h1] at h; cases h
  rw [if_neg h1] at h
  by_cases h2 : l = [42]
  · rw [if_pos h2] at h
    cases h
    subst h2
    exact ⟨by decide +kernel, by decide +kernel⟩
  rw [if_neg h2] at h
  cases h3 : isHttp l with
  | false =>
    rw [h3] at h
    simp only [Bool.false_eq_true, if_false] at h
    have hf := behind_form 1 [] l (by rw [h])
    rw [hf.1] at h
    cases h
    have hj := cutAt_join 63 l
    have e : textL ⟨1, [], if (cutAt 63 l).1 = [] ∧ (1 : Int) = 2 then [47] else (cutAt 63 l).1, (cutAt 63 l).2.1, (cutAt 63 l).2.2⟩ = l := by
      unfold textL withQ progS mark
      simp only [show ¬ (1 : Int) = 3 by decide, show ¬ (1 : Int) = 2 by decide, and_false, if_false]
      exact hj
    rw [e]
    exact ⟨h', Nat.le_refl _⟩
  | true =>
    rw [h3] at h
    simp only [if_true] at h
    cases h4 : isHost (hostOf (l.drop 7)) with
    | false => rw [h4] at h; simp only [Bool.false_eq_true, if_false] at h; cases h
    | true =>
      rw [h4] at h
      simp only [if_true] at h
      have hf := behind_form 2 (lower (hostOf (l.drop 7))) (afterHost (l.drop 7)) (by rw [h])
      rw [hf.1] at h
      cases h
      have hj := host_join (l.drop 7)
      have h7 : 7 ≤ l.length := by unfold isHttp at h3; simp at h3; exact h3.1
      have hall : (hostOf (l.drop 7)).all hostB = true := by unfold isHost at h4; simp only [Bool.and_eq_true] at h4; exact h4.1.1
      have hln : decide (1 ≤ (hostOf (l.drop 7)).length) = true ∧ decide ((hostOf (l.drop 7)).length ≤ 255) = true := by unfold isHost at h4; simp only [Bool.and_eq_true] at h4; exact ⟨h4.1.2, h4.2⟩
      obtain ⟨_, hp, hq⟩ := hf
      generalize hostOf (l.drop 7) = H at *
      generalize hR : afterHost (l.drop 7) = R at *
      have hc := cutAt_join 63 R
      have hcf := cutAt_free 63 R
      have hcn := @cutAt_none 63 R
      have hlen : l.length = 7 + H.length + R.length := by
        have := congrArg List.length hj
        simp at this; omega
      generalize hC : (cutAt 63 R).1 = P0 at *
      generalize (cutAt 63 R).2.1 = Q at *
      generalize (cutAt 63 R).2.2 = B at *
      obtain ⟨P, hP⟩ : ∃ P, P = (if P0 = [] ∧ (2 : Int) = 2 then ([47] : List UInt8) else P0) := ⟨_, rfl⟩
      rw [← hP] at hp ⊢
      have hP63 : 63 ∉ P := by
        rw [hP]
        split
        · decide
        · exact hcf
      obtain ⟨P', hP'⟩ : ∃ P', P' = (if P = [47] then ([] : List UInt8) else P) := ⟨_, rfl⟩
      have et : textL ⟨2, lower H, P, Q, B⟩ = http ++ (lower H ++ (P' ++ mark B Q)) := by
        unfold textL withQ progS
        simp only [show ¬ (2 : Int) = 3 by decide, if_false, if_true, hP', List.append_assoc]
      have hP'63 : 63 ∉ P' := by
        rw [hP']
        split
        · simp
        · exact hP63
      have hP'l : P'.length ≤ P0.length := by
        rw [hP', hP]
        by_cases c : P0 = []
        · simp [c]
        · simp only [c, false_and, if_false]
          split <;> simp
      have hml : (mark B Q).length + P0.length = R.length := by
        rw [← hc]; unfold mark; simp; omega
      have hpp : (if P' = [] ∧ (2 : Int) = 2 then ([47] : List UInt8) else P') = P := by
        rw [hP']
        by_cases c : P = [47]
        · simp [c]
        · rw [if_neg c]
          obtain ⟨r, hr⟩ := path_start hp
          rw [if_neg (by rw [hr]; simp)]
      have hst : P' ++ mark B Q = [] ∨ ∃ x t, P' ++ mark B Q = x :: t ∧ Tg.stop x = true := by
        by_cases c : P = [47]
        · rw [hP', if_pos c, List.nil_append]
          cases B with
          | true => exact .inr ⟨63, Q, rfl, by decide⟩
          | false => exact .inl rfl
        · obtain ⟨r, hr⟩ := path_start hp
          rw [hP', if_neg c, hr]
          exact .inr ⟨47, r ++ mark B Q, rfl, by decide⟩
      have hlh : ∀ c ∈ lower H, Tg.stop c = false := fun c hc => by
        unfold lower at hc
        obtain ⟨x, hx, rfl⟩ := List.mem_map.1 hc
        exact (low_host x (List.all_eq_true.1 hall x hx)).2.1
      obtain ⟨t1, t2⟩ := take_stop hlh hst
      have hlall : (lower H).all hostB = true := List.all_eq_true.2 fun c hc => by
        unfold lower at hc
        obtain ⟨x, hx, rfl⟩ := List.mem_map.1 hc
        exact (low_host x (List.all_eq_true.1 hall x hx)).1
      have hll : (lower H).length = H.length := by unfold lower; simp
      have hTl : (http ++ (lower H ++ (P' ++ mark B Q))).length ≤ l.length := by
        simp only [List.length_append, hll]
        have : http.length = 7 := rfl
        omega
      rw [et]
      refine ⟨?_, hTl⟩
      unfold parse
      rw [if_neg (by omega), if_neg (by intro e; have := congrArg List.length e; simp [http] at this)]
      have hi : isHttp (http ++ (lower H ++ (P' ++ mark B Q))) = true := by
        unfold isHttp
        have e1 : (http ++ (lower H ++ (P' ++ mark B Q))).take 7 = http := rfl
        rw [e1]
        have e2 : lower http = http := by decide +kernel
        rw [e2]
        simp [http]
      have hd : (http ++ (lower H ++ (P' ++ mark B Q))).drop 7 = lower H ++ (P' ++ mark B Q) := rfl
      rw [if_pos hi, hd, t1, t2]
      have hih : isHost (lower H) = true := by
        unfold isHost
        rw [hlall, hll, hln.1, hln.2]; rfl
      rw [if_pos hih, lower_lower]
      unfold behind
      have hca := cutAt_mark hP'63 (q := Q) (b := B) hcn
      rw [hca]
      dsimp only
      rw [hpp, hp, hq]; rfl
theorem withQ_nil (t : T) : refS t = progS t ∨ ¬ (t.form = 1 ∨ t.form = 2 ∨ t.form = 3) := by
  unfold refS progS
  by_cases h3 : t.form = 3
  · simp [h3]
  · by_cases h2 : t.form = 2
    · simp [h2]
    · by_cases h1 : t.form = 1
      · simp [h1]
      · exact .inr (by omega)
end Go.Proofs.YthobmfnmenbkeaaDoor.Tg
end
/- The laws of a target, as printed, answer true. Plain. -/
section
set_option linter.unusedVariables false
set_option linter.unusedSimpArgs false
namespace Go.Proofs.YthobmfnmenbkeaaDoor.Pl
open Go.RowKit Go.Proofs.YthobmfnmenbkeaaDoor Go.Proofs.YthobmfnmenbkeaaDoor.Tg Go.Proofs.YthobmfnmenbkeaaDoor.Gv Go.Proofs.YthobmfnmenbkeaaDoor.XB Go.Proofs.YthobmfnmenbkeaaDoorW.PrintWords

theorem num_errO (n : Int) : turnstilelaw08_num.f (errO n) = some n := by
  unfold turnstilelaw08_num.f errO
  by_cases h : n = 0
  · simp [h]
  · simp [h]
theorem pParse_eq (s : ByteArray) : pParse.f s = some ((parse s.data.toList).2.form, txt (parse s.data.toList).2.host, txt (parse s.data.toList).2.path, txt (parse s.data.toList).2.query, (parse s.data.toList).2.has, errO (parse s.data.toList).1) := rfl

theorem reads_pure (s : ByteArray) : turnstilelaw08_TargetReads.f s = some true := by
  unfold turnstilelaw08_TargetReads.f
  rw [pParse_eq]
  simp only [Option.bind_some, rParse.f, tup, num_errO, works.f]
  simp

/-- the parts that are told, as a target -/
def tOf (f : Int) (h p q : ByteArray) (b : Bool) : T := ⟨f, h.data.toList, p.data.toList, q.data.toList, b⟩
/-- is what was read what was told? -/
theorem ne_parts (r : T) (f : Int) (h p q : ByteArray) (b : Bool) :
    ((!(r.form == f) || (!((txt r.host).toList == h.toList) || (!((txt r.path).toList == p.toList) || (!((txt r.query).toList == q.toList) || (!(r.has == b)))))) = true) ↔ ¬ r = tOf f h p q b := by
  obtain ⟨a1, a2, a3, a4, a5⟩ := r
  simp only [toList_txt, ByteArray.toList_eq, tOf, T.mk.injEq, Bool.or_eq_true, Bool.not_eq_true', beq_eq_false_iff_ne]
  constructor
  · rintro (h | h | h | h | h) ⟨e1, e2, e3, e4, e5⟩ <;> exact absurd (by assumption) h
  · intro hn
    by_cases e1 : a1 = f
    · by_cases e2 : a2 = h.data.toList
      · by_cases e3 : a3 = p.data.toList
        · by_cases e4 : a4 = q.data.toList
          · exact .inr (.inr (.inr (.inr fun e5 => hn ⟨e1, e2, e3, e4, e5⟩)))
          · exact .inr (.inr (.inr (.inl e4)))
        · exact .inr (.inr (.inl e3))
      · exact .inr (.inl e2)
    · exact .inl e1
theorem ne_parts_t (r : T) (f : Int) (h p q : ByteArray) :
    ((!(r.form == f) || (!((txt r.host).toList == h.toList) || (!((txt r.path).toList == p.toList) || (!((txt r.query).toList == q.toList) || (!r.has))))) = true) ↔ ¬ r = tOf f h p q true := by
  rw [← ne_parts]; simp
theorem ne_parts_f (r : T) (f : Int) (h p q : ByteArray) :
    ((!(r.form == f) || (!((txt r.host).toList == h.toList) || (!((txt r.path).toList == p.toList) || (!((txt r.query).toList == q.toList) || (r.has))))) = true) ↔ ¬ r = tOf f h p q false := by
  rw [← ne_parts]; simp
theorem eq_parts (r : T) (f : Int) (h p q : ByteArray) (b : Bool) :
    ((r.form == f && ((txt r.host).toList == h.toList && ((txt r.path).toList == p.toList && ((txt r.query).toList == q.toList && (r.has == b))))) = true) ↔ r = tOf f h p q b := by
  obtain ⟨a1, a2, a3, a4, a5⟩ := r
  simp only [toList_txt, ByteArray.toList_eq, tOf, T.mk.injEq, Bool.and_eq_true, beq_iff_eq]
theorem app_txt (a b : List UInt8) : txt a ++ txt b = txt (a ++ b) := by
  apply ByteArray.ext
  apply Array.ext'
  simp [txt]
theorem app_self (a : List UInt8) (b : ByteArray) : txt a ++ b = txt (a ++ b.data.toList) := by
  conv => lhs; rw [← txt_self b]
  exact app_txt _ _

/-- what Text answers of a text that was made of the parts -/
def told (s : List UInt8) (t : T) : ByteArray × Option Int := if (parse s).1 = 0 ∧ (parse s).2 = t then (txt s, none) else (⟨#[]⟩, some 23)
theorem errO_none (n : Int) : (errO n).isNone = true ↔ n = 0 := by
  unfold errO
  split <;> simp [*]
theorem text_end_t (s : List UInt8) (f : Int) (h p q : ByteArray) :
    ((pParse.f (txt s)).bind fun bt => (if bt.2.2.2.2.2.isNone = true then (if (!(bt.1 == f) || (!(bt.2.1.toList == h.toList) || (!(bt.2.2.1.toList == p.toList) || (!(bt.2.2.2.1.toList == q.toList) || (!bt.2.2.2.2.1))))) = true then (some ((⟨#[]⟩ : ByteArray), some 23)) else (some (txt s, none))) else (some ((⟨#[]⟩ : ByteArray), (some 23 : Option Int))))) = some (told s (tOf f h p q true)) := by
  rw [pParse_eq, txt_data]
  simp only [Option.bind_some, errO_none, ne_parts_t]
  unfold told
  by_cases h1 : (parse s).1 = 0
  · rw [if_pos h1]
    by_cases h2 : (parse s).2 = tOf f h p q true
    · rw [if_neg (by simpa using h2), if_pos ⟨h1, h2⟩]
    · rw [if_pos h2, if_neg (fun e => h2 e.2)]
  · rw [if_neg h1, if_neg (fun e => h1 e.1)]
theorem text_end_f (s : List UInt8) (f : Int) (h p q : ByteArray) :
    ((pParse.f (txt s)).bind fun bt => (if bt.2.2.2.2.2.isNone = true then (if (!(bt.1 == f) || (!(bt.2.1.toList == h.toList) || (!(bt.2.2.1.toList == p.toList) || (!(bt.2.2.2.1.toList == q.toList) || (bt.2.2.2.2.1))))) = true then (some ((⟨#[]⟩ : ByteArray), some 23)) else (some (txt s, none))) else (some ((⟨#[]⟩ : ByteArray), (some 23 : Option Int))))) = some (told s (tOf f h p q false)) := by
  rw [pParse_eq, txt_data]
  simp only [Option.bind_some, errO_none, ne_parts_f]
  unfold told
  by_cases h1 : (parse s).1 = 0
  · rw [if_pos h1]
    by_cases h2 : (parse s).2 = tOf f h p q false
    · rw [if_neg (by simpa using h2), if_pos ⟨h1, h2⟩]
    · rw [if_pos h2, if_neg (fun e => h2 e.2)]
  · rw [if_neg h1, if_neg (fun e => h1 e.1)]
def small47 (n : Nat) : Prop := n ≤ 1048576
theorem text_ev (f : Int) (h p q : ByteArray) (b : Bool) (hh : h.size ≤ 1048576) (hp : p.size ≤ 1048577) (hq : q.size ≤ 1048576) : Ev (fun k => target_Text.f k f h p q b) (told (textL (tOf f h p q b)) (tOf f h p q b)) := by
  have hj : ∀ s : List UInt8, s.length ≤ 4194304 → Ev (fun k => target_Text.j0 k (txt s) f h p q b) (told (withQ s (tOf f h p q b)) (tOf f h p q b)) := fun s hs => by
    refine Ev.one fun k => ?_
    simp only [target_Text.j0]
    cases b with
    | true =>
      have l63 : ((⟨#[63]⟩ : ByteArray) ++ q).size = 1 + q.size := by rw [ByteArray.size_append]; rfl
      rw [if_pos (by first | trivial | rfl), if_pos (by omega), if_pos (by rw [txt_size]; omega)]
      have e : txt s ++ ((⟨#[63]⟩ : ByteArray) ++ q) = txt (withQ s (tOf f h p q true)) := by
        rw [show (⟨#[63]⟩ : ByteArray) = txt [63] from rfl, app_self, app_self]
        unfold withQ Tg.mark tOf
        rw [txt_data]; rfl
      rw [e]
      exact text_end_t _ f h p q
    | false =>
      rw [if_neg (by decide)]
      have e : txt s = txt (withQ s (tOf f h p q false)) := by unfold withQ Tg.mark tOf; simp
      rw [e]
      exact text_end_f _ f h p q
  have l1 := len h
  have l2 := len p
  unfold target_Text.f
  unfold textL progS
  by_cases h3 : f = 3
  · simp only [if_pos h3, show (tOf f h p q b).form = 3 from h3, if_true]
    exact hj [42] (by simp)
  · simp only [if_neg h3, show ¬ (tOf f h p q b).form = 3 from h3, if_false]
    by_cases h2 : f = 2
    · simp only [if_pos h2, show (tOf f h p q b).form = 2 from h2, if_true]
      have e1 : (⟨#[104, 116, 116, 112, 58, 47, 47]⟩ : ByteArray) ++ h = txt (http ++ h.data.toList) := by
        rw [show (⟨#[104, 116, 116, 112, 58, 47, 47]⟩ : ByteArray) = txt http from rfl, app_self]
      have e1s : ((⟨#[104, 116, 116, 112, 58, 47, 47]⟩ : ByteArray) ++ h).size = 7 + h.size := by rw [ByteArray.size_append]; rfl
      by_cases h4 : p.toList = ([47] : List UInt8)
      · have h5 : p.data.toList = [47] := by rw [← ByteArray.toList_eq]; exact h4
        simp only [if_pos h4, show (tOf f h p q b).path = [47] from h5, if_true]
        rw [e1s]
        simp only [if_pos (show 7 + h.size ≤ 9223372036854775807 by omega), if_pos (show 7 + h.size + 0 ≤ 9223372036854775807 by omega)]
        rw [e1, app_self]
        exact hj _ (by simp [http]; omega)
      · have h5 : ¬ p.data.toList = [47] := by rw [← ByteArray.toList_eq]; exact h4
        simp only [if_neg h4, show ¬ (tOf f h p q b).path = [47] from h5, if_false]
        rw [e1s]
        simp only [if_pos (show 7 + h.size ≤ 9223372036854775807 by omega), if_pos (show 7 + h.size + p.size ≤ 9223372036854775807 by omega)]
        rw [e1, app_self]
        exact hj _ (by simp [http]; omega)
    · simp only [if_neg h2, show ¬ (tOf f h p q b).form = 2 from h2, if_false]
      have := hj p.data.toList (by omega)
      rw [txt_self] at this
      exact this

def toldR (s : List UInt8) (t : T) : ByteArray × Int := if (parse s).1 = 0 ∧ (parse s).2 = t then (txt s, 0) else (⟨#[]⟩, 23)
theorem rtext_end_t (s : List UInt8) (f : Int) (h p q : ByteArray) :
    ((rParse.f (txt s)).bind fun bt => (if bt.2.2.2.2.2 = 0 then (if (!(bt.1 == f) || (!(bt.2.1.toList == h.toList) || (!(bt.2.2.1.toList == p.toList) || (!(bt.2.2.2.1.toList == q.toList) || (!bt.2.2.2.2.1))))) = true then (some ((⟨#[]⟩ : ByteArray), 23)) else (some (txt s, 0))) else (some ((⟨#[]⟩ : ByteArray), (23 : Int))))) = some (toldR s (tOf f h p q true)) := by
  simp only [rParse.f, txt_data, Option.bind_some, tup, ne_parts_t]
  unfold toldR
  by_cases h1 : (parse s).1 = 0
  · rw [if_pos h1]
    by_cases h2 : (parse s).2 = tOf f h p q true
    · rw [if_neg (by simpa using h2), if_pos ⟨h1, h2⟩]
    · rw [if_pos h2, if_neg (fun e => h2 e.2)]
  · rw [if_neg h1, if_neg (fun e => h1 e.1)]
theorem rtext_end_f (s : List UInt8) (f : Int) (h p q : ByteArray) :
    ((rParse.f (txt s)).bind fun bt => (if bt.2.2.2.2.2 = 0 then (if (!(bt.1 == f) || (!(bt.2.1.toList == h.toList) || (!(bt.2.2.1.toList == p.toList) || (!(bt.2.2.2.1.toList == q.toList) || (bt.2.2.2.2.1))))) = true then (some ((⟨#[]⟩ : ByteArray), 23)) else (some (txt s, 0))) else (some ((⟨#[]⟩ : ByteArray), (23 : Int))))) = some (toldR s (tOf f h p q false)) := by
  simp only [rParse.f, txt_data, Option.bind_some, tup, ne_parts_f]
  unfold toldR
  by_cases h1 : (parse s).1 = 0
  · rw [if_pos h1]
    by_cases h2 : (parse s).2 = tOf f h p q false
    · rw [if_neg (by simpa using h2), if_pos ⟨h1, h2⟩]
    · rw [if_pos h2, if_neg (fun e => h2 e.2)]
  · rw [if_neg h1, if_neg (fun e => h1 e.1)]
theorem rtext_ev (f : Int) (h p q : ByteArray) (b : Bool) (hh : h.size ≤ 1048576) (hp : p.size ≤ 1048577) (hq : q.size ≤ 1048576) : Ev (fun k => turnstileref08_Text.f k f h p q b) (toldR (withQ (refS (tOf f h p q b)) (tOf f h p q b)) (tOf f h p q b)) := by
  have hj : ∀ s : List UInt8, s.length ≤ 4194304 → Ev (fun k => turnstileref08_Text.j0 k (txt s) f h p q b) (toldR (withQ s (tOf f h p q b)) (tOf f h p q b)) := fun s hs => by
    cases b with
    | true =>
      have e : txt s ++ (⟨#[63]⟩ : ByteArray) ++ q = txt (withQ s (tOf f h p q true)) := by
        rw [show (⟨#[63]⟩ : ByteArray) = txt [63] from rfl, app_txt, app_self]
        unfold withQ Tg.mark tOf
        simp
      refine Ev.one fun k => ?_
      simp only [turnstileref08_Text.j0]
      rw [if_pos (by first | trivial | rfl), if_pos (by rw [txt_size]; omega), if_pos (by
        rw [ByteArray.size_append, txt_size]
        have : (⟨#[63]⟩ : ByteArray).size = 1 := rfl
        omega)]
      rw [e]
      exact rtext_end_t _ f h p q
    | false =>
      have e : txt s = txt (withQ s (tOf f h p q false)) := by unfold withQ Tg.mark tOf; simp
      refine Ev.one fun k => ?_
      simp only [turnstileref08_Text.j0]
      rw [if_neg (by decide), e]
      exact rtext_end_f _ f h p q
  have l1 := len h
  have l2 := len p
  unfold turnstileref08_Text.f
  unfold refS
  by_cases h3 : f = 3
  · simp only [if_pos h3, show (tOf f h p q b).form = 3 from h3, if_true]
    exact hj [42] (by simp)
  · simp only [if_neg h3, show ¬ (tOf f h p q b).form = 3 from h3, if_false]
    by_cases h1 : f = 1
    · simp only [if_pos h1, show (tOf f h p q b).form = 1 from h1, if_true]
      have := hj p.data.toList (by omega)
      rw [txt_self] at this
      exact this
    · simp only [if_neg h1, show ¬ (tOf f h p q b).form = 1 from h1, if_false]
      by_cases h2 : f = 2
      · simp only [if_pos h2, show (tOf f h p q b).form = 2 from h2, if_true]
        have e1 : (⟨#[104, 116, 116, 112, 58, 47, 47]⟩ : ByteArray) ++ h = txt (http ++ h.data.toList) := by
          rw [show (⟨#[104, 116, 116, 112, 58, 47, 47]⟩ : ByteArray) = txt http from rfl, app_self]
        have e1s : ((⟨#[104, 116, 116, 112, 58, 47, 47]⟩ : ByteArray) ++ h).size = 7 + h.size := by rw [ByteArray.size_append]; rfl
        simp only [if_pos (show 7 + h.size ≤ 9223372036854775807 by omega)]
        by_cases h4 : p.toList = ([47] : List UInt8)
        · have h5 : p.data.toList = [47] := by rw [← ByteArray.toList_eq]; exact h4
          simp only [if_pos h4, show (tOf f h p q b).path = [47] from h5, if_true]
          rw [e1]
          have := hj (http ++ h.data.toList) (by simp [http]; omega)
          simp only [List.append_nil] at this ⊢
          exact this
        · have h5 : ¬ p.data.toList = [47] := by rw [← ByteArray.toList_eq]; exact h4
          simp only [if_neg h4, show ¬ (tOf f h p q b).path = [47] from h5, if_false]
          rw [e1s]
          simp only [if_pos (show 7 + h.size + p.size ≤ 9223372036854775807 by omega)]
          rw [e1, app_self]
          exact hj _ (by simp [http]; omega)
      · simp only [if_neg h2, show ¬ (tOf f h p q b).form = 2 from h2, if_false]
        exact hj [] (by simp)

theorem tells_same (t : T) : (toldR (withQ (refS t) t) t).1 = (told (textL t) t).1 ∧ turnstilelaw08_num.f (told (textL t) t).2 = some (toldR (withQ (refS t) t) t).2 := by
  unfold textL
  rcases withQ_nil t with h | h
  · rw [h]
    unfold told toldR
    split
    · exact ⟨rfl, rfl⟩
    · exact ⟨rfl, rfl⟩
  · have n : ∀ s, ¬ ((parse s).1 = 0 ∧ (parse s).2 = t) := fun s ⟨e1, e2⟩ => h (e2 ▸ parse_form s e1)
    unfold told toldR
    rw [if_neg (n _), if_neg (n _)]
    exact ⟨rfl, rfl⟩
theorem tells_pure (f : Int) (h p q : ByteArray) (b : Bool) (hh : h.size ≤ 1048576) (hp : p.size ≤ 1048577) (hq : q.size ≤ 1048576) : ∃ k, turnstilelaw08_TargetTells.f k f h p q b = some true := by
  obtain ⟨e1, e2⟩ := tells_same (tOf f h p q b)
  refine Ev.rounds (g := fun k => turnstilelaw08_TargetTells.f k f h p q b) ?_
  unfold turnstilelaw08_TargetTells.f
  refine Ev.bind (text_ev f h p q b hh hp hq) (Ev.bind (f := fun k bt186 => (if (told (textL (tOf f h p q b)) (tOf f h p q b)).1.toList = bt186.1.toList then ((turnstilelaw08_num.f (told (textL (tOf f h p q b)) (tOf f h p q b)).2).bind fun t188 => (if t188 = bt186.2 then ((works.f).bind fun t189 => (some t189)) else (some false))) else (some false))) (rtext_ev f h p q b hh hp hq) (Ev.all fun _ => ?_))
  rw [e1, if_pos rfl, e2]
  simp [works.f]

theorem parse_sizes (l : List UInt8) (e : (parse l).1 = 0) : (parse l).2.host.length ≤ l.length ∧ (parse l).2.path.length ≤ l.length + 1 ∧ (parse l).2.query.length ≤ l.length := by
  have hb : ∀ (form : Int) (h r : List UInt8), (behind form h r).1 = 0 → (behind form h r).2.host = h ∧ (behind form h r).2.path.length ≤ r.length + 1 ∧ (behind form h r).2.query.length ≤ r.length := fun form h r e => by
    rw [(behind_form form h r e).1]
    have := cutAt_len 63 r
    refine ⟨rfl, ?_, this.2⟩
    dsimp only
    split
    · simp
    · omega
  unfold parse at e ⊢
  split
  · rename_i h1; rw [if_pos h1] at e; exact absurd e (by decide)
  · rename_i h1
    rw [if_neg h1] at e
    split
    · exact ⟨by simp, by simp, by simp⟩
    · rename_i h2
      rw [if_neg h2] at e
      split
      · rename_i h3
        rw [if_pos h3] at e
        split
        · rename_i h4
          rw [if_pos h4] at e
          obtain ⟨b1, b2, b3⟩ := hb _ _ _ e
          have hj := congrArg List.length (host_join (l.drop 7))
          simp only [List.length_append, List.length_drop] at hj
          refine ⟨by rw [b1]; simp [lower]; omega, by omega, by omega⟩
        · rename_i h4
          rw [if_neg h4] at e; exact absurd e (by decide)
      · rename_i h3
        rw [if_neg h3] at e
        obtain ⟨b1, b2, b3⟩ := hb _ _ _ e
        exact ⟨by rw [b1]; simp, b2, b3⟩
theorem enc_ok : ∀ l : List UInt8, ∀ c ∈ encode l, c = 37 ∨ unres c = true
  | [], c, h => by simp [encode] at h
  | x :: r, c, h => by
    have ih := enc_ok r c
    unfold encode at h ih
    rw [List.flatMap_cons, List.mem_append] at h
    rcases h with h | h
    · split at h
      · rename_i hu
        simp at h; subst h; exact .inr hu
      · unfold coded at h
        simp at h
        rcases h with rfl | rfl | rfl
        · exact .inl rfl
        · exact .inr (up_unres x).1
        · exact .inr (up_unres x).2
    · exact ih h
where
  up_unres : ∀ x : UInt8, unres (up (x / 16)) = true ∧ unres (up (x % 16)) = true := all_bytes _ (by decide +kernel)

theorem back_loop (s c d : ByteArray) (e : Option Int) (hc : c.size ≤ 140737488355328) (hu : ∀ x ∈ c.data.toList, x = 37 ∨ unres x = true) : ∀ (n i : Nat), c.size - i = n → i ≤ c.size →
    Ev (fun k => turnstilelaw08_TargetBack.l0 k s c d e ((c.size : Nat) : Int)) true → Ev (fun k => turnstilelaw08_TargetBack.l0 k s c d e i) true
  | 0, i, hn, hi, h => by obtain rfl : i = c.size := by omega
                          exact h
  | n + 1, i, hn, hi, h => by
    have hlt : i < c.size := by omega
    refine Ev.step (f := fun k => turnstilelaw08_TargetBack.l0 k s c d e ((i + 1 : Nat) : Int)) (fun k => ?_) (back_loop s c d e hc hu n (i + 1) (by omega) (by omega) h)
    have hm : c[i] ∈ c.data.toList := by
      have := List.getElem_mem (l := c.data.toList) (n := i) (by simpa using hlt)
      exact this
    have hb := int_byte c[i]
    simp only [turnstilelaw08_TargetBack.l0, rUnres.f]
    rw [if_pos (by omega), if_pos (by omega), bt_nat c i hlt, w64s hlt hc]
    rcases hu _ hm with h37 | hun
    · rw [if_pos (by rw [h37]; rfl)]
    · by_cases h37 : (c[i].toNat : Int) = 37
      · rw [if_pos h37]
      · rw [if_neg h37, if_pos hb, back_byte, hun]
        simp only [Option.bind_some, if_true]
theorem back_pure (s : ByteArray) (hs : s.size ≤ 1048576) : ∃ k, turnstilelaw08_TargetBack.f k s = some true := by
  refine Ev.rounds (g := fun k => turnstilelaw08_TargetBack.f k s) ?_
  have hel := encode_len s.data.toList
  rw [len] at hel
  have hde := decode_encode s.data.toList
  have he : pEncode.f s = some (txt (encode s.data.toList)) := by unfold pEncode.f; rw [if_pos (by omega)]
  have hd : pDecode.f (txt (encode s.data.toList)) = some (s, none) := by
    unfold pDecode.f
    rw [if_pos (by rw [txt_size]; omega), txt_data, hde]
  unfold turnstilelaw08_TargetBack.f
  rw [he]
  simp only [Option.bind_some]
  rw [hd]
  simp only [Option.bind_some]
  have hcs : (txt (encode s.data.toList)).size ≤ 140737488355328 := by rw [txt_size]; omega
  refine back_loop s _ s none hcs (by rw [txt_data]; exact enc_ok _) _ 0 rfl (Nat.zero_le _) ?_
  refine Ev.step (f := fun k => turnstilelaw08_TargetBack.j1 k s false) (fun k => ?_) ?_
  · simp only [turnstilelaw08_TargetBack.l0]
    rw [if_neg (by omega), if_pos (by first | trivial | rfl)]; rfl
  · by_cases hp0 : (parse s.data.toList).1 = 0
    · obtain ⟨ht1, ht2⟩ := parse_text s.data.toList (parse s.data.toList).2 (by rw [← hp0])
      have hto : tOf (parse s.data.toList).2.form (txt (parse s.data.toList).2.host) (txt (parse s.data.toList).2.path) (txt (parse s.data.toList).2.query) (parse s.data.toList).2.has = (parse s.data.toList).2 := by
        unfold tOf; simp only [txt_data]
      obtain ⟨z1, z2, z3⟩ := parse_sizes s.data.toList hp0
      rw [len] at z1 z2 z3 ht2
      have hT := text_ev (parse s.data.toList).2.form (txt (parse s.data.toList).2.host) (txt (parse s.data.toList).2.path) (txt (parse s.data.toList).2.query) (parse s.data.toList).2.has (by rw [txt_size]; omega) (by rw [txt_size]; omega) (by rw [txt_size]; omega)
      rw [hto] at hT
      have htold : told (textL (parse s.data.toList).2) (parse s.data.toList).2 = (txt (textL (parse s.data.toList).2), none) := by unfold told; rw [ht1]; simp
      rw [htold] at hT
      have hpt := pParse_eq (txt (textL (parse s.data.toList).2))
      rw [txt_data, ht1] at hpt
      have hts := txt_size (textL (parse s.data.toList).2)
      generalize txt (textL (parse s.data.toList).2) = U at *
      generalize hP : (parse s.data.toList).2 = t at *
      have hps := pParse_eq s
      rw [hP, hp0] at hps
      refine Ev.step (f := fun k => (target_Text.f k t.form (txt t.host) (txt t.path) (txt t.query) t.has).bind fun bt203 => ((pParse.f bt203.1).bind fun bt205 => (if bt203.2.isNone = true then (if bt205.2.2.2.2.2.isNone = true then (if (bt205.1 == t.form && (bt205.2.1.toList == (txt t.host).toList && (bt205.2.2.1.toList == (txt t.path).toList && (bt205.2.2.2.1.toList == (txt t.query).toList && (bt205.2.2.2.2.1 == t.has))))) = true then (if (bt203.1.size : Int) ≤ (s.size : Int) then ((works.f).bind fun t214 => (some t214)) else (some false)) else (some false)) else (some false)) else (some false)))) (fun k => ?_) (Ev.bind hT (Ev.all fun _ => ?_))
      · simp only [turnstilelaw08_TargetBack.j1]
        rw [if_neg (by decide), hps]
        simp only [Option.bind_some]
        rw [if_pos (by decide)]
      · simp only
        rw [hpt]
        simp only [Option.bind_some, works.f]
        rw [if_pos (by decide), if_pos (by decide), if_pos (by simp), if_pos (by omega)]
    · have hz := parse_bad s.data.toList hp0
      refine Ev.one fun k => ?_
      simp only [turnstilelaw08_TargetBack.j1]
      rw [if_neg (by decide), pParse_eq]
      simp only [Option.bind_some, errO_none]
      rw [if_neg hp0, hz]
      simp only [zeroT, toList_txt, works.f]
      rfl
end Go.Proofs.YthobmfnmenbkeaaDoor.Pl
end
/- What the rows of this family share: the world of the witness, the facts that the listed variables and the world's shape give. -/
section
set_option linter.unusedVariables false
namespace Go.Proofs.YthobmfnmenbkeaaDoor
open Go.RowKit Go.ChangeShapes Go.WideShapes Go.ChangeAt Tg

theorem own : ownKnob Tryd.prog.godebug = none := by kernel_rfl

theorem witness_row_shaped {H : Type} {enc : TypeId × Value → H} {C : Checked} {os : Os} {f : FuncId} {fn : Func} {s : OpenSpec} {conds : List PathCond} {apart : Bool} {laid : List (String × DataW Unit)} (w0 : World) (args : Array Value) (hos : w0.os = os)
    (hsh : (w0.forCall (fun _ _ => 0) ⟨#[], args, []⟩).Shaped C.prog)
    (hok : Input.okWideB C.prog (w0.forCall (fun _ _ => 0) ⟨#[], args, []⟩) f ⟨#[], args, []⟩ = true)
    (hrow : s.preRow enc C.prog fn conds apart laid (w0.forCall (fun _ _ => 0) ⟨#[], args, []⟩).memory args) :
    ∃ (w : World) (tape : Tape) (i : Input), w.os = os ∧ (w.forCall tape i).Shaped C.prog ∧ i.vars = [] ∧ Input.okWide C.prog (w.forCall tape i) .any w.heap.size f i ∧
      s.preRow enc C.prog fn conds apart laid (w.forCall tape i).memory i.args ∧ ({} : Assume).holds C.prog (lone (Frame.enter C.prog f i.args .normal) [] (w.forCall tape i)) :=
  ⟨w0, fun _ _ => 0, ⟨#[], args, []⟩, hos, hsh, (Input.okWide_of_okWideB (base := 0) hok).1, (Input.okWide_of_okWideB hok).2, hrow, by
    simp only [Assume.holds]
    exact ⟨by simp, by simp, fun _ => Modest.zero, by simp, by simp⟩⟩

/-- the three tables that every row of this family lists -/
def tables : List (String × DataW Unit) := [("unicode/utf8.acceptRanges", Rows.laid_unicode_utf8_acceptRanges), ("unicode.CaseRanges", Rows.laid_unicode_CaseRanges), ("unicode/utf8.first", Rows.laid_unicode_utf8_first)]
noncomputable def start (os : Os) : World := World.laidAll Tryd.prog os tables
theorem start_shaped (os : Os) (args : Array Value) : ((start os).forCall (fun _ _ => 0) ⟨#[], args, []⟩).Shaped Tryd.prog := World.shaped_of_ZipB (by kernel_rfl) (by kernel_rfl)
theorem start_laid (os : Os) (args : Array Value) : laidMet Tryd.prog tables ((start os).forCall (fun _ _ => 0) ⟨#[], args, []⟩).memory := laidMet_laidAll _ (by kernel_rfl) (by kernel_rfl)

theorem rdy_of {W : World} (h : W.ShapedOpen Tryd.prog) (hL : laidMet Tryd.prog tables W) : Rdy W where
  out := by
    obtain ⟨m, hm⟩ := Tryd.laysM143.s1_3 W h
    exact ⟨m, hm⟩
  cas := caseVar_of_reads (ρ := Tryd.lays262_ren) { Tryd.lays262 with } (by kernel_rfl) ⟨by kernel_rfl, by kernel_rfl, by kernel_rfl, by kernel_rfl, by kernel_rfl, by kernel_rfl⟩ (by
    rw [← Pinned.caseRanges_eq]; exact Lib.laidMet.reads hL (.tail _ (.head _)))
  utf := utf8Tabs_of_reads (ρ := Tryd.lays260_ren) Tryd.lays260 ⟨by kernel_rfl, by kernel_rfl, by kernel_rfl, by kernel_rfl, by kernel_rfl, by kernel_rfl, by kernel_rfl⟩ (by
    rw [← Pinned.utf8First_eq]; exact Lib.laidMet.reads hL (.tail _ (.tail _ (.head _)))) (by
    have e : (Rows.laid_unicode_utf8_acceptRanges : DataW Unit) = Lib.acceptData := by kernel_rfl
    rw [← e]; exact Lib.laidMet.reads hL (.head _))

theorem bound {H : Type} {l : List (DataW H)} (hk : Rows.uptoSmall H l = true) : Rows.uptoBulkAll l ≤ 1048576 := by
  simpa [Rows.uptoSmall] using hk
end Go.Proofs.YthobmfnmenbkeaaDoor
end
section
set_option linter.unusedVariables false
namespace Go.Proofs.YthobmfnmenbkeaaDoor.targetBack
open Go.RowKit Go.ChangeShapes Go.WideShapes Go.ChangeAt Tg

theorem walk (s : ByteArray) (w : World) (hs : s.size ≤ 1048576) (hr : Rdy w) : Calls Tryd.prog 8 #[.string s] w (PreIs w) := by
  obtain ⟨k, hk⟩ := Pl.back_pure s hs
  exact (XB.turnstilelaw08_TargetBack.calls k s true w ⟨⟨hr⟩⟩ hk).mono fun _ _ h => h

set_option maxRecDepth 100000 in
theorem contract (H : Type) (enc : TypeId × Value → H) (W : World) (base : Nat) (args : Array Value) (ds gs : List (DataW H)) (before : List MemPlace)
    (hval : ∀ (j : Nat) t v, Tryd.f8.params[j]? = some t → args[j]? = some v → Value.okWide Tryd.prog W .any base t v)
    (hW : DataW.Whole enc Tryd.prog Tryd.f8.params.toList Rows.targetBackSpec.vars false W args.toList ds gs before) (hk : Rows.uptoSmall H (ds ++ gs) = true) (hL : laidMet Tryd.prog tables W) (hsh : W.ShapedOpen Tryd.prog) :
    Calls Tryd.prog 8 args W fun e W' => ∃ v, e = .returned v ∧ Rows.targetBackSpec.post enc Tryd.prog Tryd.f8 false true false false W args v W' := by
  have hW' := hW
  obtain ⟨p, q, hA0, hV, rfl, hfz, hnd⟩ := hW
  have hA : DataW.TrodAll enc Tryd.prog W 0 (fun _ => true) true Tryd.f8.params.toList args.toList ds p := hA0
  rw [Tryd.params8] at hA hval
  obtain ⟨v0, d0, rfl, rfl, h0⟩ := trodAll_one hA
  obtain ⟨rfl, rfl⟩ := trodVars_none hV
  obtain ⟨s, rfl, rfl, rfl, hs⟩ := Go.ChangeMaps.open_string Tryd.underlying9 (hval 0 9 v0 rfl rfl) h0
  simp only [List.append_nil] at hW'
  have hb := bound hk
  simp only [List.append_nil, Rows.uptoBulkAll, Rows.uptoBulk, len] at hb
  refine (walk s W (by omega) (rdy_of hsh hL)).mono fun e W' ⟨he, hg⟩ => ?_
  subst he
  exact ⟨_, rfl, _, _, _, [], [], [], hW', trodAll_mk1 (shut_bool Tryd.underlying4 _), trodAll_mk1 (Go.ChangeMaps.shut_string Tryd.underlying9 hs), rfl, hg.frame _, fun h => by cases h⟩

theorem reads (os : Os) {H : Type} (enc : TypeId × Value → H) : ∃ places, DataW.whole enc Tryd.prog ((start os).forCall (fun _ _ => 0) ⟨#[], #[.string ⟨#[]⟩], []⟩).memory Tryd.f8.params.toList Rows.targetBackSpec.vars false #[Value.string ⟨#[]⟩].toList 8 = some ([.lit (.string [])], [], places) :=
  ⟨[], by kernel_rfl⟩

set_option maxRecDepth 100000 in
theorem liftedUpto (os : Os) (started : os.Started) (H : Type) (enc : TypeId × Value → H) (F : Stop.Interp) :
    ReturnsInHanded {} Tryd.checked os 8 .any ((Rows.OpenSpec.upto Rows.targetBackSpec).preRow enc Tryd.prog Tryd.f8 Rows.targetBackUptoRow.domain false Rows.targetBackUptoRow.laid) (((Rows.OpenSpec.upto Rows.targetBackSpec).at F).post enc Tryd.prog Tryd.f8 false true false false) := by
  obtain ⟨places, hx⟩ := reads os enc
  refine returnsInHanded_of_row (C := Tryd.checked) (s := Rows.OpenSpec.upto Rows.targetBackSpec) own started (by kernel_rfl) Tryd.func8
    (witness_row_shaped (enc := enc) (C := Tryd.checked) (start os) #[.string ⟨#[]⟩] (World.laidAll_os _ _ _) (start_shaped os _) (by kernel_rfl)
      (OpenSpec.preRow_of_cond 8 hx (by kernel_rfl) (fun k hk => by cases hk; kernel_rfl) (by kernel_rfl) (start_laid os _))) ?_
  intro W base args ds gs before hval hW _ hk _ hL hsh _
  exact contract H enc W base args ds gs before hval hW (hk _ rfl) hL hsh

theorem saidUpto : Rows.TargetBackUptoSaid :=
  OpenClaim.holds_of_cond 8 Tryd.f8 rfl rfl rfl rfl rfl rfl rfl ⟨rfl, rfl, rfl, rfl, rfl⟩ rfl rfl rfl rfl rfl (by kernel_rfl) Tryd.func8 (by kernel_rfl)
    (of_decide_eq_true (by kernel_rfl)) (by unfold Func.isWrapper; first | (rw [if_pos (by decide +kernel)]; kernel_rfl) | (rw [if_neg (by decide +kernel)]; exact ⟨rfl, rfl⟩))
    (fun os started H enc _ F => by rw [OpenClaim.pre_eq_preRow]; exact liftedUpto os started H enc F)

theorem plain (f : FuncId) (fn : Func) (hf : Tryd.pinned.checked.prog.funcNamed "turnstile/turnstilelaw08.TargetBack" = some f) (hfn : Tryd.pinned.checked.prog.funcs[f]? = some fn) :
    true = Tryd.pinned.checked.prog.looks [] ∧ ∀ (j : Nat) t, fn.params[j]? = some t → Tryd.pinned.checked.prog.wantsStandIn t = false := by
  obtain rfl : f = 8 := Option.some.inj ((show Tryd.prog.funcNamed "turnstile/turnstilelaw08.TargetBack" = some 8 by kernel_rfl).symm.trans hf) |>.symm
  obtain rfl : fn = Tryd.f8 := (Option.some.inj (Tryd.func8.symm.trans hfn)).symm
  refine ⟨by kernel_rfl, fun j t ht => ?_⟩
  rw [Tryd.params8] at ht
  match j, ht with
  | 0, ht => obtain rfl : (9 : TypeId) = t := by simpa using ht
             exact (show Tryd.prog.wantsStandIn 9 = false by kernel_rfl)
  | j + 1, ht => simp at ht

end Go.Proofs.YthobmfnmenbkeaaDoor.targetBack
namespace Go.Proofs.YthobmfnmenbkeaaDoor
/-- the card of the second form -/
theorem targetBackUpto_holds : Rows.TargetBackUptoCardSaid :=
  Claim7.holds_tied_plain_at .later [] _ _ _ _ targetBack.saidUpto (fun _ h => by cases h) (by kernel_rfl) (fun _ h => by cases h) targetBackUpto_row_tie rfl ⟨rfl, rfl⟩ (by kernel_rfl) rfl targetBack.plain (by kernel_rfl)
end Go.Proofs.YthobmfnmenbkeaaDoor
end
