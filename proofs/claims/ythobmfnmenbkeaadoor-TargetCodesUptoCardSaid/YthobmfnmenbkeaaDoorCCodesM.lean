/- Proved: TargetCodes answers true for every text, where what it reads is of bulk at most 1048576: the law's card in its second form. -/
import Derived.Test.YthobmfnmenbkeaaDoorZC1
import Derived.Test.YthobmfnmenbkeaaDoorZC3
import Derived.Test.YthobmfnmenbkeaaDoorProg
import Derived.Below
import Derived.Deep.Draws
import Derived.Deep.AppendLies
import Derived.Maps.AppendAt
import Derived.OwnWalk
import Derived.Laws.BytesArg
import Derived.Laws.MakeOwn
import Derived.Laws.OwnMore
import Derived.Deep.OwnRows
import Derived.Tactics
import Derived.Lib.ConvBytes
import Derived.Laws.Slices
import Derived.WalkKit
import Derived.KernelRfl
import Derived.RowKit3
import Derived.Deep.LoopGhost
import Derived.Deep.QuietTactic
import Derived.BigQuiet
import Derived.WideLaws
import Derived.Deep.DeepCutAuto
import Derived.Deep.CutBlock
import Derived.Deep.RegionHeld3
import Derived.Laws.Rows
import Derived.Lib.AppendStr
import Derived.ArgAppend
import Derived.Laws.IdiomCopy
import Derived.OrdersHeld
import Derived.Laws.BitsLemmas
import Derived.RowKit
import Derived.Test.YthobmfnmenbkeaaDoorZC2
/- The contracts of the functions that are walked by hand, in the form in which the printed functions ask for them. -/
section
set_option linter.unusedVariables false
namespace Go.Proofs.YthobmfnmenbkeaaDoor.Gv
open Go.RowKit Go.Proofs.YthobmfnmenbkeaaDoor Go.Proofs.YthobmfnmenbkeaaDoor.Tg Go.Proofs.YthobmfnmenbkeaaDoorW.PrintWords

def errW : Option Int → Value
  | none => .nilIface
  | some c => .iface 56 (.int .i64 c)
theorem errW_none : errW none = .nilIface := rfl
theorem errW_some (c : Int) : errW (some c) = .iface 56 (.int .i64 c) := rfl

/-- what is known of the world, and stays -/
structure GInv (w : World) : Prop where mk :: (out : Rdy w)
theorem GInv.step {w w' : World} (h : Aside0 (GInv w)) (hb : Below w.heap.size w w') : Aside0 (GInv w') := ⟨⟨h.out.out.below hb⟩⟩
theorem drawn_of {w w' : World} (d : Dr w w') : Drawn0 w w' := ⟨d.out⟩
theorem byte_int {a : Int} (h : 0 ≤ a ∧ a < 256) : a = ((UInt8.ofNat a.toNat).toNat : Int) := by
  have : a.toNat < 256 := by omega
  rw [UInt8.toNat_ofNat_of_lt' this]; omega

def rPath.f (a0 : ByteArray) : Option Bool := if a0.size ≤ 140737488355328 then some (isPath a0.data.toList) else none
theorem rPath.calls (a0 : ByteArray) (r : Bool) (w : World) (h : rPath.f a0 = some r) : Calls Tryd.prog 47 #[.string a0] w fun e w' => e = .returned (.bool r) ∧ Drawn0 w w' := by
  unfold rPath.f at h
  split at h
  · obtain rfl := Option.some.inj h
    exact (rPath_calls a0 w ‹_›).mono fun e w' ⟨h1, h2⟩ => ⟨h1, drawn_of h2⟩
  · cases h
def rQuery.f (a0 : ByteArray) : Option Bool := if a0.size ≤ 140737488355328 then some (isQuery a0.data.toList) else none
theorem rQuery.calls (a0 : ByteArray) (r : Bool) (w : World) (h : rQuery.f a0 = some r) : Calls Tryd.prog 53 #[.string a0] w fun e w' => e = .returned (.bool r) ∧ Drawn0 w w' := by
  unfold rQuery.f at h
  split at h
  · obtain rfl := Option.some.inj h
    exact (rQuery_calls a0 w ‹_›).mono fun e w' ⟨h1, h2⟩ => ⟨h1, drawn_of h2⟩
  · cases h
def rletter.f (a0 : Int) : Option Bool := if 0 ≤ a0 ∧ a0 < 256 then some (alnum (UInt8.ofNat a0.toNat)) else none
theorem rletter.calls (a0 : Int) (r : Bool) (w : World) (h : rletter.f a0 = some r) : Calls Tryd.prog 37 #[.int .u8 a0] w fun e w' => e = .returned (.bool r) ∧ Drawn0 w w' := by
  unfold rletter.f at h
  split at h
  · rename_i hb
    obtain rfl := Option.some.inj h
    have e := byte_int hb
    generalize UInt8.ofNat a0.toNat = c at *
    subst e
    exact (rletter_calls' c w).mono fun e w' ⟨h1, h2⟩ => ⟨h1, h2 ▸ Drawn0.refl _⟩
  · cases h
def ramong.f (a0 : Int) (a1 : ByteArray) : Option Bool := if (0 ≤ a0 ∧ a0 < 256) ∧ a1.size ≤ 140737488355328 then some (has (UInt8.ofNat a0.toNat) a1.data.toList) else none
theorem ramong.calls (a0 : Int) (a1 : ByteArray) (r : Bool) (w : World) (h : ramong.f a0 a1 = some r) : Calls Tryd.prog 38 #[.int .u8 a0, .string a1] w fun e w' => e = .returned (.bool r) ∧ Drawn0 w w' := by
  unfold ramong.f at h
  split at h
  · rename_i hb
    obtain rfl := Option.some.inj h
    have e := byte_int hb.1
    generalize UInt8.ofNat a0.toNat = c at *
    subst e
    exact (among_calls c a1 w hb.2).mono fun e w' ⟨h1, h2⟩ => ⟨h1, h2 ▸ Drawn0.refl _⟩
  · cases h
def rUnres.f (a0 : Int) : Option Bool := if 0 ≤ a0 ∧ a0 < 256 then some (unres (UInt8.ofNat a0.toNat)) else none
theorem rUnres.calls (a0 : Int) (r : Bool) (w : World) (h : rUnres.f a0 = some r) : Calls Tryd.prog 20 #[.int .u8 a0] w fun e w' => e = .returned (.bool r) ∧ Drawn0 w w' := by
  unfold rUnres.f at h
  split at h
  · rename_i hb
    obtain rfl := Option.some.inj h
    have e := byte_int hb
    generalize UInt8.ofNat a0.toNat = c at *
    subst e
    exact (rUnreserved_calls c w).mono fun e w' ⟨h1, h2⟩ => ⟨h1, h2 ▸ Drawn0.refl _⟩
  · cases h

def errO (n : Int) : Option Int := if n = 0 then none else some n
theorem errV_W (n : Int) : errV n = errW (errO n) := by
  unfold errV errO
  split <;> rfl
def pParse.f (a0 : ByteArray) : Option (Int × ByteArray × ByteArray × ByteArray × Bool × Option Int) :=
  some ((parse a0.data.toList).2.form, txt (parse a0.data.toList).2.host, txt (parse a0.data.toList).2.path, txt (parse a0.data.toList).2.query, (parse a0.data.toList).2.has, errO (parse a0.data.toList).1)
theorem pParse.calls (a0 : ByteArray) (r1 : Int) (r2 r3 r4 : ByteArray) (r5 : Bool) (r6 : Option Int) (w : World) (hG : Aside0 (GInv w)) (h : pParse.f a0 = some (r1, r2, r3, r4, r5, r6)) :
    Calls Tryd.prog 10 #[.string a0] w fun e w' => e = .returned (.tuple #[.agg #[.int .i64 r1, .string r2, .string r3, .string r4, .bool r5], errW r6]) ∧ Below w.heap.size w w' := by
  simp only [pParse.f, Option.some.injEq, Prod.mk.injEq] at h
  obtain ⟨rfl, rfl, rfl, rfl, rfl, rfl⟩ := h
  refine (parse_any a0 w hG.out.out).mono fun e w' ⟨h1, h2⟩ => ⟨?_, h2⟩
  rw [h1, ← errV_W]; rfl
def pDecode.f (a0 : ByteArray) : Option (ByteArray × Option Int) := if a0.size ≤ 140737488355328 then some (match decoded a0.data.toList with | some d => (txt d, none) | none => (⟨#[]⟩, some 23)) else none
theorem pDecode.calls (a0 : ByteArray) (r1 : ByteArray) (r2 : Option Int) (w : World) (h : pDecode.f a0 = some (r1, r2)) :
    Calls Tryd.prog 19 #[.string a0] w fun e w' => e = .returned (.tuple #[.string r1, errW r2]) ∧ Below w.heap.size w w' := by
  unfold pDecode.f at h
  split at h
  · refine (decode_calls a0 w ‹_›).mono fun e w' ⟨h1, h2⟩ => ⟨?_, h2⟩
    rw [h1]
    cases hd : decoded a0.data.toList with
    | none => rw [hd] at h; simp only [Option.some.injEq, Prod.mk.injEq] at h; obtain ⟨rfl, rfl⟩ := h; rfl
    | some d => rw [hd] at h; simp only [Option.some.injEq, Prod.mk.injEq] at h; obtain ⟨rfl, rfl⟩ := h; rfl
  · cases h
def pEncode.f (a0 : ByteArray) : Option ByteArray := if a0.size ≤ 4294967280 then some (txt (encode a0.data.toList)) else none
theorem pEncode.calls (a0 : ByteArray) (r : ByteArray) (w : World) (h : pEncode.f a0 = some r) : Calls Tryd.prog 23 #[.string a0] w fun e w' => e = .returned (.string r) ∧ Below w.heap.size w w' := by
  unfold pEncode.f at h
  split at h
  · obtain rfl := Option.some.inj h
    exact encode_calls a0 w ‹_›
  · cases h
def works.f : Option Bool := some true
theorem works.calls (r : Bool) (w : World) (hG : Aside0 (GInv w)) (h : works.f = some r) : Calls Tryd.prog 13 #[] w fun e w' => e = .returned (.bool r) ∧ Below w.heap.size w w' := by
  obtain rfl := Option.some.inj h
  exact works_calls w hG.out.out
end Go.Proofs.YthobmfnmenbkeaaDoor.Gv
end
/- Go functions of this seat as Lean functions, and their contracts, written by our program xprint.py over the kit's printer. -/
section
namespace Go.Proofs.YthobmfnmenbkeaaDoor.XA
open Go.Proofs.YthobmfnmenbkeaaDoor.Gv
open Go.RowKit Go.Proofs.YthobmfnmenbkeaaDoorW.PrintWords Go.Proofs.YthobmfnmenbkeaaDoorW.PrintLast Go.Proofs.YthobmfnmenbkeaaDoorW.PrintMore
attribute [local go_sem] max2_int min2_int max_two min_two max_three min_three max_four min_four   -- for this text's walks alone
set_option linter.unusedVariables false
set_option linter.unusedSimpArgs false




theorem info5 : (Tryd.prog.info? 5).map (fun i => (i.zero, i.size, i.bytes)) = some (some (.int .u8 0), 1, 1) := by kernel_rfl
-- the values' own types

end Go.Proofs.YthobmfnmenbkeaaDoor.XA
end
/- Go functions of this seat as Lean functions, and their contracts, written by our program xprint.py over the kit's printer. -/
section
namespace Go.Proofs.YthobmfnmenbkeaaDoor.XA
open Go.Proofs.YthobmfnmenbkeaaDoor.Gv
open Go.RowKit Go.Proofs.YthobmfnmenbkeaaDoorW.PrintWords Go.Proofs.YthobmfnmenbkeaaDoorW.PrintLast Go.Proofs.YthobmfnmenbkeaaDoorW.PrintMore
attribute [local go_sem] max2_int min2_int max_two min_two max_three min_three max_four min_four   -- for this text's walks alone
set_option linter.unusedVariables false
set_option linter.unusedSimpArgs false

/-! ### turnstileref08_cut: function 54 -/
def turnstileref08_cut.l0 : Nat → ByteArray → Int → Int → Option (ByteArray × ByteArray × Bool)
  | 0, _, _, _ => none
  | k + 1, x0, x1, x7 => if x7 < (x0.size : Int) then (if 0 ≤ x7 then (if (bt x0 x7) = x1 then (if x7 ≤ (x0.size : Int) then (if 0 ≤ (wrap64 (x7 + 1)) then (if (wrap64 (x7 + 1)) ≤ (x0.size : Int) then (some (x0.extract 0 (x7 : Int).toNat, x0.extract ((wrap64 (x7 + 1)) : Int).toNat x0.size, true)) else (none)) else (none)) else (none)) else (turnstileref08_cut.l0 k x0 x1 (wrap64 (x7 + 1)))) else (none)) else (some (x0, (⟨#[]⟩ : ByteArray), false))
def turnstileref08_cut.f (k : Nat) (a0 : ByteArray) (a1 : Int) : Option (ByteArray × ByteArray × Bool) := turnstileref08_cut.l0 k a0 a1 0
theorem turnstileref08_cut.mono_l : ∀ k, (∀ y0 y1 y2, LeO (turnstileref08_cut.l0 k y0 y1 y2) (turnstileref08_cut.l0 (k + 1) y0 y1 y2))
  | 0 => fun _ _ _ r h => by simp [turnstileref08_cut.l0] at h
  | k + 1 => by
    have ih0 := turnstileref08_cut.mono_l k
    · intro y0 y1 y2
      unfold turnstileref08_cut.l0
      repeat' first
      | (with_reducible exact ih0 _ _ _)
      | (with_reducible exact LeO.refl _)
      | (with_reducible exact LeO.none _)
      | (with_reducible refine LeO.ite ?_ ?_)
      | (with_reducible refine LeO.bind ?_ (fun _ => ?_))
      | exact ih0 _ _ _
      | exact LeO.none _
      | refine LeO.ite ?_ ?_
      | refine LeO.bind ?_ (fun _ => ?_)
theorem turnstileref08_cut.mono : ∀ a0 a1 k, LeO (turnstileref08_cut.f k a0 a1) (turnstileref08_cut.f (k + 1) a0 a1) := by
  intro a0 a1 k
  have ih0 := turnstileref08_cut.mono_l k
  unfold turnstileref08_cut.f
  repeat' first
      | (with_reducible exact ih0 _ _ _)
      | (with_reducible exact LeO.refl _)
      | (with_reducible exact LeO.none _)
      | (with_reducible refine LeO.ite ?_ ?_)
      | (with_reducible refine LeO.bind ?_ (fun _ => ?_))
      | exact ih0 _ _ _
      | exact LeO.none _
      | refine LeO.ite ?_ ?_
      | refine LeO.bind ?_ (fun _ => ?_)
set_option maxHeartbeats 8000000 in
set_option maxRecDepth 100000 in
theorem turnstileref08_cut.calls (k : Nat) (a0 : ByteArray) (a1 : Int) (r1 : ByteArray) (r2 : ByteArray) (r3 : Bool) (w : World) (h : turnstileref08_cut.f k a0 a1 = some (r1, r2, r3)) :
    Calls Tryd.prog 54 #[.string a0, .int .u8 a1] w fun e w' => e = .returned (.tuple #[.string r1, .string r2, .bool r3]) ∧ Drawn0 w w' := by
  have H : (turnstileref08_cut.l0 k a0 a1 0) = some (r1, r2, r3) := h
  clear h
  have H' := Aside0.mk H
  clear H
  go_enter Tryd.func54, Tryd.ntmps54
  go_wp2
  repeat (go_quiet (fail); try go_wp2)
  go_loopg [7] k (fun kq v7 w' => ∃ (x7_1 : Int), v7 = .int .i64 x7_1 ∧ Aside0 (turnstileref08_cut.l0 kq a0 a1 x7_1 = some (r1, r2, r3)) ∧ Aside0 (kq ≤ k) ∧ Drawn0 w w')
  case atStart => exact ⟨(0), (by first | rfl | (simp; done) | (simp [*]; done)), H', ⟨Nat.le_refl _⟩, by repeat (first | exact Drawn0.refl _ | apply Drawn0.step)⟩
  case round =>
    clear H'
    try clear p2
    obtain ⟨x7_1, rfl, HA, HK1, ⟨m1, rfl⟩⟩ := hrel
    cases gk with
    | zero => exact absurd HA.out (by simp [turnstileref08_cut.l0])
    | succ k1 =>
      have H := HA.out
      clear HA
      simp only [turnstileref08_cut.l0] at H
      by_cases c3 : x7_1 < (a0.size : Int)
      · rw [if_pos c3] at H
        have c3b0 : decide (x7_1 < (a0.size : Int)) = true := decide_eq_true c3
        clear c3
        by_cases c4 : 0 ≤ x7_1
        · rw [if_pos c4] at H
          have c4b0 : decide (0 ≤ x7_1) = true := decide_eq_true c4
          clear c4
          by_cases c6 : (bt a0 x7_1) = a1
          · rw [if_pos c6] at H
            have c6b0 : ((bt a0 x7_1) == a1) = true := beq_iff_eq.mpr c6
            have c6b1 : ((bt a0 x7_1) != a1) = false := bne_eq_false_iff_eq.mpr c6
            clear c6
            have c7b0 := eq_true (of_decide_eq_true (by first | (with_reducible assumption) | assumption) : 0 ≤ x7_1)
            by_cases c8 : x7_1 ≤ (a0.size : Int)
            · rw [if_pos c8] at H
              have c8b0 := eq_true c8
              have c8b1 : decide (x7_1 ≤ (a0.size : Int)) = true := decide_eq_true c8
              clear c8
              obtain ⟨ji9, hji9⟩ : ∃ j_ : Int, (wrap64 (x7_1 + 1)) = j_ := ⟨_, rfl⟩
              replace H : (if 0 ≤ (ji9) then (if (ji9) ≤ (a0.size : Int) then (some (a0.extract 0 (x7_1 : Int).toNat, a0.extract ((ji9) : Int).toNat a0.size, true)) else (none)) else (none)) = some (r1, r2, r3) := by first | (rw [hji9] at H; exact H) | (simp only [hji9] at H ⊢; exact H)
              have hji9w : (IntKind.i64.wrap (x7_1 + 1)) = ji9 := (i64_w _).trans hji9
              by_cases c10 : 0 ≤ (ji9)
              · rw [if_pos c10] at H
                have c10b0 := eq_true c10
                have c10b1 : decide (0 ≤ (ji9)) = true := decide_eq_true c10
                clear c10
                by_cases c11 : (ji9) ≤ (a0.size : Int)
                · rw [if_pos c11] at H
                  have c11b0 := eq_true c11
                  have c11b1 : decide ((ji9) ≤ (a0.size : Int)) = true := decide_eq_true c11
                  clear c11
                  simp only [Option.some.injEq, Prod.mk.injEq] at H
                  obtain ⟨rfl, rfl, rfl⟩ := H
                  have p5 : 0 ≤ (x7_1 : Int) := of_decide_eq_true (by first | (with_reducible assumption) | assumption)
                  have q5 : x7_1 < (a0.size : Int) := of_decide_eq_true (by first | (with_reducible assumption) | assumption)
                  have hx5 := bt_at a0 x7_1
                  replace p5 := eq_true p5
                  replace q5 := eq_true q5
                  go_wp2
                  repeat (go_quiet (fail); try go_wp2)
                  go_ret3
                  exact ⟨by first | rfl | (simp; done) | (simp only [← hji9] <;> (first | rfl | simp)) | (simp [*]; done), by repeat (first | exact Drawn0.refl _ | apply Drawn0.step)⟩
                · rw [if_neg c11] at H
                  exact absurd H (by simp)
              · rw [if_neg c10] at H
                exact absurd H (by simp)
            · rw [if_neg c8] at H
              exact absurd H (by simp)
          · rw [if_neg c6] at H
            have c6b0 : ((bt a0 x7_1) == a1) = false := beq_eq_false_iff_ne.mpr c6
            have c6b1 : ((bt a0 x7_1) != a1) = true := bne_iff_ne.mpr c6
            have H' := Aside0.mk H
            clear H
            have p5 : 0 ≤ (x7_1 : Int) := of_decide_eq_true (by first | (with_reducible assumption) | assumption)
            have q5 : x7_1 < (a0.size : Int) := of_decide_eq_true (by first | (with_reducible assumption) | assumption)
            have hx5 := bt_at a0 x7_1
            replace p5 := eq_true p5
            replace q5 := eq_true q5
            go_wp2
            repeat (go_quiet (fail); try go_wp2)
            go_roundg k1
            case measure => have := HK1.out; omega
            case rel => exact ⟨(wrap64 (x7_1 + 1)), (by first | rfl | (simp; done) | (simp [*]; done)), H', ⟨by have := HK1.out; omega⟩, by repeat (first | exact Drawn0.refl _ | apply Drawn0.step)⟩
        · rw [if_neg c4] at H
          exact absurd H (by simp)
      · rw [if_neg c3] at H
        have c3b0 : decide (x7_1 < (a0.size : Int)) = false := decide_eq_false c3
        clear c3
        simp only [Option.some.injEq, Prod.mk.injEq] at H
        obtain ⟨rfl, rfl, rfl⟩ := H
        go_wp2
        repeat (go_quiet (fail); try go_wp2)
        go_ret3
        exact ⟨by first | rfl | (simp; done) | (simp [*]; done), by repeat (first | exact Drawn0.refl _ | apply Drawn0.step)⟩

/-! ### turnstileref08_behind: function 35 -/
mutual
def turnstileref08_behind.j0 : Nat → ByteArray → ByteArray → Bool → Bool → Int → ByteArray → ByteArray → ByteArray → Bool → Option (Int × ByteArray × ByteArray × ByteArray × Bool × Int)
  | 0, _, _, _, _, _, _, _, _, _ => none
  | k + 1, x6, x7, x8, x21, x102000, x102001, x102002, x102003, x102004 => if x21 = true then (turnstileref08_behind.j1 k (⟨#[47]⟩ : ByteArray) x7 x8 x102000 x102001 x102002 x102003 x102004) else (turnstileref08_behind.j1 k x6 x7 x8 x102000 x102001 x102002 x102003 x102004)
def turnstileref08_behind.j1 : Nat → ByteArray → ByteArray → Bool → Int → ByteArray → ByteArray → ByteArray → Bool → Option (Int × ByteArray × ByteArray × ByteArray × Bool × Int)
  | 0, _, _, _, _, _, _, _, _ => none
  | k + 1, x6, x7, x8, x102000, x102001, x102002, x102003, x102004 => (rPath.f x6).bind fun t106 => (if t106 = true then ((rQuery.f x7).bind fun t107 => (if t107 = true then (some (x102000, x102001, x6, x7, x8, 0)) else (some (0, (⟨#[]⟩ : ByteArray), (⟨#[]⟩ : ByteArray), (⟨#[]⟩ : ByteArray), false, 23)))) else (some (0, (⟨#[]⟩ : ByteArray), (⟨#[]⟩ : ByteArray), (⟨#[]⟩ : ByteArray), false, 23)))
end
def turnstileref08_behind.f (k : Nat) (a0_0 : Int) (a0_1 : ByteArray) (a0_2 : ByteArray) (a0_3 : ByteArray) (a0_4 : Bool) (a1 : ByteArray) : Option (Int × ByteArray × ByteArray × ByteArray × Bool × Int) := (turnstileref08_cut.f k a1 63).bind fun bt103 => (if bt103.1.toList = ([] : List UInt8) then (turnstileref08_behind.j0 k bt103.1 bt103.2.1 bt103.2.2 (a0_0 == 2) a0_0 a0_1 a0_2 a0_3 a0_4) else (turnstileref08_behind.j0 k bt103.1 bt103.2.1 bt103.2.2 false a0_0 a0_1 a0_2 a0_3 a0_4))
theorem turnstileref08_behind.mono_l : ∀ k, (∀ y0 y1 y2 y3 y4 y5 y6 y7 y8, LeO (turnstileref08_behind.j0 k y0 y1 y2 y3 y4 y5 y6 y7 y8) (turnstileref08_behind.j0 (k + 1) y0 y1 y2 y3 y4 y5 y6 y7 y8)) ∧ (∀ y0 y1 y2 y3 y4 y5 y6 y7, LeO (turnstileref08_behind.j1 k y0 y1 y2 y3 y4 y5 y6 y7) (turnstileref08_behind.j1 (k + 1) y0 y1 y2 y3 y4 y5 y6 y7))
  | 0 => ⟨fun _ _ _ _ _ _ _ _ _ r h => by simp [turnstileref08_behind.j0] at h, fun _ _ _ _ _ _ _ _ r h => by simp [turnstileref08_behind.j1] at h⟩
  | k + 1 => by
    obtain ⟨ih0, ih1⟩ := turnstileref08_behind.mono_l k
    refine ⟨?_, ?_⟩
    · intro y0 y1 y2 y3 y4 y5 y6 y7 y8
      unfold turnstileref08_behind.j0
      repeat' first
      | (with_reducible exact ih0 _ _ _ _ _ _ _ _ _)
      | (with_reducible exact ih1 _ _ _ _ _ _ _ _)
      | (with_reducible exact turnstileref08_cut.mono _ _ _)
      | (with_reducible exact LeO.refl _)
      | (with_reducible exact LeO.none _)
      | (with_reducible refine LeO.ite ?_ ?_)
      | (with_reducible refine LeO.bind ?_ (fun _ => ?_))
      | exact ih0 _ _ _ _ _ _ _ _ _
      | exact ih1 _ _ _ _ _ _ _ _
      | exact turnstileref08_cut.mono _ _ _
      | exact LeO.none _
      | refine LeO.ite ?_ ?_
      | refine LeO.bind ?_ (fun _ => ?_)
    · intro y0 y1 y2 y3 y4 y5 y6 y7
      unfold turnstileref08_behind.j1
      repeat' first
      | (with_reducible exact ih0 _ _ _ _ _ _ _ _ _)
      | (with_reducible exact ih1 _ _ _ _ _ _ _ _)
      | (with_reducible exact turnstileref08_cut.mono _ _ _)
      | (with_reducible exact LeO.refl _)
      | (with_reducible exact LeO.none _)
      | (with_reducible refine LeO.ite ?_ ?_)
      | (with_reducible refine LeO.bind ?_ (fun _ => ?_))
      | exact ih0 _ _ _ _ _ _ _ _ _
      | exact ih1 _ _ _ _ _ _ _ _
      | exact turnstileref08_cut.mono _ _ _
      | exact LeO.none _
      | refine LeO.ite ?_ ?_
      | refine LeO.bind ?_ (fun _ => ?_)
theorem turnstileref08_behind.mono : ∀ a0 a1 a2 a3 a4 a5 k, LeO (turnstileref08_behind.f k a0 a1 a2 a3 a4 a5) (turnstileref08_behind.f (k + 1) a0 a1 a2 a3 a4 a5) := by
  intro a0 a1 a2 a3 a4 a5 k
  obtain ⟨ih0, ih1⟩ := turnstileref08_behind.mono_l k
  unfold turnstileref08_behind.f
  repeat' first
      | (with_reducible exact ih0 _ _ _ _ _ _ _ _ _)
      | (with_reducible exact ih1 _ _ _ _ _ _ _ _)
      | (with_reducible exact turnstileref08_cut.mono _ _ _)
      | (with_reducible exact LeO.refl _)
      | (with_reducible exact LeO.none _)
      | (with_reducible refine LeO.ite ?_ ?_)
      | (with_reducible refine LeO.bind ?_ (fun _ => ?_))
      | exact ih0 _ _ _ _ _ _ _ _ _
      | exact ih1 _ _ _ _ _ _ _ _
      | exact turnstileref08_cut.mono _ _ _
      | exact LeO.none _
      | refine LeO.ite ?_ ?_
      | refine LeO.bind ?_ (fun _ => ?_)
set_option maxHeartbeats 8000000 in
set_option maxRecDepth 100000 in
theorem turnstileref08_behind.calls (k : Nat) (a0_0 : Int) (a0_1 : ByteArray) (a0_2 : ByteArray) (a0_3 : ByteArray) (a0_4 : Bool) (a1 : ByteArray) (r1 : Int) (r2 : ByteArray) (r3 : ByteArray) (r4 : ByteArray) (r5 : Bool) (r6 : Int) (w : World) (h : turnstileref08_behind.f k a0_0 a0_1 a0_2 a0_3 a0_4 a1 = some (r1, r2, r3, r4, r5, r6)) :
    Calls Tryd.prog 35 #[.agg #[.int .i64 a0_0, .string a0_1, .string a0_2, .string a0_3, .bool a0_4], .string a1] w fun e w' => e = .returned (.tuple #[.agg #[.int .i64 r1, .string r2, .string r3, .string r4, .bool r5], .int .i64 r6]) ∧ Below w.heap.size w w' := by
  have hu28 := Tryd.underlying28
  have HB := Aside0.mk (Below.refl w.heap.size w)
  have H : ((turnstileref08_cut.f k a1 63).bind fun bt103 => (if bt103.1.toList = ([] : List UInt8) then (turnstileref08_behind.j0 k bt103.1 bt103.2.1 bt103.2.2 (a0_0 == 2) a0_0 a0_1 a0_2 a0_3 a0_4) else (turnstileref08_behind.j0 k bt103.1 bt103.2.1 bt103.2.2 false a0_0 a0_1 a0_2 a0_3 a0_4))) = some (r1, r2, r3, r4, r5, r6) := h
  clear h
  replace H := Option.bind_eq_some_iff.mp H
  obtain ⟨⟨t103, t104, t105⟩, A30, H⟩ := H
  replace H : (if t103.toList = ([] : List UInt8) then (turnstileref08_behind.j0 k t103 t104 t105 (a0_0 == 2) a0_0 a0_1 a0_2 a0_3 a0_4) else (turnstileref08_behind.j0 k t103 t104 t105 false a0_0 a0_1 a0_2 a0_3 a0_4)) = some (r1, r2, r3, r4, r5, r6) := H
  have A3 := Aside0.mk A30
  clear A30
  have HC4 := Aside0.mk H
  clear H
  go_enter Tryd.func35, Tryd.ntmps35
  go_upto_region 2 with (first | ((with_reducible refine gate_dst (N := 2) rfl ?_); refine box_event ?hg (N := 2) ?hd (cs := #[.int .i64 a0_0, .string a0_1, .string a0_2, .string a0_3, .bool a0_4]) (t := 28) ?hr ?_; (case hd => rfl); (case hg => rfl); (case hr => first | (go_simp; done) | (go_simp; rfl)); intro gb101 hg w5 hbox hb; have n0_ := Aside0.mk (below_step (by repeat (first | (with_reducible first | exact HB.out | apply below_alloc | apply pw_below_drewN | apply below_drew1) | exact HB.out)) hb); have n1_ := Aside0.mk (hbox); have n2_ := Aside0.mk ((by rw [hg]; exact (below_size (by repeat (first | (with_reducible first | exact HB.out | apply below_alloc | apply pw_below_drewN | apply below_drew1) | exact HB.out))) : w.heap.size ≤ gb101)); have n3_ := Aside0.mk ((by rw [hg]; exact (below_size (by repeat (first | (with_reducible first | exact HB.out | apply below_alloc | apply pw_below_drewN | apply below_drew1) | exact HB.out))) : w.heap.size ≤ gb101)); clear HB; have HB := n0_; have BK101 := n1_; have GW101 := n2_; have GE101 := n3_; clear n0_ n1_ n2_ n3_; clear hb hbox hg) | ((with_reducible refine gate_dst (N := 4) rfl ?_); refine box_event ?hg (N := 4) ?hd (cs := #[.int .i64 0, .string (⟨#[]⟩ : ByteArray), .string (⟨#[]⟩ : ByteArray), .string (⟨#[]⟩ : ByteArray), .bool false]) (t := 28) ?hr ?_; (case hd => rfl); (case hg => rfl); (case hr => first | (go_simp; done) | (go_simp; rfl)); intro gb102 hg w6 hbox hb; have n0_ := Aside0.mk (blk_below (g := gb101) (o := .cells #[.int .i64 a0_0, .string a0_1, .string a0_2, .string a0_3, .bool a0_4] 28 (0, 0)) (by (with_reducible repeat (first | refine blk_drewN ?_ _ | refine blk_drew ?_ | refine blk_alloc ?_ _)); exact BK101.out) hb); have n1_ := Aside0.mk (below_step (by repeat (first | (with_reducible first | exact HB.out | apply below_alloc | apply pw_below_drewN | apply below_drew1 | refine below_set ?_ GE101.out) | exact HB.out)) hb); have n2_ := Aside0.mk (hbox); have n3_ := Aside0.mk ((by rw [hg]; exact (below_size (by repeat (first | (with_reducible first | exact HB.out | apply below_alloc | apply pw_below_drewN | apply below_drew1 | refine below_set ?_ GE101.out) | exact HB.out))) : w.heap.size ≤ gb102)); have n4_ := Aside0.mk ((by rw [hg]; exact (below_size (by repeat (first | (with_reducible first | exact HB.out | apply below_alloc | apply pw_below_drewN | apply below_drew1 | refine below_set ?_ GE101.out) | exact HB.out))) : w.heap.size ≤ gb102)); have n5_ := Aside0.mk ((by rw [hg]; exact Nat.ne_of_lt (blk_lt (g := gb101) (o := .cells #[.int .i64 a0_0, .string a0_1, .string a0_2, .string a0_3, .bool a0_4] 28 (0, 0)) (by (with_reducible repeat (first | refine blk_drewN ?_ _ | refine blk_drew ?_ | refine blk_alloc ?_ _)); exact BK101.out)) : gb101 ≠ gb102)); have n6_ := Aside0.mk ((by rw [hg]; exact Nat.ne_of_gt (blk_lt (g := gb101) (o := .cells #[.int .i64 a0_0, .string a0_1, .string a0_2, .string a0_3, .bool a0_4] 28 (0, 0)) (by (with_reducible repeat (first | refine blk_drewN ?_ _ | refine blk_drew ?_ | refine blk_alloc ?_ _)); exact BK101.out)) : gb102 ≠ gb101)); clear BK101; clear HB; have BK101 := n0_; have HB := n1_; have BK102 := n2_; have GW102 := n3_; have GE102 := n4_; have NB101_102 := n5_; have NB102_101 := n6_; clear n0_ n1_ n2_ n3_ n4_ n5_ n6_; clear hb hbox hg) | ((with_reducible refine gate_callee (f := 54) rfl ?_); refine goesL_ (some 11) rfl rfl Tryd.func54 (by kernel_rfl) rfl #[.string a1, .int .u8 63] rfl (by (try simp only [List.map_toArray, List.map_cons, List.map_nil]); first | done | rfl | (simp only [List.length_drop, List.length_take]; rfl)) ?_; (with_reducible refine (turnstileref08_cut.calls k a1 63 t103 t104 t105 _ A3.out).mono ?_); rintro e w' ⟨rfl, ⟨nd, rfl⟩⟩; refine ⟨_, rfl, ?_⟩))
  (try simp only [Act.put, List.setIfInBounds_toArray, List.set_cons_zero, List.set_cons_succ])
  go_cut [21] (fun v21 wc => ∃ (kq : Nat) (x21_3 : Bool), v21 = .bool x21_3 ∧ Aside0 (turnstileref08_behind.j0 kq t103 t104 t105 x21_3 a0_0 a0_1 a0_2 a0_3 a0_4 = some (r1, r2, r3, r4, r5, r6)) ∧ Aside0 (kq ≤ k) ∧ Aside0 (wc.heap[gb101]? = some (.cells #[.int .i64 a0_0, .string a0_1, .string a0_2, .string a0_3, .bool a0_4] 28 (0, 0))) ∧ Aside0 (wc.heap[gb102]? = some (.cells #[.int .i64 0, .string (⟨#[]⟩ : ByteArray), .string (⟨#[]⟩ : ByteArray), .string (⟨#[]⟩ : ByteArray), .bool false] 28 (0, 0))) ∧ Aside0 (Below w.heap.size w wc))
  case first =>
    have H := HC4.out
    clear HC4
    by_cases c7 : t103.toList = ([] : List UInt8)
    · rw [if_pos c7] at H
      have c7b0 : (t103.toList == ([] : List UInt8)) = true := beq_iff_eq.mpr c7
      have c7b1 : (t103.toList != ([] : List UInt8)) = false := bne_eq_false_iff_eq.mpr c7
      clear c7
      (first | rw [c7b0] | (simp only [i64_w, i32_w]; rw [c7b0]) | skip)
      have H' := Aside0.mk H
      clear H
      have hnb8 := NB101_102.out
      have hnc8 := NB102_101.out
      have hcz9_0 : w6.cell? ⟨gb101, 0, none⟩ = some (.int .i64 a0_0) := (blk_cell BK101.out 0).trans rfl
      have hcz9_1 : w6.cell? ⟨gb101, 1, none⟩ = some (.string a0_1) := (blk_cell BK101.out 1).trans rfl
      have hcz9_2 : w6.cell? ⟨gb101, 2, none⟩ = some (.string a0_2) := (blk_cell BK101.out 2).trans rfl
      have hcz9_3 : w6.cell? ⟨gb101, 3, none⟩ = some (.string a0_3) := (blk_cell BK101.out 3).trans rfl
      have hcz9_4 : w6.cell? ⟨gb101, 4, none⟩ = some (.bool a0_4) := (blk_cell BK101.out 4).trans rfl
      have hfz9_0 := blk_frozen BK101.out 0
      have hfz9_1 := blk_frozen BK101.out 1
      have hfz9_2 := blk_frozen BK101.out 2
      have hfz9_3 := blk_frozen BK101.out 3
      have hfz9_4 := blk_frozen BK101.out 4
      go_wp2
      go_meet
      case rel => exact ⟨_, ((a0_0 == 2)), (by first | rfl | (simp; done) | (simp [*]; done)), H', ⟨by first | omega | exact Nat.le_refl _⟩, ⟨by (with_reducible repeat (first | refine blk_drewN ?_ _ | refine blk_drew ?_ | refine blk_alloc ?_ _)); exact BK101.out⟩, ⟨by (with_reducible repeat (first | refine blk_drewN ?_ _ | refine blk_drew ?_ | refine blk_alloc ?_ _)); exact BK102.out⟩, ⟨by repeat (first | (with_reducible first | exact HB.out | apply below_alloc | apply pw_below_drewN | apply below_drew1 | refine below_set ?_ GE101.out | refine below_set ?_ GE102.out) | exact HB.out)⟩⟩
    · rw [if_neg c7] at H
      have c7b0 : (t103.toList == ([] : List UInt8)) = false := beq_eq_false_iff_ne.mpr c7
      have c7b1 : (t103.toList != ([] : List UInt8)) = true := bne_iff_ne.mpr c7
      (first | rw [c7b0] | (simp only [i64_w, i32_w]; rw [c7b0]) | skip)
      have H' := Aside0.mk H
      clear H
      go_wp2
      go_meet
      case rel => exact ⟨_, (false), (by first | rfl | (simp; done) | (simp [*]; done)), H', ⟨by first | omega | exact Nat.le_refl _⟩, ⟨by (with_reducible repeat (first | refine blk_drewN ?_ _ | refine blk_drew ?_ | refine blk_alloc ?_ _)); exact BK101.out⟩, ⟨by (with_reducible repeat (first | refine blk_drewN ?_ _ | refine blk_drew ?_ | refine blk_alloc ?_ _)); exact BK102.out⟩, ⟨by repeat (first | (with_reducible first | exact HB.out | apply below_alloc | apply pw_below_drewN | apply below_drew1 | refine below_set ?_ GE101.out | refine below_set ?_ GE102.out) | exact HB.out)⟩⟩
  case rest =>
    clear HC4
    try clear p2
    try clear c3
    try clear c5
    try clear c7
    try clear c7b0
    try clear c7b1
    try clear c8
    try clear hcz9_0
    try clear hcz9_1
    try clear hcz9_2
    try clear hcz9_3
    try clear hcz9_4
    try clear hfz9_0
    try clear hfz9_1
    try clear hfz9_2
    try clear hfz9_3
    try clear hfz9_4
    obtain ⟨kq, x21_3, rfl, HA, HJ3, BK101, BK102, HB⟩ := hcut
    cases kq with
    | zero => exact absurd HA.out (by simp [turnstileref08_behind.j0])
    | succ kj3 =>
      have H := HA.out
      clear HA
      simp only [turnstileref08_behind.j0] at H
      have HC10 := Aside0.mk H
      clear H
      go_upto_if 21 with (fail)
      go_cut [6] (fun v6 wc => ∃ (kq : Nat) (x6_9 : ByteArray), v6 = .string x6_9 ∧ Aside0 (turnstileref08_behind.j1 kq x6_9 t104 t105 a0_0 a0_1 a0_2 a0_3 a0_4 = some (r1, r2, r3, r4, r5, r6)) ∧ Aside0 (kq ≤ kj3) ∧ Aside0 (wc.heap[gb101]? = some (.cells #[.int .i64 a0_0, .string a0_1, .string a0_2, .string a0_3, .bool a0_4] 28 (0, 0))) ∧ Aside0 (wc.heap[gb102]? = some (.cells #[.int .i64 0, .string (⟨#[]⟩ : ByteArray), .string (⟨#[]⟩ : ByteArray), .string (⟨#[]⟩ : ByteArray), .bool false] 28 (0, 0))) ∧ Aside0 (Below w.heap.size w wc))
      case first =>
        have H := HC10.out
        clear HC10
        by_cases c11 : x21_3 = true
        · subst c11
          have H1 : (turnstileref08_behind.j1 kj3 (⟨#[47]⟩ : ByteArray) t104 t105 a0_0 a0_1 a0_2 a0_3 a0_4) = some (r1, r2, r3, r4, r5, r6) := by rw [if_pos rfl] at H; exact H
          clear H
          have H := H1
          clear H1
          have H' := Aside0.mk H
          clear H
          go_wp2
          go_meet
          case rel => exact ⟨_, ((⟨#[47]⟩ : ByteArray)), (by first | rfl | (simp; done) | (simp [*]; done)), H', ⟨by have := HJ3.out; first | omega | exact Nat.le_refl _⟩, ⟨by (with_reducible repeat (first | refine blk_drewN ?_ _ | refine blk_drew ?_ | refine blk_alloc ?_ _)); exact BK101.out⟩, ⟨by (with_reducible repeat (first | refine blk_drewN ?_ _ | refine blk_drew ?_ | refine blk_alloc ?_ _)); exact BK102.out⟩, ⟨by repeat (first | (with_reducible first | exact HB.out | apply below_alloc | apply pw_below_drewN | apply below_drew1 | refine below_set ?_ GE101.out | refine below_set ?_ GE102.out) | exact HB.out)⟩⟩
        · replace c11 := Bool.eq_false_iff.mpr c11
          subst c11
          have H1 : (turnstileref08_behind.j1 kj3 t103 t104 t105 a0_0 a0_1 a0_2 a0_3 a0_4) = some (r1, r2, r3, r4, r5, r6) := by rw [if_neg (show ¬ (false = true) by decide)] at H; exact H
          clear H
          have H := H1
          clear H1
          have H' := Aside0.mk H
          clear H
          go_wp2
          go_meet
          case rel => exact ⟨_, (t103), (by first | rfl | (simp; done) | (simp [*]; done)), H', ⟨by have := HJ3.out; first | omega | exact Nat.le_refl _⟩, ⟨by (with_reducible repeat (first | refine blk_drewN ?_ _ | refine blk_drew ?_ | refine blk_alloc ?_ _)); exact BK101.out⟩, ⟨by (with_reducible repeat (first | refine blk_drewN ?_ _ | refine blk_drew ?_ | refine blk_alloc ?_ _)); exact BK102.out⟩, ⟨by repeat (first | (with_reducible first | exact HB.out | apply below_alloc | apply pw_below_drewN | apply below_drew1 | refine below_set ?_ GE101.out | refine below_set ?_ GE102.out) | exact HB.out)⟩⟩
      case rest =>
        clear HC10
        try clear c1
        try clear p2
        try clear c3
        try clear c5
        try clear c7
        try clear c7b0
        try clear c7b1
        try clear c8
        try clear c11
        try clear hcz9_0
        try clear hcz9_1
        try clear hcz9_2
        try clear hcz9_3
        try clear hcz9_4
        try clear hfz9_0
        try clear hfz9_1
        try clear hfz9_2
        try clear hfz9_3
        try clear hfz9_4
        try clear p2
        obtain ⟨kq, x6_9, rfl, HA, HJ9, BK101, BK102, HB⟩ := hcut
        cases kq with
        | zero => exact absurd HA.out (by simp [turnstileref08_behind.j1])
        | succ kj9 =>
          have H := HA.out
          clear HA
          simp only [turnstileref08_behind.j1] at H
          replace H := Option.bind_eq_some_iff.mp H
          obtain ⟨t106, A120, H⟩ := H
          replace H : (if t106 = true then ((rQuery.f t104).bind fun t107 => (if t107 = true then (some (a0_0, a0_1, x6_9, t104, t105, 0)) else (some (0, (⟨#[]⟩ : ByteArray), (⟨#[]⟩ : ByteArray), (⟨#[]⟩ : ByteArray), false, 23)))) else (some (0, (⟨#[]⟩ : ByteArray), (⟨#[]⟩ : ByteArray), (⟨#[]⟩ : ByteArray), false, 23))) = some (r1, r2, r3, r4, r5, r6) := H
          have A12 := Aside0.mk A120
          clear A120
          by_cases c13 : t106 = true
          · subst c13
            have H1 : ((rQuery.f t104).bind fun t107 => (if t107 = true then (some (a0_0, a0_1, x6_9, t104, t105, 0)) else (some (0, (⟨#[]⟩ : ByteArray), (⟨#[]⟩ : ByteArray), (⟨#[]⟩ : ByteArray), false, 23)))) = some (r1, r2, r3, r4, r5, r6) := by rw [if_pos rfl] at H; exact H
            clear H
            have H := H1
            clear H1
            replace H := Option.bind_eq_some_iff.mp H
            obtain ⟨t107, A140, H⟩ := H
            replace H : (if t107 = true then (some (a0_0, a0_1, x6_9, t104, t105, 0)) else (some (0, (⟨#[]⟩ : ByteArray), (⟨#[]⟩ : ByteArray), (⟨#[]⟩ : ByteArray), false, 23))) = some (r1, r2, r3, r4, r5, r6) := H
            have A14 := Aside0.mk A140
            clear A140
            by_cases c15 : t107 = true
            · subst c15
              have H1 : (some (a0_0, a0_1, x6_9, t104, t105, 0)) = some (r1, r2, r3, r4, r5, r6) := by rw [if_pos rfl] at H; exact H
              clear H
              have H := H1
              clear H1
              simp only [Option.some.injEq, Prod.mk.injEq] at H
              obtain ⟨rfl, rfl, rfl, rfl, rfl, rfl⟩ := H
              go_wp2_with (first | ((with_reducible refine gate_callee (f := 47) rfl ?_); refine goesL_ (some 23) rfl rfl Tryd.func47 (by kernel_rfl) rfl #[.string x6_9] rfl (by (try simp only [List.map_toArray, List.map_cons, List.map_nil]); first | done | rfl | (simp only [List.length_drop, List.length_take]; rfl)) ?_; (with_reducible refine (rPath.calls x6_9 true _ A12.out).mono ?_); rintro e w' ⟨rfl, ⟨nd, rfl⟩⟩; refine ⟨_, rfl, ?_⟩; (try (rw [drewN_self wc]; generalize hq_ : World.drewN wc _ = wc; have n0_ : Aside0 (wc.heap[gb101]? = some (.cells #[.int .i64 a0_0, .string a0_1, .string a0_2, .string a0_3, .bool a0_4] 28 (0, 0))) := ⟨by rw [← hq_]; exact (by (with_reducible repeat (first | refine blk_drewN ?_ _ | refine blk_drew ?_ | refine blk_alloc ?_ _)); exact BK101.out)⟩; have n1_ : Aside0 (wc.heap[gb102]? = some (.cells #[.int .i64 0, .string (⟨#[]⟩ : ByteArray), .string (⟨#[]⟩ : ByteArray), .string (⟨#[]⟩ : ByteArray), .bool false] 28 (0, 0))) := ⟨by rw [← hq_]; exact (by (with_reducible repeat (first | refine blk_drewN ?_ _ | refine blk_drew ?_ | refine blk_alloc ?_ _)); exact BK102.out)⟩; have n2_ : Aside0 (Below w.heap.size w wc) := ⟨by rw [← hq_]; exact (by repeat (first | (with_reducible first | exact HB.out | apply below_alloc | apply pw_below_drewN | apply below_drew1 | refine below_set ?_ GE101.out | refine below_set ?_ GE102.out) | exact HB.out))⟩; clear BK101 BK102 HB hq_; have BK101 := n0_; have BK102 := n1_; have HB := n2_; clear n0_ n1_ n2_))) | (go_at_call 53; (with_reducible refine (rQuery.calls t104 true _ A14.out).mono ?_); rintro e w' ⟨rfl, ⟨nd, rfl⟩⟩; (try (rw [drewN_self wc]; generalize hq_ : World.drewN wc _ = wc; have n0_ : Aside0 (wc.heap[gb101]? = some (.cells #[.int .i64 a0_0, .string a0_1, .string a0_2, .string a0_3, .bool a0_4] 28 (0, 0))) := ⟨by rw [← hq_]; exact (by (with_reducible repeat (first | refine blk_drewN ?_ _ | refine blk_drew ?_ | refine blk_alloc ?_ _)); exact BK101.out)⟩; have n1_ : Aside0 (wc.heap[gb102]? = some (.cells #[.int .i64 0, .string (⟨#[]⟩ : ByteArray), .string (⟨#[]⟩ : ByteArray), .string (⟨#[]⟩ : ByteArray), .bool false] 28 (0, 0))) := ⟨by rw [← hq_]; exact (by (with_reducible repeat (first | refine blk_drewN ?_ _ | refine blk_drew ?_ | refine blk_alloc ?_ _)); exact BK102.out)⟩; have n2_ : Aside0 (Below w.heap.size w wc) := ⟨by rw [← hq_]; exact (by repeat (first | (with_reducible first | exact HB.out | apply below_alloc | apply pw_below_drewN | apply below_drew1 | refine below_set ?_ GE101.out | refine below_set ?_ GE102.out) | exact HB.out))⟩; clear BK101 BK102 HB hq_; have BK101 := n0_; have BK102 := n1_; have HB := n2_; clear n0_ n1_ n2_)); have hnb16 := NB101_102.out; have hnc16 := NB102_101.out; have hcz17_0 : wc.cell? ⟨gb101, 0, none⟩ = some (.int .i64 a0_0) := (blk_cell BK101.out 0).trans rfl; have hcz17_1 : wc.cell? ⟨gb101, 1, none⟩ = some (.string a0_1) := (blk_cell BK101.out 1).trans rfl; have hcz17_2 : wc.cell? ⟨gb101, 2, none⟩ = some (.string a0_2) := (blk_cell BK101.out 2).trans rfl; have hcz17_3 : wc.cell? ⟨gb101, 3, none⟩ = some (.string a0_3) := (blk_cell BK101.out 3).trans rfl; have hcz17_4 : wc.cell? ⟨gb101, 4, none⟩ = some (.bool a0_4) := (blk_cell BK101.out 4).trans rfl; have hfz17_0 := blk_frozen BK101.out 0; have hfz17_1 := blk_frozen BK101.out 1; have hfz17_2 := blk_frozen BK101.out 2; have hfz17_3 := blk_frozen BK101.out 3; have hfz17_4 := blk_frozen BK101.out 4; have hcz18_0 : wc.cell? ⟨gb102, 0, none⟩ = some (.int .i64 0) := (blk_cell BK102.out 0).trans rfl; have hcz18_1 : wc.cell? ⟨gb102, 1, none⟩ = some (.string (⟨#[]⟩ : ByteArray)) := (blk_cell BK102.out 1).trans rfl; have hcz18_2 : wc.cell? ⟨gb102, 2, none⟩ = some (.string (⟨#[]⟩ : ByteArray)) := (blk_cell BK102.out 2).trans rfl; have hcz18_3 : wc.cell? ⟨gb102, 3, none⟩ = some (.string (⟨#[]⟩ : ByteArray)) := (blk_cell BK102.out 3).trans rfl; have hcz18_4 : wc.cell? ⟨gb102, 4, none⟩ = some (.bool false) := (blk_cell BK102.out 4).trans rfl; have hfz18_0 := blk_frozen BK102.out 0; have hfz18_1 := blk_frozen BK102.out 1; have hfz18_2 := blk_frozen BK102.out 2; have hfz18_3 := blk_frozen BK102.out 3; have hfz18_4 := blk_frozen BK102.out 4))
              refine bodyPost_ret (results_ct rfl _ _ gb102 28 #[.int .i64 a0_0, .string a0_1, .string x6_9, .string t104, .bool t105] (0, 0) _ rfl (by (with_reducible repeat (first | refine blk_drewN ?_ _ | refine blk_drew ?_ | refine blk_alloc ?_ _)); refine blk_put (cs := #[.int .i64 a0_0, .string a0_1, .string x6_9, .string t104, .bool false]) ?_ 4 _ rfl; (with_reducible repeat (first | refine blk_drewN ?_ _ | refine blk_drew ?_ | refine blk_alloc ?_ _)); refine blk_put (cs := #[.int .i64 a0_0, .string a0_1, .string x6_9, .string (⟨#[]⟩ : ByteArray), .bool false]) ?_ 3 _ rfl; (with_reducible repeat (first | refine blk_drewN ?_ _ | refine blk_drew ?_ | refine blk_alloc ?_ _)); refine blk_put (cs := #[.int .i64 a0_0, .string a0_1, .string (⟨#[]⟩ : ByteArray), .string (⟨#[]⟩ : ByteArray), .bool false]) ?_ 2 _ rfl; (with_reducible repeat (first | refine blk_drewN ?_ _ | refine blk_drew ?_ | refine blk_alloc ?_ _)); refine blk_put (cs := #[.int .i64 a0_0, .string (⟨#[]⟩ : ByteArray), .string (⟨#[]⟩ : ByteArray), .string (⟨#[]⟩ : ByteArray), .bool false]) ?_ 1 _ rfl; (with_reducible repeat (first | refine blk_drewN ?_ _ | refine blk_drew ?_ | refine blk_alloc ?_ _)); refine blk_put (cs := #[.int .i64 0, .string (⟨#[]⟩ : ByteArray), .string (⟨#[]⟩ : ByteArray), .string (⟨#[]⟩ : ByteArray), .bool false]) ?_ 0 _ rfl; (with_reducible repeat (first | refine blk_drewN ?_ _ | refine blk_drew ?_ | refine blk_alloc ?_ _)); refine blk_far ?_ NB102_101.out _; (with_reducible repeat (first | refine blk_drewN ?_ _ | refine blk_drew ?_ | refine blk_alloc ?_ _)); refine blk_far ?_ NB102_101.out _; (with_reducible repeat (first | refine blk_drewN ?_ _ | refine blk_drew ?_ | refine blk_alloc ?_ _)); refine blk_far ?_ NB102_101.out _; (with_reducible repeat (first | refine blk_drewN ?_ _ | refine blk_drew ?_ | refine blk_alloc ?_ _)); exact BK102.out) Tryd.underlying28 rfl (by kernel_rfl)) rfl ?_
              exact ⟨by first | rfl | (simp [errW_none, errW_some] <;> rfl) | (simp [*, errW_none, errW_some] <;> rfl), by repeat (first | (with_reducible first | exact HB.out | apply below_alloc | apply pw_below_drewN | apply below_drew1 | refine below_set ?_ GE101.out | refine below_set ?_ GE102.out) | exact HB.out)⟩
            · replace c15 := Bool.eq_false_iff.mpr c15
              subst c15
              have H1 : (some (0, (⟨#[]⟩ : ByteArray), (⟨#[]⟩ : ByteArray), (⟨#[]⟩ : ByteArray), false, 23)) = some (r1, r2, r3, r4, r5, r6) := by rw [if_neg (show ¬ (false = true) by decide)] at H; exact H
              clear H
              have H := H1
              clear H1
              simp only [Option.some.injEq, Prod.mk.injEq] at H
              obtain ⟨rfl, rfl, rfl, rfl, rfl, rfl⟩ := H
              go_wp2_with (first | ((with_reducible refine gate_callee (f := 47) rfl ?_); refine goesL_ (some 23) rfl rfl Tryd.func47 (by kernel_rfl) rfl #[.string x6_9] rfl (by (try simp only [List.map_toArray, List.map_cons, List.map_nil]); first | done | rfl | (simp only [List.length_drop, List.length_take]; rfl)) ?_; (with_reducible refine (rPath.calls x6_9 true _ A12.out).mono ?_); rintro e w' ⟨rfl, ⟨nd, rfl⟩⟩; refine ⟨_, rfl, ?_⟩; (try (rw [drewN_self wc]; generalize hq_ : World.drewN wc _ = wc; have n0_ : Aside0 (wc.heap[gb101]? = some (.cells #[.int .i64 a0_0, .string a0_1, .string a0_2, .string a0_3, .bool a0_4] 28 (0, 0))) := ⟨by rw [← hq_]; exact (by (with_reducible repeat (first | refine blk_drewN ?_ _ | refine blk_drew ?_ | refine blk_alloc ?_ _)); exact BK101.out)⟩; have n1_ : Aside0 (wc.heap[gb102]? = some (.cells #[.int .i64 0, .string (⟨#[]⟩ : ByteArray), .string (⟨#[]⟩ : ByteArray), .string (⟨#[]⟩ : ByteArray), .bool false] 28 (0, 0))) := ⟨by rw [← hq_]; exact (by (with_reducible repeat (first | refine blk_drewN ?_ _ | refine blk_drew ?_ | refine blk_alloc ?_ _)); exact BK102.out)⟩; have n2_ : Aside0 (Below w.heap.size w wc) := ⟨by rw [← hq_]; exact (by repeat (first | (with_reducible first | exact HB.out | apply below_alloc | apply pw_below_drewN | apply below_drew1 | refine below_set ?_ GE101.out | refine below_set ?_ GE102.out) | exact HB.out))⟩; clear BK101 BK102 HB hq_; have BK101 := n0_; have BK102 := n1_; have HB := n2_; clear n0_ n1_ n2_))) | (go_at_call 53; (with_reducible refine (rQuery.calls t104 false _ A14.out).mono ?_); rintro e w' ⟨rfl, ⟨nd, rfl⟩⟩; (try (rw [drewN_self wc]; generalize hq_ : World.drewN wc _ = wc; have n0_ : Aside0 (wc.heap[gb101]? = some (.cells #[.int .i64 a0_0, .string a0_1, .string a0_2, .string a0_3, .bool a0_4] 28 (0, 0))) := ⟨by rw [← hq_]; exact (by (with_reducible repeat (first | refine blk_drewN ?_ _ | refine blk_drew ?_ | refine blk_alloc ?_ _)); exact BK101.out)⟩; have n1_ : Aside0 (wc.heap[gb102]? = some (.cells #[.int .i64 0, .string (⟨#[]⟩ : ByteArray), .string (⟨#[]⟩ : ByteArray), .string (⟨#[]⟩ : ByteArray), .bool false] 28 (0, 0))) := ⟨by rw [← hq_]; exact (by (with_reducible repeat (first | refine blk_drewN ?_ _ | refine blk_drew ?_ | refine blk_alloc ?_ _)); exact BK102.out)⟩; have n2_ : Aside0 (Below w.heap.size w wc) := ⟨by rw [← hq_]; exact (by repeat (first | (with_reducible first | exact HB.out | apply below_alloc | apply pw_below_drewN | apply below_drew1 | refine below_set ?_ GE101.out | refine below_set ?_ GE102.out) | exact HB.out))⟩; clear BK101 BK102 HB hq_; have BK101 := n0_; have BK102 := n1_; have HB := n2_; clear n0_ n1_ n2_)); have hnb19 := NB102_101.out; have hnc19 := NB101_102.out; have hcz20_0 : wc.cell? ⟨gb102, 0, none⟩ = some (.int .i64 0) := (blk_cell BK102.out 0).trans rfl; have hcz20_1 : wc.cell? ⟨gb102, 1, none⟩ = some (.string (⟨#[]⟩ : ByteArray)) := (blk_cell BK102.out 1).trans rfl; have hcz20_2 : wc.cell? ⟨gb102, 2, none⟩ = some (.string (⟨#[]⟩ : ByteArray)) := (blk_cell BK102.out 2).trans rfl; have hcz20_3 : wc.cell? ⟨gb102, 3, none⟩ = some (.string (⟨#[]⟩ : ByteArray)) := (blk_cell BK102.out 3).trans rfl; have hcz20_4 : wc.cell? ⟨gb102, 4, none⟩ = some (.bool false) := (blk_cell BK102.out 4).trans rfl; have hfz20_0 := blk_frozen BK102.out 0; have hfz20_1 := blk_frozen BK102.out 1; have hfz20_2 := blk_frozen BK102.out 2; have hfz20_3 := blk_frozen BK102.out 3; have hfz20_4 := blk_frozen BK102.out 4))
              refine bodyPost_ret (results_ct rfl _ _ gb102 28 #[.int .i64 0, .string (⟨#[]⟩ : ByteArray), .string (⟨#[]⟩ : ByteArray), .string (⟨#[]⟩ : ByteArray), .bool false] (0, 0) _ rfl (by (with_reducible repeat (first | refine blk_drewN ?_ _ | refine blk_drew ?_ | refine blk_alloc ?_ _)); refine blk_put (cs := #[.int .i64 0, .string (⟨#[]⟩ : ByteArray), .string (⟨#[]⟩ : ByteArray), .string (⟨#[]⟩ : ByteArray), .bool false]) ?_ 4 _ rfl; (with_reducible repeat (first | refine blk_drewN ?_ _ | refine blk_drew ?_ | refine blk_alloc ?_ _)); refine blk_put (cs := #[.int .i64 0, .string (⟨#[]⟩ : ByteArray), .string (⟨#[]⟩ : ByteArray), .string (⟨#[]⟩ : ByteArray), .bool false]) ?_ 3 _ rfl; (with_reducible repeat (first | refine blk_drewN ?_ _ | refine blk_drew ?_ | refine blk_alloc ?_ _)); refine blk_put (cs := #[.int .i64 0, .string (⟨#[]⟩ : ByteArray), .string (⟨#[]⟩ : ByteArray), .string (⟨#[]⟩ : ByteArray), .bool false]) ?_ 2 _ rfl; (with_reducible repeat (first | refine blk_drewN ?_ _ | refine blk_drew ?_ | refine blk_alloc ?_ _)); refine blk_put (cs := #[.int .i64 0, .string (⟨#[]⟩ : ByteArray), .string (⟨#[]⟩ : ByteArray), .string (⟨#[]⟩ : ByteArray), .bool false]) ?_ 1 _ rfl; (with_reducible repeat (first | refine blk_drewN ?_ _ | refine blk_drew ?_ | refine blk_alloc ?_ _)); refine blk_put (cs := #[.int .i64 0, .string (⟨#[]⟩ : ByteArray), .string (⟨#[]⟩ : ByteArray), .string (⟨#[]⟩ : ByteArray), .bool false]) ?_ 0 _ rfl; (with_reducible repeat (first | refine blk_drewN ?_ _ | refine blk_drew ?_ | refine blk_alloc ?_ _)); exact BK102.out) Tryd.underlying28 rfl (by kernel_rfl)) rfl ?_
              exact ⟨by first | rfl | (simp [errW_none, errW_some] <;> rfl) | (simp [*, errW_none, errW_some] <;> rfl), by repeat (first | (with_reducible first | exact HB.out | apply below_alloc | apply pw_below_drewN | apply below_drew1 | refine below_set ?_ GE101.out | refine below_set ?_ GE102.out) | exact HB.out)⟩
          · replace c13 := Bool.eq_false_iff.mpr c13
            subst c13
            have H1 : (some (0, (⟨#[]⟩ : ByteArray), (⟨#[]⟩ : ByteArray), (⟨#[]⟩ : ByteArray), false, 23)) = some (r1, r2, r3, r4, r5, r6) := by rw [if_neg (show ¬ (false = true) by decide)] at H; exact H
            clear H
            have H := H1
            clear H1
            simp only [Option.some.injEq, Prod.mk.injEq] at H
            obtain ⟨rfl, rfl, rfl, rfl, rfl, rfl⟩ := H
            go_wp2_with (first | ((with_reducible refine gate_callee (f := 47) rfl ?_); refine goesL_ (some 23) rfl rfl Tryd.func47 (by kernel_rfl) rfl #[.string x6_9] rfl (by (try simp only [List.map_toArray, List.map_cons, List.map_nil]); first | done | rfl | (simp only [List.length_drop, List.length_take]; rfl)) ?_; (with_reducible refine (rPath.calls x6_9 false _ A12.out).mono ?_); rintro e w' ⟨rfl, ⟨nd, rfl⟩⟩; refine ⟨_, rfl, ?_⟩; (try (rw [drewN_self wc]; generalize hq_ : World.drewN wc _ = wc; have n0_ : Aside0 (wc.heap[gb101]? = some (.cells #[.int .i64 a0_0, .string a0_1, .string a0_2, .string a0_3, .bool a0_4] 28 (0, 0))) := ⟨by rw [← hq_]; exact (by (with_reducible repeat (first | refine blk_drewN ?_ _ | refine blk_drew ?_ | refine blk_alloc ?_ _)); exact BK101.out)⟩; have n1_ : Aside0 (wc.heap[gb102]? = some (.cells #[.int .i64 0, .string (⟨#[]⟩ : ByteArray), .string (⟨#[]⟩ : ByteArray), .string (⟨#[]⟩ : ByteArray), .bool false] 28 (0, 0))) := ⟨by rw [← hq_]; exact (by (with_reducible repeat (first | refine blk_drewN ?_ _ | refine blk_drew ?_ | refine blk_alloc ?_ _)); exact BK102.out)⟩; have n2_ : Aside0 (Below w.heap.size w wc) := ⟨by rw [← hq_]; exact (by repeat (first | (with_reducible first | exact HB.out | apply below_alloc | apply pw_below_drewN | apply below_drew1 | refine below_set ?_ GE101.out | refine below_set ?_ GE102.out) | exact HB.out))⟩; clear BK101 BK102 HB hq_; have BK101 := n0_; have BK102 := n1_; have HB := n2_; clear n0_ n1_ n2_)); have hnb21 := NB102_101.out; have hnc21 := NB101_102.out; have hcz22_0 : wc.cell? ⟨gb102, 0, none⟩ = some (.int .i64 0) := (blk_cell BK102.out 0).trans rfl; have hcz22_1 : wc.cell? ⟨gb102, 1, none⟩ = some (.string (⟨#[]⟩ : ByteArray)) := (blk_cell BK102.out 1).trans rfl; have hcz22_2 : wc.cell? ⟨gb102, 2, none⟩ = some (.string (⟨#[]⟩ : ByteArray)) := (blk_cell BK102.out 2).trans rfl; have hcz22_3 : wc.cell? ⟨gb102, 3, none⟩ = some (.string (⟨#[]⟩ : ByteArray)) := (blk_cell BK102.out 3).trans rfl; have hcz22_4 : wc.cell? ⟨gb102, 4, none⟩ = some (.bool false) := (blk_cell BK102.out 4).trans rfl; have hfz22_0 := blk_frozen BK102.out 0; have hfz22_1 := blk_frozen BK102.out 1; have hfz22_2 := blk_frozen BK102.out 2; have hfz22_3 := blk_frozen BK102.out 3; have hfz22_4 := blk_frozen BK102.out 4))
            refine bodyPost_ret (results_ct rfl _ _ gb102 28 #[.int .i64 0, .string (⟨#[]⟩ : ByteArray), .string (⟨#[]⟩ : ByteArray), .string (⟨#[]⟩ : ByteArray), .bool false] (0, 0) _ rfl (by (with_reducible repeat (first | refine blk_drewN ?_ _ | refine blk_drew ?_ | refine blk_alloc ?_ _)); refine blk_put (cs := #[.int .i64 0, .string (⟨#[]⟩ : ByteArray), .string (⟨#[]⟩ : ByteArray), .string (⟨#[]⟩ : ByteArray), .bool false]) ?_ 4 _ rfl; (with_reducible repeat (first | refine blk_drewN ?_ _ | refine blk_drew ?_ | refine blk_alloc ?_ _)); refine blk_put (cs := #[.int .i64 0, .string (⟨#[]⟩ : ByteArray), .string (⟨#[]⟩ : ByteArray), .string (⟨#[]⟩ : ByteArray), .bool false]) ?_ 3 _ rfl; (with_reducible repeat (first | refine blk_drewN ?_ _ | refine blk_drew ?_ | refine blk_alloc ?_ _)); refine blk_put (cs := #[.int .i64 0, .string (⟨#[]⟩ : ByteArray), .string (⟨#[]⟩ : ByteArray), .string (⟨#[]⟩ : ByteArray), .bool false]) ?_ 2 _ rfl; (with_reducible repeat (first | refine blk_drewN ?_ _ | refine blk_drew ?_ | refine blk_alloc ?_ _)); refine blk_put (cs := #[.int .i64 0, .string (⟨#[]⟩ : ByteArray), .string (⟨#[]⟩ : ByteArray), .string (⟨#[]⟩ : ByteArray), .bool false]) ?_ 1 _ rfl; (with_reducible repeat (first | refine blk_drewN ?_ _ | refine blk_drew ?_ | refine blk_alloc ?_ _)); refine blk_put (cs := #[.int .i64 0, .string (⟨#[]⟩ : ByteArray), .string (⟨#[]⟩ : ByteArray), .string (⟨#[]⟩ : ByteArray), .bool false]) ?_ 0 _ rfl; (with_reducible repeat (first | refine blk_drewN ?_ _ | refine blk_drew ?_ | refine blk_alloc ?_ _)); exact BK102.out) Tryd.underlying28 rfl (by kernel_rfl)) rfl ?_
            exact ⟨by first | rfl | (simp [errW_none, errW_some] <;> rfl) | (simp [*, errW_none, errW_some] <;> rfl), by repeat (first | (with_reducible first | exact HB.out | apply below_alloc | apply pw_below_drewN | apply below_drew1 | refine below_set ?_ GE101.out | refine below_set ?_ GE102.out) | exact HB.out)⟩

/-! ### turnstileref08_small: function 36 -/
def turnstileref08_small.l0 : Nat → ByteArray → List Int → Int → Option (ByteArray)
  | 0, _, _, _ => none
  | k + 1, x0, x3, x4 => if x4 < (x0.size : Int) then (if 0 ≤ x4 then (if (bt x0 x4) ≥ 65 then (if (bt x0 x4) ≤ 90 then (if x3.length < 140737488355328 then (turnstileref08_small.l0 k x0 (x3 ++ [((bt x0 x4) + 32) % 256]) (wrap64 (x4 + 1))) else (none)) else (if x3.length < 140737488355328 then (turnstileref08_small.l0 k x0 (x3 ++ [bt x0 x4]) (wrap64 (x4 + 1))) else (none))) else (if x3.length < 140737488355328 then (turnstileref08_small.l0 k x0 (x3 ++ [bt x0 x4]) (wrap64 (x4 + 1))) else (none))) else (none)) else (some (strOfNums x3))
def turnstileref08_small.f (k : Nat) (a0 : ByteArray) : Option (ByteArray) := turnstileref08_small.l0 k a0 ([] : List Int) 0
theorem turnstileref08_small.mono_l : ∀ k, (∀ y0 y1 y2, LeO (turnstileref08_small.l0 k y0 y1 y2) (turnstileref08_small.l0 (k + 1) y0 y1 y2))
  | 0 => fun _ _ _ r h => by simp [turnstileref08_small.l0] at h
  | k + 1 => by
    have ih0 := turnstileref08_small.mono_l k
    · intro y0 y1 y2
      unfold turnstileref08_small.l0
      repeat' first
      | (with_reducible exact ih0 _ _ _)
      | (with_reducible exact LeO.refl _)
      | (with_reducible exact LeO.none _)
      | (with_reducible refine LeO.ite ?_ ?_)
      | (with_reducible refine LeO.bind ?_ (fun _ => ?_))
      | exact ih0 _ _ _
      | exact LeO.none _
      | refine LeO.ite ?_ ?_
      | refine LeO.bind ?_ (fun _ => ?_)
theorem turnstileref08_small.mono : ∀ a0 k, LeO (turnstileref08_small.f k a0) (turnstileref08_small.f (k + 1) a0) := by
  intro a0 k
  have ih0 := turnstileref08_small.mono_l k
  unfold turnstileref08_small.f
  repeat' first
      | (with_reducible exact ih0 _ _ _)
      | (with_reducible exact LeO.refl _)
      | (with_reducible exact LeO.none _)
      | (with_reducible refine LeO.ite ?_ ?_)
      | (with_reducible refine LeO.bind ?_ (fun _ => ?_))
      | exact ih0 _ _ _
      | exact LeO.none _
      | refine LeO.ite ?_ ?_
      | refine LeO.bind ?_ (fun _ => ?_)
set_option maxHeartbeats 8000000 in
set_option maxRecDepth 100000 in
theorem turnstileref08_small.calls (k : Nat) (a0 : ByteArray) (r : ByteArray) (w : World) (h : turnstileref08_small.f k a0 = some r) :
    Calls Tryd.prog 36 #[.string a0] w fun e w' => e = .returned (.string r) ∧ Below w.heap.size w w' := by
  have HB := Aside0.mk (Below.refl w.heap.size w)
  have H : (turnstileref08_small.l0 k a0 ([] : List Int) 0) = some r := h
  clear h
  have H' := Aside0.mk H
  clear H
  go_enter Tryd.func36, Tryd.ntmps36
  go_wp2
  go_loopg [3, 4] k (fun kq v3 v4 w' => ∃ (x3_1 : List Int) (x4_1 : Int), v4 = .int .i64 x4_1 ∧ Aside0 (turnstileref08_small.l0 kq a0 x3_1 x4_1 = some r) ∧ Aside0 (kq ≤ k) ∧ Aside0 (Kd.R (Kd.int .u8) 5 w' w.heap.size (fun _ => True) v3 x3_1) ∧ Aside0 (Below w.heap.size w w'))
  case atStart => exact ⟨(([] : List Int)), (0), (by first | rfl | (simp; done) | (simp [*]; done)), H', ⟨Nat.le_refl _⟩, ⟨by first | exact Kd.R_nil _ _ _ _ _ | exact Kd.N_nil _ _ _ _ _ | exact Kd.V_nil _ _ _ _ _ | exact Kd.Q_nil _ _ _ _ _ | exact Kd.S_nil _ _ _ _ _⟩, ⟨by repeat (first | (with_reducible first | exact HB.out | apply below_alloc | apply pw_below_drewN | apply below_drew1) | exact HB.out)⟩⟩
  case round =>
    clear H'
    obtain ⟨x3_1, x4_1, rfl, HA, HK1, HO_3, HB⟩ := hrel
    cases gk with
    | zero => exact absurd HA.out (by simp [turnstileref08_small.l0])
    | succ k1 =>
      have H := HA.out
      clear HA
      simp only [turnstileref08_small.l0] at H
      by_cases c2 : x4_1 < (a0.size : Int)
      · rw [if_pos c2] at H
        have c2b0 : decide (x4_1 < (a0.size : Int)) = true := decide_eq_true c2
        clear c2
        by_cases c3 : 0 ≤ x4_1
        · rw [if_pos c3] at H
          have c3b0 : decide (0 ≤ x4_1) = true := decide_eq_true c3
          clear c3
          by_cases c5 : (bt a0 x4_1) ≥ 65
          · rw [if_pos c5] at H
            have c5b0 : decide (65 ≤ (bt a0 x4_1)) = true := decide_eq_true c5
            clear c5
            by_cases c6 : (bt a0 x4_1) ≤ 90
            · rw [if_pos c6] at H
              have c6b0 : decide ((bt a0 x4_1) ≤ 90) = true := decide_eq_true c6
              clear c6
              by_cases c7 : x3_1.length < 140737488355328
              · rw [if_pos c7] at H
                have LMc7 := Aside0.mk c7
                clear c7
                obtain ⟨y108, hy108⟩ : ∃ y_ : List Int, y_ = (x3_1 ++ [((bt a0 x4_1) + 32) % 256]) := ⟨_, rfl⟩
                replace H : (turnstileref08_small.l0 k1 a0 y108 (wrap64 (x4_1 + 1))) = some r := by first | (rw [hy108]; with_reducible exact H) | (have H2_ := (Option.bind_some _ _).symm.trans H; rw [hy108]; with_reducible exact H2_) | (have H2_ := (Option.bind_some _ _).symm.trans H; with_reducible exact H2_) | with_reducible exact H | (rw [hy108]; exact H) | exact H
                have Ny108 := Aside0.mk hy108
                clear hy108
                have H' := Aside0.mk H
                clear H
                have p4 : 0 ≤ (x4_1 : Int) := of_decide_eq_true (by first | (with_reducible assumption) | assumption)
                have q4 : x4_1 < (a0.size : Int) := of_decide_eq_true (by first | (with_reducible assumption) | assumption)
                have hx4 := bt_at a0 x4_1
                replace p4 := eq_true p4
                replace q4 := eq_true q4
                go_wp2_with (first | ((with_reducible refine gate_builtin (b := .append) (xs := #[.tmp 23, .tmp 25]) rfl ?_); at_builtin; refine Kd.R_append (Kd.int .u8) (w0 := w) w.heap.size rfl (.tmp 23) (.tmp 25) 64 5 (.int .u8 0) 1 rfl Tryd.underlying64 info5 rfl (by decide) (by omega) u3 x3_1 (((bt a0 x4_1) + 32) % 256) [.int .u8 (((bt a0 x4_1) + 32) % 256)] (fun _ => True) (fun _ => False) rfl rfl ?aP (fun _ hk => hk.elim) ?aF ?aO ?aB ?aS ?aL ?_; (case aP => exact rfl); (case aB => exact (by repeat (first | (with_reducible first | exact HB.out | apply below_alloc | apply pw_below_drewN | apply below_drew1) | exact HB.out))); (case aF => exact (fun _ _ => trivial)); (case aO => exact (by (with_reducible repeat (first | apply Kd.R_alloc | apply Kd.R_drewN | apply Kd.R_drew)); exact HO_3.out)); (case aS => exact (below_size (by repeat (first | (with_reducible first | exact HB.out | apply below_alloc | apply pw_below_drewN | apply below_drew1) | exact HB.out)))); (case aL => have := LMc7.out; omega); intro v109 w8 ho hb hg hat; rw [← Ny108.out] at ho; have n0_ := Aside0.mk (hb); have n1_ := Aside0.mk (ho); clear HB; clear HO_3; have HB := n0_; have HO110 := n1_; clear n0_ n1_; clear ho hb hg hat))
                go_roundg k1
                case measure => have := HK1.out; omega
                case rel => exact ⟨(y108), (wrap64 (x4_1 + 1)), (by first | rfl | (simp; done) | (simp [*]; done)), H', ⟨by have := HK1.out; omega⟩, ⟨by (with_reducible repeat (first | apply Kd.R_alloc | apply Kd.R_drewN | apply Kd.R_drew)); exact HO110.out⟩, ⟨by repeat (first | (with_reducible first | exact HB.out | apply below_alloc | apply pw_below_drewN | apply below_drew1) | exact HB.out)⟩⟩
              · rw [if_neg c7] at H
                exact absurd H (by simp)
            · rw [if_neg c6] at H
              have c6b0 : decide ((bt a0 x4_1) ≤ 90) = false := decide_eq_false c6
              clear c6
              by_cases c9 : x3_1.length < 140737488355328
              · rw [if_pos c9] at H
                have LMc9 := Aside0.mk c9
                clear c9
                obtain ⟨y111, hy111⟩ : ∃ y_ : List Int, y_ = (x3_1 ++ [bt a0 x4_1]) := ⟨_, rfl⟩
                replace H : (turnstileref08_small.l0 k1 a0 y111 (wrap64 (x4_1 + 1))) = some r := by first | (rw [hy111]; with_reducible exact H) | (have H2_ := (Option.bind_some _ _).symm.trans H; rw [hy111]; with_reducible exact H2_) | (have H2_ := (Option.bind_some _ _).symm.trans H; with_reducible exact H2_) | with_reducible exact H | (rw [hy111]; exact H) | exact H
                have Ny111 := Aside0.mk hy111
                clear hy111
                have H' := Aside0.mk H
                clear H
                have p4 : 0 ≤ (x4_1 : Int) := of_decide_eq_true (by first | (with_reducible assumption) | assumption)
                have q4 : x4_1 < (a0.size : Int) := of_decide_eq_true (by first | (with_reducible assumption) | assumption)
                have hx4 := bt_at a0 x4_1
                replace p4 := eq_true p4
                replace q4 := eq_true q4
                go_wp2_with (first | ((with_reducible refine gate_builtin (b := .append) (xs := #[.tmp 23, .tmp 25]) rfl ?_); at_builtin; refine Kd.R_append (Kd.int .u8) (w0 := w) w.heap.size rfl (.tmp 23) (.tmp 25) 64 5 (.int .u8 0) 1 rfl Tryd.underlying64 info5 rfl (by decide) (by omega) u3 x3_1 (bt a0 x4_1) [.int .u8 (bt a0 x4_1)] (fun _ => True) (fun _ => False) rfl rfl ?aP (fun _ hk => hk.elim) ?aF ?aO ?aB ?aS ?aL ?_; (case aP => exact rfl); (case aB => exact (by repeat (first | (with_reducible first | exact HB.out | apply below_alloc | apply pw_below_drewN | apply below_drew1) | exact HB.out))); (case aF => exact (fun _ _ => trivial)); (case aO => exact (by (with_reducible repeat (first | apply Kd.R_alloc | apply Kd.R_drewN | apply Kd.R_drew)); exact HO_3.out)); (case aS => exact (below_size (by repeat (first | (with_reducible first | exact HB.out | apply below_alloc | apply pw_below_drewN | apply below_drew1) | exact HB.out)))); (case aL => have := LMc9.out; omega); intro v112 w10 ho hb hg hat; rw [← Ny111.out] at ho; have n0_ := Aside0.mk (hb); have n1_ := Aside0.mk (ho); clear HB; clear HO_3; have HB := n0_; have HO113 := n1_; clear n0_ n1_; clear ho hb hg hat))
                go_roundg k1
                case measure => have := HK1.out; omega
                case rel => exact ⟨(y111), (wrap64 (x4_1 + 1)), (by first | rfl | (simp; done) | (simp [*]; done)), H', ⟨by have := HK1.out; omega⟩, ⟨by (with_reducible repeat (first | apply Kd.R_alloc | apply Kd.R_drewN | apply Kd.R_drew)); exact HO113.out⟩, ⟨by repeat (first | (with_reducible first | exact HB.out | apply below_alloc | apply pw_below_drewN | apply below_drew1) | exact HB.out)⟩⟩
              · rw [if_neg c9] at H
                exact absurd H (by simp)
          · rw [if_neg c5] at H
            have c5b0 : decide (65 ≤ (bt a0 x4_1)) = false := decide_eq_false c5
            clear c5
            by_cases c11 : x3_1.length < 140737488355328
            · rw [if_pos c11] at H
              have LMc11 := Aside0.mk c11
              clear c11
              obtain ⟨y114, hy114⟩ : ∃ y_ : List Int, y_ = (x3_1 ++ [bt a0 x4_1]) := ⟨_, rfl⟩
              replace H : (turnstileref08_small.l0 k1 a0 y114 (wrap64 (x4_1 + 1))) = some r := by first | (rw [hy114]; with_reducible exact H) | (have H2_ := (Option.bind_some _ _).symm.trans H; rw [hy114]; with_reducible exact H2_) | (have H2_ := (Option.bind_some _ _).symm.trans H; with_reducible exact H2_) | with_reducible exact H | (rw [hy114]; exact H) | exact H
              have Ny114 := Aside0.mk hy114
              clear hy114
              have H' := Aside0.mk H
              clear H
              have p4 : 0 ≤ (x4_1 : Int) := of_decide_eq_true (by first | (with_reducible assumption) | assumption)
              have q4 : x4_1 < (a0.size : Int) := of_decide_eq_true (by first | (with_reducible assumption) | assumption)
              have hx4 := bt_at a0 x4_1
              replace p4 := eq_true p4
              replace q4 := eq_true q4
              go_wp2_with (first | ((with_reducible refine gate_builtin (b := .append) (xs := #[.tmp 23, .tmp 25]) rfl ?_); at_builtin; refine Kd.R_append (Kd.int .u8) (w0 := w) w.heap.size rfl (.tmp 23) (.tmp 25) 64 5 (.int .u8 0) 1 rfl Tryd.underlying64 info5 rfl (by decide) (by omega) u3 x3_1 (bt a0 x4_1) [.int .u8 (bt a0 x4_1)] (fun _ => True) (fun _ => False) rfl rfl ?aP (fun _ hk => hk.elim) ?aF ?aO ?aB ?aS ?aL ?_; (case aP => exact rfl); (case aB => exact (by repeat (first | (with_reducible first | exact HB.out | apply below_alloc | apply pw_below_drewN | apply below_drew1) | exact HB.out))); (case aF => exact (fun _ _ => trivial)); (case aO => exact (by (with_reducible repeat (first | apply Kd.R_alloc | apply Kd.R_drewN | apply Kd.R_drew)); exact HO_3.out)); (case aS => exact (below_size (by repeat (first | (with_reducible first | exact HB.out | apply below_alloc | apply pw_below_drewN | apply below_drew1) | exact HB.out)))); (case aL => have := LMc11.out; omega); intro v115 w12 ho hb hg hat; rw [← Ny114.out] at ho; have n0_ := Aside0.mk (hb); have n1_ := Aside0.mk (ho); clear HB; clear HO_3; have HB := n0_; have HO116 := n1_; clear n0_ n1_; clear ho hb hg hat))
              go_roundg k1
              case measure => have := HK1.out; omega
              case rel => exact ⟨(y114), (wrap64 (x4_1 + 1)), (by first | rfl | (simp; done) | (simp [*]; done)), H', ⟨by have := HK1.out; omega⟩, ⟨by (with_reducible repeat (first | apply Kd.R_alloc | apply Kd.R_drewN | apply Kd.R_drew)); exact HO116.out⟩, ⟨by repeat (first | (with_reducible first | exact HB.out | apply below_alloc | apply pw_below_drewN | apply below_drew1) | exact HB.out)⟩⟩
            · rw [if_neg c11] at H
              exact absurd H (by simp)
        · rw [if_neg c3] at H
          exact absurd H (by simp)
      · rw [if_neg c2] at H
        have c2b0 : decide (x4_1 < (a0.size : Int)) = false := decide_eq_false c2
        clear c2
        obtain rfl := Option.some.inj H
        have hcv13 := own_string (P := Tryd.prog) Tryd.underlying64 Tryd.underlying5 Tryd.underlying9 (Kd.own_of_R HO_3.out)
        go_wp2
        go_ret
        exact ⟨by first | rfl | (simp [errW_none, errW_some] <;> rfl) | (simp [*, errW_none, errW_some] <;> rfl), by repeat (first | (with_reducible first | exact HB.out | apply below_alloc | apply pw_below_drewN | apply below_drew1) | exact HB.out)⟩

end Go.Proofs.YthobmfnmenbkeaaDoor.XA
end
/- What the reference's printed functions of this layer come to, in the plain words of a target: lists of bytes alone. -/
section
set_option linter.unusedVariables false
set_option linter.unusedSimpArgs false
namespace Go.Proofs.YthobmfnmenbkeaaDoor.Pl
open Go.RowKit Go.Proofs.YthobmfnmenbkeaaDoor Go.Proofs.YthobmfnmenbkeaaDoor.Tg Go.Proofs.YthobmfnmenbkeaaDoor.Gv Go.Proofs.YthobmfnmenbkeaaDoor.XA Go.Proofs.YthobmfnmenbkeaaDoorW.PrintWords

theorem w64 {i : Int} (h0 : -9223372036854775808 ≤ i) (h1 : i < 9223372036854775808) : wrap64 i = i := by unfold wrap64; omega
theorem w64s {i n : Nat} (h : i < n) (hn : n ≤ 140737488355328) : wrap64 ((i : Int) + 1) = ((i + 1 : Nat) : Int) := by rw [w64 (by omega) (by omega)]; omega
theorem bt_nat (s : ByteArray) (i : Nat) (h : i < s.size) : bt s (i : Int) = (s[i].toNat : Int) := by simp [bt, h]
theorem ext_txt (s : ByteArray) (a b : Nat) : s.extract a b = txt ((s.data.toList.take b).drop a) := by
  rw [← extract_list]
theorem txt_self (q : ByteArray) : txt q.data.toList = q := by cases q; simp [txt]
theorem cut_hit (c : UInt8) (r : List UInt8) : cutAt c (c :: r) = ([], r, true) := by simp [cutAt]
theorem u8_eq {a b : UInt8} : ((a.toNat : Int) = (b.toNat : Int)) ↔ a = b := ⟨fun h => UInt8.toNat_inj.1 (by omega), fun h => by rw [h]⟩
theorem Ev.one {α : Type} {g : Nat → Option α} {r : α} (h : ∀ k, g (k + 1) = some r) : Ev g r := ⟨1, fun n hn => by obtain ⟨m, rfl⟩ : ∃ m, n = m + 1 := ⟨n - 1, by omega⟩; exact h m⟩
theorem Ev.all {α : Type} {g : Nat → Option α} {r : α} (h : ∀ k, g k = some r) : Ev g r := ⟨0, fun n _ => h n⟩

theorem cut_loop (s : ByteArray) (c : UInt8) (hs : s.size ≤ 140737488355328) : ∀ (d i : Nat), s.size - i = d → i ≤ s.size →
    Ev (fun k => turnstileref08_cut.l0 k s c.toNat i) (txt (s.data.toList.take i ++ (cutAt c (s.data.toList.drop i)).1), txt (cutAt c (s.data.toList.drop i)).2.1, (cutAt c (s.data.toList.drop i)).2.2)
  | 0, i, hd, hi => by
    obtain rfl : i = s.size := by omega
    refine Ev.one fun k => ?_
    simp only [turnstileref08_cut.l0]
    rw [if_neg (by omega), List.drop_of_length_le (by simp), List.take_of_length_le (by simp)]
    simp only [cutAt, List.append_nil, txt_self]
    first | rfl | done
  | d + 1, i, hd, hi => by
    have hlt : i < s.size := by omega
    rw [drop_at s i hlt]
    by_cases hc : s[i] = c
    · subst hc
      refine Ev.one fun k => ?_
      simp only [turnstileref08_cut.l0]
      rw [if_pos (by omega), if_pos (by omega), bt_nat s i hlt, if_pos rfl, if_pos (by omega), w64s hlt hs, if_pos (by omega), if_pos (by omega)]
      rw [cut_hit, Int.toNat_natCast, Int.toNat_natCast, ext_txt s 0 i, ext_txt s (i + 1) s.size, List.drop_zero, List.append_nil, show s.data.toList.take s.size = s.data.toList from List.take_of_length_le (by simp)]
    · refine Ev.step (f := fun k => turnstileref08_cut.l0 k s c.toNat ((i + 1 : Nat) : Int)) (fun k => ?_) ?_
      · simp only [turnstileref08_cut.l0]
        rw [if_pos (by omega), if_pos (by omega), bt_nat s i hlt, if_neg (fun h => hc (u8_eq.1 h)), w64s hlt hs]
      · have := cut_loop s c hs d (i + 1) (by omega) (by omega)
        rw [cutAt, if_neg hc]
        rw [take_snoc s i hlt] at this
        simpa using this
theorem cut_ev (s : ByteArray) (c : UInt8) (hs : s.size ≤ 140737488355328) : Ev (fun k => turnstileref08_cut.f k s c.toNat) (txt (cutAt c s.data.toList).1, txt (cutAt c s.data.toList).2.1, (cutAt c s.data.toList).2.2) := by
  have := cut_loop s c hs s.size 0 (by omega) (by omega)
  simpa [turnstileref08_cut.f] using this

/-- a row of numbers of bytes -/
def ns (l : List UInt8) : List Int := l.map fun c => (c.toNat : Int)
theorem ns_txt (l : List UInt8) : strOfNums (ns l) = txt l := by
  unfold strOfNums ns txt
  rw [List.map_map]
  congr 1
  congr 1
  conv => rhs; rw [← List.map_id l]
  exact List.map_congr_left fun c _ => by simp
theorem low_num : ∀ c : UInt8, 65 ≤ (c.toNat : Int) → (c.toNat : Int) ≤ 90 → ((c.toNat : Int) + 32) % 256 = ((low c).toNat : Int) := all_bytes _ (by decide +kernel)
theorem low_not : ∀ c : UInt8, ¬ (65 ≤ (c.toNat : Int) ∧ (c.toNat : Int) ≤ 90) → low c = c := all_bytes _ (by decide +kernel)
theorem small_loop (s : ByteArray) (hs : s.size ≤ 140737488355000) : ∀ (d i : Nat), s.size - i = d → i ≤ s.size →
    Ev (fun k => turnstileref08_small.l0 k s (ns (lower (s.data.toList.take i))) i) (txt (lower s.data.toList))
  | 0, i, hd, hi => by
    obtain rfl : i = s.size := by omega
    refine Ev.one fun k => ?_
    simp only [turnstileref08_small.l0]
    rw [if_neg (by omega), List.take_of_length_le (by simp), ns_txt]
  | d + 1, i, hd, hi => by
    have hlt : i < s.size := by omega
    have hlen : (ns (lower (s.data.toList.take i))).length < 140737488355328 := by simp [ns, lower]; omega
    have e : ns (lower (s.data.toList.take i)) ++ [((low s[i]).toNat : Int)] = ns (lower (s.data.toList.take (i + 1))) := by
      rw [take_snoc s i hlt]; simp [ns, lower]
    refine Ev.step (f := fun k => turnstileref08_small.l0 k s (ns (lower (s.data.toList.take (i + 1)))) ((i + 1 : Nat) : Int)) (fun k => ?_) (small_loop s hs d (i + 1) (by omega) (by omega))
    rw [← e]
    simp only [turnstileref08_small.l0]
    rw [if_pos (by omega), if_pos (by omega), bt_nat s i hlt]
    by_cases h1 : 65 ≤ (s[i].toNat : Int)
    · rw [if_pos h1]
      by_cases h2 : (s[i].toNat : Int) ≤ 90
      · rw [if_pos h2, if_pos hlen, w64s hlt (by omega), low_num _ h1 h2]
      · rw [if_neg h2, if_pos hlen, w64s hlt (by omega), low_not _ (by omega)]
    · rw [if_neg h1, if_pos hlen, w64s hlt (by omega), low_not _ (by omega)]
theorem small_ev (s : ByteArray) (hs : s.size ≤ 140737488355000) : Ev (fun k => turnstileref08_small.f k s) (txt (lower s.data.toList)) := by
  have := small_loop s hs s.size 0 (by omega) (by omega)
  simpa [turnstileref08_small.f, ns, lower] using this

/-- a target's parts and an error's number, as the printed functions tell them -/
def tup (r : Int × T) : Int × ByteArray × ByteArray × ByteArray × Bool × Int := (r.2.form, txt r.2.host, txt r.2.path, txt r.2.query, r.2.has, r.1)
theorem txt_nil : txt [] = (⟨#[]⟩ : ByteArray) := rfl
theorem toList_txt (l : List UInt8) : (txt l).toList = l := by rw [ByteArray.toList_eq, txt_data]

theorem behind_j1 (form : Int) (host p q : List UInt8) (b : Bool) (hp : p.length ≤ 140737488355328) (hq : q.length ≤ 140737488355328) (x2 x3 : ByteArray) (x4 : Bool) :
    Ev (fun k => turnstileref08_behind.j1 k (txt p) (txt q) b form (txt host) x2 x3 x4) (tup (if isPath p && isQuery q then (0, ⟨form, host, p, q, b⟩) else (23, zeroT))) := by
  refine Ev.one fun k => ?_
  simp only [turnstileref08_behind.j1, rPath.f, rQuery.f, txt_data]
  rw [if_pos (by rw [txt_size]; exact hp), if_pos (by rw [txt_size]; exact hq)]
  cases isPath p <;> cases isQuery q <;> rfl
theorem behind_ev (form : Int) (host rest : List UInt8) (hr : rest.length ≤ 140737488355000) :
    Ev (fun k => turnstileref08_behind.f k form (txt host) ⟨#[]⟩ ⟨#[]⟩ false (txt rest)) (tup (behind form host rest)) := by
  have hc := cutAt_len 63 rest
  have h1 := cut_ev (txt rest) 63 (by rw [txt_size]; omega)
  rw [txt_data] at h1
  refine Ev.bind (g := fun k => turnstileref08_cut.f k (txt rest) 63) (f := fun k bt103 => (if bt103.1.toList = ([] : List UInt8) then (turnstileref08_behind.j0 k bt103.1 bt103.2.1 bt103.2.2 (form == 2) form (txt host) ⟨#[]⟩ ⟨#[]⟩ false) else (turnstileref08_behind.j0 k bt103.1 bt103.2.1 bt103.2.2 false form (txt host) ⟨#[]⟩ ⟨#[]⟩ false))) h1 ?_
  simp only [toList_txt]
  unfold behind
  by_cases hn : (cutAt 63 rest).1 = []
  · simp only [hn, if_true, true_and]
    refine Ev.step (f := fun k => turnstileref08_behind.j1 k (txt (if form = 2 then [47] else [])) (txt (cutAt 63 rest).2.1) (cutAt 63 rest).2.2 form (txt host) ⟨#[]⟩ ⟨#[]⟩ false) (fun k => ?_) (behind_j1 _ _ _ _ _ (by split <;> simp) (by omega) _ _ _)
    simp only [turnstileref08_behind.j0, beq_iff_eq]
    by_cases hf : form = 2
    · rw [if_pos hf, if_pos hf]
    · rw [if_neg hf, if_neg hf]
  · simp only [hn, if_false, false_and]
    refine Ev.step (f := fun k => turnstileref08_behind.j1 k (txt (cutAt 63 rest).1) (txt (cutAt 63 rest).2.1) (cutAt 63 rest).2.2 form (txt host) ⟨#[]⟩ ⟨#[]⟩ false) (fun k => ?_) (behind_j1 _ _ _ _ _ (by omega) (by omega) _ _ _)
    simp only [turnstileref08_behind.j0]
    rfl
end Go.Proofs.YthobmfnmenbkeaaDoor.Pl
end
/- The reference's way of reading a target comes to 'parse', the program's. Plain; and the contracts of the reference's printed functions in these words. -/
section
set_option linter.unusedVariables false
set_option linter.unusedSimpArgs false
namespace Go.Proofs.YthobmfnmenbkeaaDoor.Pl
open Go.RowKit Go.Proofs.YthobmfnmenbkeaaDoor Go.Proofs.YthobmfnmenbkeaaDoor.Tg Go.Proofs.YthobmfnmenbkeaaDoor.Gv Go.Proofs.YthobmfnmenbkeaaDoor.XA Go.Proofs.YthobmfnmenbkeaaDoorW.PrintWords

/-- how many bytes at the head may stand in a host -/
def hostLen : List UInt8 → Nat
  | [] => 0
  | x :: r => if hostB x then hostLen r + 1 else 0
theorem hostLen_le : ∀ l : List UInt8, hostLen l ≤ l.length
  | [] => Nat.le_refl _
  | x :: r => by have := hostLen_le r; unfold hostLen; split <;> simp <;> omega
def rparse (l : List UInt8) : Int × T :=
  if 65536 < l.length then (2, zeroT)
  else if l = [42] then (0, ⟨3, [], [], [], false⟩)
  else if l.head? = some 47 then behind 1 [] l
  else if isHttp l then (if hostLen (l.drop 7) < 1 ∨ 255 < hostLen (l.drop 7) then (23, zeroT) else behind 2 (lower ((l.drop 7).take (hostLen (l.drop 7)))) ((l.drop 7).drop (hostLen (l.drop 7))))
  else (23, zeroT)

theorem host_stop : ∀ c : UInt8, hostB c = true → Tg.stop c = false := all_bytes _ (by decide +kernel)
theorem behind_off {form : Int} {host rest : List UInt8} {x : UInt8} (h1 : x ≠ 47) (h2 : x ≠ 63 ∨ form = 1) : behind form host (x :: rest) = (23, zeroT) := by
  apply behind_bad
  refine .inl ?_
  unfold pathOf cutAt
  by_cases h : x = 63
  · rw [if_pos h]
    have hf : form = 1 := by
      rcases h2 with h2 | h2
      · exact absurd h h2
      · exact h2
    rw [if_neg (by omega)]; rfl
  · rw [if_neg h]
    rw [if_neg (by simp)]
    simp [isPath, h1]
theorem behind_none (form : Int) (hf : form = 1) (host : List UInt8) : behind form host [] = (23, zeroT) := by
  subst hf
  exact behind_bad (.inl (by decide))
/-- a host, and what stands behind it, by two readings -/
theorem host_cases : ∀ l : List UInt8, (hostOf l = l.take (hostLen l) ∧ afterHost l = l.drop (hostLen l) ∧ (l.take (hostLen l)).all hostB = true) ∨ ((hostOf l).all hostB = false ∧ ∃ x r, l.drop (hostLen l) = x :: r ∧ x ≠ 47 ∧ x ≠ 63)
  | [] => .inl ⟨rfl, rfl, rfl⟩
  | x :: r => by
    unfold hostLen hostOf afterHost
    rw [List.takeWhile_cons, List.dropWhile_cons]
    cases hx : hostB x with
    | true =>
      have hs := host_stop x hx
      rw [hs]
      simp only [Bool.not_false, if_true]
      rcases host_cases r with ⟨h1, h2, h3⟩ | ⟨h1, y, t, h2, h3, h4⟩
      · exact .inl ⟨by unfold hostOf at h1; rw [h1]; rfl, by unfold afterHost at h2; rw [h2]; rfl, by simp [hx, h3]⟩
      · exact .inr ⟨by unfold hostOf at h1; simp [h1], y, t, by simpa using h2, h3, h4⟩
    | false =>
      simp only [Bool.false_eq_true, if_false]
      cases hs : Tg.stop x with
      | true => exact .inl ⟨by simp, by simp, by simp⟩
      | false =>
        refine .inr ⟨by simp [hx], x, r, by simp, ?_, ?_⟩
        · rintro rfl; exact absurd hs (by decide)
        · rintro rfl; exact absurd hs (by decide)
theorem isHost_of {l : List UInt8} (h : l.all hostB = true) : isHost l = (decide (1 ≤ l.length) && decide (l.length ≤ 255)) := by unfold isHost; rw [h]; rfl
theorem rparse_eq (l : List UInt8) : rparse l = parse l := by
  unfold rparse parse
  by_cases h1 : 65536 < l.length
  · rw [if_pos h1, if_pos h1]
  rw [if_neg h1, if_neg h1]
  by_cases h2 : l = [42]
  · rw [if_pos h2, if_pos h2]
  rw [if_neg h2, if_neg h2]
  by_cases h3 : l.head? = some 47
  · rw [if_pos h3]
    have : isHttp l = false := by
      obtain ⟨r, rfl⟩ : ∃ r, l = 47 :: r := by
        cases l with
        | nil => simp at h3
        | cons x r => simp at h3; subst h3; exact ⟨r, rfl⟩
      unfold isHttp lower http
      simp [low]
    rw [this]; rfl
  · rw [if_neg h3]
    cases h4 : isHttp l with
    | false =>
      simp only [Bool.false_eq_true, if_false]
      cases l with
      | nil => exact (behind_none 1 rfl []).symm
      | cons x r => exact (behind_off (by simpa using h3) (.inr rfl)).symm
    | true =>
      simp only [if_true]
      have hl := hostLen_le (l.drop 7)
      rcases host_cases (l.drop 7) with ⟨e1, e2, e3⟩ | ⟨e1, x, r, e2, e3, e4⟩
      · rw [e1, e2, isHost_of e3, List.length_take, Nat.min_eq_left hl]
        by_cases hn : hostLen (l.drop 7) < 1 ∨ 255 < hostLen (l.drop 7)
        · rw [if_pos hn]
          have : (decide (1 ≤ hostLen (l.drop 7)) && decide (hostLen (l.drop 7) ≤ 255)) = false := by simp; omega
          rw [this]; rfl
        · rw [if_neg hn]
          have : (decide (1 ≤ hostLen (l.drop 7)) && decide (hostLen (l.drop 7) ≤ 255)) = true := by simp; omega
          rw [this]; rfl
      · have : isHost (hostOf (l.drop 7)) = false := by unfold isHost; rw [e1]; rfl
        rw [this, e2]
        simp only [Bool.false_eq_true, if_false]
        rw [behind_off e3 (.inl e4)]
        split <;> rfl

theorem host_or : ∀ c : UInt8, hostB c = (alnum c || has c [45, 46, 95, 58]) := all_bytes _ (by decide +kernel)
theorem int_byte (c : UInt8) : (0 : Int) ≤ (c.toNat : Int) ∧ (c.toNat : Int) < 256 := by have := c.toNat_lt; omega
theorem back_byte (c : UInt8) : UInt8.ofNat ((c.toNat : Int)).toNat = c := by simp

/-- a target's parts and an error's number -/
def rtupV (r : Int × T) : Value := .tuple #[tgtV r.2, .int .i64 r.1]
theorem rsmall_calls (s : ByteArray) (w : World) (hs : s.size ≤ 65536) : Calls Tryd.prog 36 #[.string s] w fun e w' => e = .returned (.string (txt (lower s.data.toList))) ∧ Below w.heap.size w w' := by
  obtain ⟨k, hk⟩ := (small_ev s (by omega)).rounds
  exact turnstileref08_small.calls k s _ w hk
theorem rbehind_calls (form : Int) (host : List UInt8) (s : ByteArray) (w : World) (hs : s.size ≤ 65536) : Calls Tryd.prog 35 #[.agg #[.int .i64 form, .string (txt host), .string ⟨#[]⟩, .string ⟨#[]⟩, .bool false], .string s] w fun e w' => e = .returned (rtupV (behind form host s.data.toList)) ∧ Below w.heap.size w w' := by
  obtain ⟨k, hk⟩ := (behind_ev form host s.data.toList (by rw [len]; omega)).rounds
  rw [txt_self] at hk
  exact turnstileref08_behind.calls k _ _ _ _ _ _ _ _ _ _ _ _ w hk
end Go.Proofs.YthobmfnmenbkeaaDoor.Pl
end
/- The reference's Parse, walked. -/
section
set_option linter.unusedVariables false
set_option linter.unusedSimpArgs false
namespace Go.Proofs.YthobmfnmenbkeaaDoor
open Go.RowKit Tg Pl

/-- the result's block -/
def resB (t : T) : Obj := .cells #[.int .i64 t.form, .string (txt t.host), .string (txt t.path), .string (txt t.query), .bool t.has] 28
def RP (s : ByteArray) (w : World) (e : Ending) (w' : World) : Prop := e = .returned (rtupV (rparse s.data.toList)) ∧ Below w.heap.size w w'

set_option maxRecDepth 100000 in
set_option maxHeartbeats 4000000 in
theorem rparse_long (s : ByteArray) (w : World) (h : 65536 < s.size) : Calls Tryd.prog 11 #[.string s] w (RP s w) := by
  have HP := Lib.hid (show rparse s.data.toList = (2, zeroT) by unfold rparse; rw [if_pos (by rw [len]; exact h)])
  go_enter Tryd.func11, Tryd.ntmps11
  go_wp2_with fail
  refine bodyPost_ret (v := rtupV (2, zeroT)) (by simp [results, Tryd.results11, go_sem, rtupV, tgtV, zeroT, txt]) rfl ⟨ret_tuple (by rw [HP.out]), ?_⟩
  have hbz := Below.refl w.heap.size w
  repeat (first | (with_reducible exact Below.refl _ _) | (with_reducible exact hbz) | (with_reducible refine Below.setCell ?_ (by simp) _) | (with_reducible refine bel_drewN ?_ _) | (with_reducible refine Below.alloc ?_ (by simp) _))
set_option maxRecDepth 100000 in
set_option maxHeartbeats 4000000 in
theorem rparse_star (s : ByteArray) (w : World) (h : s.data.toList = [42]) : Calls Tryd.prog 11 #[.string s] w (RP s w) := by
  have e1 := str_is h
  have hs : s.size = 1 := by rw [← len, h]; rfl
  have HP := Lib.hid (show rparse s.data.toList = (0, ⟨3, [], [], [], false⟩) by unfold rparse; rw [h]; rfl)
  have hs1 : s.size ≤ 1 := by omega
  clear hs h
  go_enter Tryd.func11, Tryd.ntmps11
  go_wp2_with fail
  refine bodyPost_ret (v := rtupV (0, ⟨3, [], [], [], false⟩)) (by simp [results, Tryd.results11, go_sem, rtupV, tgtV, zeroT, txt]) rfl ⟨ret_tuple (by rw [HP.out]), ?_⟩
  have hbz := Below.refl w.heap.size w
  repeat (first | (with_reducible exact Below.refl _ _) | (with_reducible exact hbz) | (with_reducible refine Below.setCell ?_ (by simp) _) | (with_reducible refine bel_drewN ?_ _) | (with_reducible refine Below.alloc ?_ (by simp) _))
theorem cell_of {w : World} {b : Nat} {c : Array Value} {t : TypeId} (h : w.heap[b]? = some (.cells c t (0, 0))) (j : Nat) : w.cell? ⟨b, j, none⟩ = c[j]? ∧ w.frozen? ⟨b, j, none⟩ = false := cells_at w b c t h j
theorem res_cells {w w1 : World} (hb : Below (w.alloc (.cells #[.int .i64 0, .string ⟨#[]⟩, .string ⟨#[]⟩, .string ⟨#[]⟩, .bool false] 28)).heap.size (w.alloc (.cells #[.int .i64 0, .string ⟨#[]⟩, .string ⟨#[]⟩, .string ⟨#[]⟩, .bool false] 28)) w1) :
    w1.cell? ⟨w.heap.size, 0, none⟩ = some (.int .i64 0) ∧ w1.cell? ⟨w.heap.size, 1, none⟩ = some (.string ⟨#[]⟩) ∧ w1.cell? ⟨w.heap.size, 2, none⟩ = some (.string ⟨#[]⟩) ∧ w1.cell? ⟨w.heap.size, 3, none⟩ = some (.string ⟨#[]⟩) ∧ w1.cell? ⟨w.heap.size, 4, none⟩ = some (.bool false) ∧ (∀ o, w1.frozen? ⟨w.heap.size, o, none⟩ = false) ∧ w.heap.size < w1.heap.size := by
  have hk : w1.heap[w.heap.size]? = some (.cells #[.int .i64 0, .string ⟨#[]⟩, .string ⟨#[]⟩, .string ⟨#[]⟩, .bool false] 28 (0, 0)) :=
    (hb.block w.heap.size (by simp)).trans (by
      show (w.heap.push _)[w.heap.size]? = _
      rw [Array.getElem?_push, if_pos rfl])
  exact ⟨(cell_of hk 0).1, (cell_of hk 1).1, (cell_of hk 2).1, (cell_of hk 3).1, (cell_of hk 4).1, fun o => (cell_of hk o).2, (Array.getElem?_eq_some_iff.1 hk).1⟩
theorem rtupV_eq (r : Int × T) : rtupV r = .tuple #[.agg #[.int .i64 r.2.form, .string (txt r.2.host), .string (txt r.2.path), .string (txt r.2.query), .bool r.2.has], .int .i64 r.1] := rfl
theorem first_is {s : ByteArray} {x : UInt8} (h : s.data.toList.head? = some x) : ∃ p : 0 < s.size, s[0]'p = x := by
  have h0 : 0 < s.size := by
    rw [← len]
    cases hl : s.data.toList with
    | nil => rw [hl] at h; simp at h
    | cons _ _ => simp
  refine ⟨h0, ?_⟩
  have e := drop_at s 0 h0
  rw [List.drop_zero] at e
  rw [e] at h
  simpa using h
set_option maxRecDepth 100000 in
set_option maxHeartbeats 4000000 in
theorem rparse_origin (s : ByteArray) (w : World) (hl : s.size ≤ 65536) (h2 : ¬ s.data.toList = [42]) (h3 : s.data.toList.head? = some 47) : Calls Tryd.prog 11 #[.string s] w (RP s w) := by
  have HP := Lib.hid (show rparse s.data.toList = behind 1 [] s.data.toList by unfold rparse; rw [if_neg (by rw [len]; omega), if_neg h2, if_pos h3])
  have e2 := str_not h2
  obtain ⟨h0, hx⟩ := first_is h3
  have hb : ((s[0].toNat : Int) == 47) = true := by rw [hx]; rfl
  have he := nonempty_of h0
  have he2 := ne_of_nonempty he
  clear h2 h3 hx
  go_enter Tryd.func11, Tryd.ntmps11
  go_wp2_with fail
  refine (rbehind_calls 1 [] s _ hl).mono ?_
  generalize behind 1 [] s.data.toList = r at *
  rw [rtupV_eq]
  rintro e w1 ⟨rfl, hb1⟩
  have hbw := (below_new w (.cells #[.int .i64 0, .string ⟨#[]⟩, .string ⟨#[]⟩, .string ⟨#[]⟩, .bool false] 28)).trans ⟨hb1.os, hb1.tape, hb1.output, hb1.size, fun i hi => hb1.block i (by simp; omega)⟩
  obtain ⟨hR0, hR1, hR2, hR3, hR4, hRf, hz⟩ := res_cells hb1
  clear hb1
  go_wp2_with fail
  refine bodyPost_ret (v := rtupV r) ?h1 rfl ⟨ret_tuple (by rw [HP.out]), ?h3⟩
  case h1 => simp [results, Tryd.results11, go_sem, rtupV, tgtV, zeroT, txt, hR0, hR1, hR2, hR3, hR4, hRf]
  case h3 =>
    repeat (first | (with_reducible exact Below.refl _ _) | (with_reducible exact hbw) | (with_reducible refine Below.setCell ?_ (by simp) _) | (with_reducible refine bel_drewN ?_ _) | (with_reducible refine Below.alloc ?_ (by simp) _))

/-- not the first two, and not begun by a slash: what the walk is told of the text -/
theorem plain_facts (s : ByteArray) (h3 : ¬ s.data.toList.head? = some 47) : (s.toList.isEmpty = true ∧ s.toList = [] ∧ s.size = 0) ∨ (s.toList.isEmpty = false ∧ ¬ s.toList = [] ∧ ∃ h : 0 < s.size, (((s[0]'h).toNat : Int) == 47) = false) := by
  by_cases h0 : 0 < s.size
  · refine .inr ⟨nonempty_of h0, ne_of_nonempty (nonempty_of h0), h0, byte_bne (b := 47) ?_⟩
    intro e
    apply h3
    have e2 := drop_at s 0 h0
    rw [List.drop_zero] at e2
    rw [e2, e]; rfl
  · exact .inl ⟨empty_of h0, nil_of_empty (empty_of h0), by omega⟩
theorem rparse_plain {s : ByteArray} (hl : s.size ≤ 65536) (h2 : ¬ s.data.toList = [42]) (h3 : ¬ s.data.toList.head? = some 47) : rparse s.data.toList = (if isHttp s.data.toList then (if hostLen (s.data.toList.drop 7) < 1 ∨ 255 < hostLen (s.data.toList.drop 7) then (23, zeroT) else behind 2 (lower ((s.data.toList.drop 7).take (hostLen (s.data.toList.drop 7)))) ((s.data.toList.drop 7).drop (hostLen (s.data.toList.drop 7)))) else (23, zeroT)) := by
  unfold rparse
  rw [if_neg (by rw [len]; omega), if_neg h2, if_neg h3]
set_option maxRecDepth 100000 in
set_option maxHeartbeats 4000000 in
theorem rparse_short (s : ByteArray) (w : World) (hl : s.size < 7) (h2 : ¬ s.data.toList = [42]) (h3 : ¬ s.data.toList.head? = some 47) : Calls Tryd.prog 11 #[.string s] w (RP s w) := by
  have HP := Lib.hid (show rparse s.data.toList = (23, zeroT) by
    rw [rparse_plain (by omega) h2 h3]
    have : isHttp s.data.toList = false := by unfold isHttp; rw [len, decide_eq_false (by omega)]; rfl
    rw [this]; rfl)
  have e2 := str_not h2
  rcases plain_facts s h3 with ⟨f1, f2, f3⟩ | ⟨f1, f2, f3, f4⟩
  all_goals
    clear h2 h3
    go_enter Tryd.func11, Tryd.ntmps11
    go_wp2_with fail
    refine bodyPost_ret (v := rtupV (23, zeroT)) (by simp [results, Tryd.results11, go_sem, rtupV, tgtV, zeroT, txt]) rfl ⟨ret_tuple (by rw [HP.out]), ?_⟩
    have hbz := Below.refl w.heap.size w
    repeat (first | (with_reducible exact hbz) | (with_reducible refine Below.setCell ?_ (by simp) _) | (with_reducible refine bel_drewN ?_ _) | (with_reducible refine Below.alloc ?_ (by simp) _))
set_option maxRecDepth 100000 in
set_option maxHeartbeats 4000000 in
theorem rparse_not (s : ByteArray) (w : World) (hl : s.size ≤ 65536) (h7 : 7 ≤ s.size) (h2 : ¬ s.data.toList = [42]) (h3 : ¬ s.data.toList.head? = some 47) (hh : ¬ lower (s.data.toList.take 7) = http) : Calls Tryd.prog 11 #[.string s] w (RP s w) := by
  have HP := Lib.hid (show rparse s.data.toList = (23, zeroT) by
    rw [rparse_plain hl h2 h3]
    have : isHttp s.data.toList = false := by
      unfold isHttp
      rw [show (lower (s.data.toList.take 7) == http) = false by simpa using hh, Bool.and_false]
    rw [this]; rfl)
  have e2 := str_not h2
  have hx7 : (s.extract 0 7).size = 7 := by simp; omega
  have HX := Lib.hid (show lower (s.extract 0 7).data.toList = lower (s.data.toList.take 7) by rw [extract_list]; simp)
  have hne : ((txt (lower (s.data.toList.take 7))).toList == [104, 116, 116, 112, 58, 47, 47]) = false := str_not (by rw [txt_data]; exact hh)
  have hnl : (lower (s.data.toList.take 7) == [104, 116, 116, 112, 58, 47, 47]) = false := by rw [beq_eq_false_iff_ne]; exact hh
  rcases plain_facts s h3 with ⟨f1, f2, f3⟩ | ⟨f1, f2, f3, f4⟩
  · omega
  · clear h2 h3 hh
    go_enter Tryd.func11, Tryd.ntmps11
    go_wp2_with fail
    refine (rsmall_calls _ _ (by omega)).mono ?_
    rw [HX.out]
    rintro e w1 ⟨rfl, hb1⟩
    have hbw := (below_new w (.cells #[.int .i64 0, .string ⟨#[]⟩, .string ⟨#[]⟩, .string ⟨#[]⟩, .bool false] 28)).trans ⟨hb1.os, hb1.tape, hb1.output, hb1.size, fun i hi => hb1.block i (by simp; omega)⟩
    obtain ⟨hR0, hR1, hR2, hR3, hR4, hRf, hz⟩ := res_cells hb1
    clear hb1
    go_wp2_with fail
    refine bodyPost_ret (v := rtupV (23, zeroT)) (by simp [results, Tryd.results11, go_sem, rtupV, tgtV, zeroT, txt, hR0, hR1, hR2, hR3, hR4, hRf]) rfl ⟨ret_tuple (by rw [HP.out]), ?_⟩
    repeat (first | (with_reducible exact hbw) | (with_reducible refine Below.setCell ?_ (by simp) _) | (with_reducible refine bel_drewN ?_ _) | (with_reducible refine Below.alloc ?_ (by simp) _))
theorem hostLen_all : ∀ (l : List UInt8) (k : Nat), k + hostLen (l.drop k) = hostLen l → k < l.length → ∀ c, l[k]? = some c → hostB c = true → k + 1 + hostLen (l.drop (k + 1)) = hostLen l := by
  intro l k h hk c hc hb
  rw [List.drop_eq_getElem_cons hk] at h
  rw [List.getElem?_eq_getElem hk] at hc
  rw [Option.some.inj hc, hostLen, if_pos hb] at h
  omega
set_option maxRecDepth 100000 in
set_option maxHeartbeats 8000000 in
theorem rparse_http (s : ByteArray) (w : World) (hl : s.size ≤ 65536) (h7 : 7 ≤ s.size) (h2 : ¬ s.data.toList = [42]) (h3 : ¬ s.data.toList.head? = some 47) (hh : lower (s.data.toList.take 7) = http) : Calls Tryd.prog 11 #[.string s] w (RP s w) := by
  have hxd : (s.extract 7 s.size).data.toList = s.data.toList.drop 7 := Lib.extract_to_end s 7
  have HP := Lib.hid (show rparse s.data.toList = (if hostLen (s.extract 7 s.size).data.toList < 1 ∨ 255 < hostLen (s.extract 7 s.size).data.toList then (23, zeroT) else behind 2 (lower ((s.extract 7 s.size).data.toList.take (hostLen (s.extract 7 s.size).data.toList))) ((s.extract 7 s.size).data.toList.drop (hostLen (s.extract 7 s.size).data.toList))) by
    rw [rparse_plain hl h2 h3, hxd]
    have : isHttp s.data.toList = true := by
      unfold isHttp
      rw [show (lower (s.data.toList.take 7) == http) = true by simpa using hh, len, decide_eq_true h7]; rfl
    rw [this]; rfl)
  have e2 := str_not h2
  have hx7 : (s.extract 0 7).size = 7 := by simp; omega
  have HX := Lib.hid (show lower (s.extract 0 7).data.toList = lower (s.data.toList.take 7) by rw [extract_list]; simp)
  have hne : ((txt (lower (s.data.toList.take 7))).toList == [104, 116, 116, 112, 58, 47, 47]) = true := str_is (by rw [txt_data]; exact hh)
  have hnl : (lower (s.data.toList.take 7) == [104, 116, 116, 112, 58, 47, 47]) = true := by rw [beq_iff_eq]; exact hh
  have hxs : (s.extract 7 s.size).size ≤ 65536 := by simp; omega
  rcases plain_facts s h3 with ⟨f1, f2, f3⟩ | ⟨f1, f2, f3, f4⟩
  · omega
  · clear h2 h3 hh hxd
    go_enter Tryd.func11, Tryd.ntmps11
    go_wp2_with fail
    refine (rsmall_calls _ _ (by omega)).mono ?_
    rw [HX.out]
    rintro e w1 ⟨rfl, hb1⟩
    have hbw := (below_new w (.cells #[.int .i64 0, .string ⟨#[]⟩, .string ⟨#[]⟩, .string ⟨#[]⟩, .bool false] 28)).trans ⟨hb1.os, hb1.tape, hb1.output, hb1.size, fun i hi => hb1.block i (by simp; omega)⟩
    have HRC := Lib.hid (res_cells hb1)
    have HB1 := Lib.hid hb1
    clear hb1
    go_wp2_with fail
    generalize s.extract 7 s.size = X at *
    have hhl := hostLen_le X.data.toList
    rw [len] at hhl
    go_loop [4] (fun i => ∃ k : Nat, k ≤ X.size ∧ i = .int .i64 k ∧ k + hostLen (X.data.toList.drop k) = hostLen X.data.toList) (fun i => X.size - (intOf i).toNat)
    case atStart => exact ⟨0, Nat.zero_le _, rfl, by simp⟩
    case round =>
      obtain ⟨k, hk, rfl, hkl⟩ := hrel
      have HKL := Lib.hid hkl
      clear hkl
      by_cases hlt : k < X.size
      · have hcat : X.data.toList[k]? = some X[k] := by rw [List.getElem?_eq_getElem (by simpa using hlt)]; rfl
        have HC := Lib.hid hcat
        have hor := host_or X[k]
        clear hcat
        cases hb : hostB X[k] with
        | true =>
          have HA := Lib.hid (hostLen_all _ _ HKL.out (by rw [len]; exact hlt) _ HC.out hb)
          rw [hb] at hor
          have HOR := Lib.hid hor
          clear hor hb
          go_wp2_with fail
          refine (rletter_calls' _ _).mono ?_
          rintro e w' ⟨rfl, rfl⟩
          cases ha : alnum X[k] with
          | true =>
            go_wp2_with fail
            go_round
            case rel => exact ⟨k + 1, by omega, by go_num, HA.out⟩
            case measure => simp [intOf]; omega
          | false =>
            have hh2 : has X[k] [45, 46, 95, 58] = true := by have := HOR.out; rw [ha] at this; simpa using this.symm
            go_wp2_with fail
            refine (among_calls _ _ _ (by decide)).mono ?_
            rintro e w' ⟨rfl, rfl⟩
            go_wp2_with fail
            go_round
            case rel => exact ⟨k + 1, by omega, by go_num, HA.out⟩
            case measure => simp [intOf]; omega
        | false =>
          rw [hb] at hor
          have ha : alnum X[k] = false := by cases h : alnum X[k] with
            | true => rw [h] at hor; simp at hor
            | false => rfl
          have hh2 : has X[k] [45, 46, 95, 58] = false := by rw [ha] at hor; simpa using hor.symm
          have HE := Lib.hid (show hostLen X.data.toList = k by
            have := HKL.out
            rw [drop_at X k hlt, hostLen, if_neg (by rw [hb]; decide)] at this; omega)
          clear hor hb HC
          obtain ⟨hR0, hR1, hR2, hR3, hR4, hRf, hz⟩ := HRC.out
          by_cases hA : k < 1
          · have HPK := Lib.hid (show rparse s.data.toList = (23, zeroT) by rw [HP.out, HE.out, if_pos (.inl hA)])
            go_wp2_with fail
            refine (rletter_calls' _ _).mono ?_
            rw [ha]
            rintro e w' ⟨rfl, rfl⟩
            go_wp2_with fail
            refine (among_calls _ _ _ (by decide)).mono ?_
            rw [show ({ data := #[45, 46, 95, 58] } : ByteArray).data.toList = [45, 46, 95, 58] from rfl, hh2]
            rintro e w' ⟨rfl, rfl⟩
            go_wp2_with fail
            refine bodyPost_ret (v := rtupV (23, zeroT)) (by simp [results, Tryd.results11, go_sem, rtupV, tgtV, zeroT, txt, hR0, hR1, hR2, hR3, hR4, hRf]) rfl ⟨ret_tuple (by rw [HPK.out]), ?_⟩
            repeat (first | (with_reducible exact hbw) | (with_reducible refine Below.setCell ?_ (by simp) _) | (with_reducible refine bel_drewN ?_ _) | (with_reducible refine Below.alloc ?_ (by simp) _))
          · by_cases hB : 255 < k
            · have HPK := Lib.hid (show rparse s.data.toList = (23, zeroT) by rw [HP.out, HE.out, if_pos (.inr hB)])
              go_wp2_with fail
              refine (rletter_calls' _ _).mono ?_
              rw [ha]
              rintro e w' ⟨rfl, rfl⟩
              go_wp2_with fail
              refine (among_calls _ _ _ (by decide)).mono ?_
              rw [show ({ data := #[45, 46, 95, 58] } : ByteArray).data.toList = [45, 46, 95, 58] from rfl, hh2]
              rintro e w' ⟨rfl, rfl⟩
              go_wp2_with fail
              refine bodyPost_ret (v := rtupV (23, zeroT)) (by simp [results, Tryd.results11, go_sem, rtupV, tgtV, zeroT, txt, hR0, hR1, hR2, hR3, hR4, hRf]) rfl ⟨ret_tuple (by rw [HPK.out]), ?_⟩
              repeat (first | (with_reducible exact hbw) | (with_reducible refine Below.setCell ?_ (by simp) _) | (with_reducible refine bel_drewN ?_ _) | (with_reducible refine Below.alloc ?_ (by simp) _))
            · have HPK := Lib.hid (show rparse s.data.toList = behind 2 (lower (X.data.toList.take k)) (X.data.toList.drop k) by rw [HP.out, HE.out, if_neg (by omega)])
              have HX0 := Lib.hid (show lower (X.extract 0 k).data.toList = lower (X.data.toList.take k) by rw [extract_list]; simp)
              have HX1 := Lib.hid (show (X.extract k X.size).data.toList = X.data.toList.drop k from Lib.extract_to_end X k)
              have hs0 : (X.extract 0 k).size ≤ 65536 := by simp; omega
              have hs1 : (X.extract k X.size).size ≤ 65536 := by simp; omega
              go_wp2_with fail
              refine (rletter_calls' _ _).mono ?_
              rw [ha]
              rintro e w' ⟨rfl, rfl⟩
              go_wp2_with fail
              refine (among_calls _ _ _ (by decide)).mono ?_
              rw [show ({ data := #[45, 46, 95, 58] } : ByteArray).data.toList = [45, 46, 95, 58] from rfl, hh2]
              rintro e w' ⟨rfl, rfl⟩
              go_wp2_with fail
              refine wp_region_any (by kernel_rfl) ?_
              change wpAny _ _ _ _ _ _ _ (World.drew _)
              refine wpAny_take (i := 0) (v := ?v0a) rfl (by kernel_rfl) (by kernel_rfl) (by kernel_rfl) (fun _ _ _ h => h) (Or.inl ⟨by rfl, ?hy0a⟩) ?rest0a
              case hy0a => intro w; go_simp; (try with_reducible rfl); (try (first | rw [if_pos (by omega)] | rw [if_neg (by omega)])); (try go_simp); (try with_reducible rfl)
              refine wpAny_take (i := 1) (v := ?v1a) rfl (by kernel_rfl) (by kernel_rfl) (by kernel_rfl) (fun _ _ _ h => h) (Or.inl ⟨by rfl, ?hy1a⟩) ?rest1a
              case hy1a => intro w; go_simp; (try with_reducible rfl); (try (first | rw [if_pos (by omega)] | rw [if_neg (by omega)])); (try go_simp); (try with_reducible rfl)
              refine wpAny_take (i := 2) (v := ?v2a) rfl (by kernel_rfl) (by kernel_rfl) (by kernel_rfl) (fun _ _ _ h => h) (Or.inl ⟨by rfl, ?hy2a⟩) ?rest2a
              case hy2a => intro w; go_simp; (try with_reducible rfl); (try (first | rw [if_pos (by omega)] | rw [if_neg (by omega)])); (try go_simp); (try with_reducible rfl)
              refine wpAny_take (i := 5) (v := ?v5a) rfl (by kernel_rfl) (by kernel_rfl) (by kernel_rfl) (fun _ _ _ h => h) (Or.inl ⟨by rfl, ?hy5a⟩) ?rest5a
              case hy5a => intro w; go_simp; (try with_reducible rfl); (try (first | rw [if_pos (by omega)] | rw [if_neg (by omega)])); (try go_simp); (try with_reducible rfl)
              refine wpAny_take (i := 6) (v := ?v6a) rfl (by kernel_rfl) (by kernel_rfl) (by kernel_rfl) (fun _ _ _ h => h) (Or.inl ⟨by rfl, ?hy6a⟩) ?rest6a
              case hy6a => intro w; go_simp; (try with_reducible rfl); (try (first | rw [if_pos (by omega)] | rw [if_neg (by omega)])); (try go_simp); (try with_reducible rfl)
              refine wpAny_take (i := 7) (v := ?v7a) rfl (by kernel_rfl) (by kernel_rfl) (by kernel_rfl) (fun _ _ _ h => h) (Or.inl ⟨by rfl, ?hy7a⟩) ?rest7a
              case hy7a => intro w; go_simp; (try with_reducible rfl); (try (first | rw [if_pos (by omega)] | rw [if_neg (by omega)])); (try go_simp); (try with_reducible rfl)
              refine wpAny_ready (rs := [3]) (by kernel_rfl) (by simp) ?_
              refine AllReady.cons rfl (fun K hK => ?_) AllReady.nil
              go_simp
              refine (rsmall_calls _ _ hs0).mono ?_
              rw [HX0.out]
              rintro e w3 ⟨rfl, hb3⟩
              go_simp
              refine hK _ _ ?_
              clear hK K
              refine wpAny_take (i := 4) (v := ?v4a) rfl (by kernel_rfl) (by kernel_rfl) (by kernel_rfl) (fun _ _ _ h => h) (Or.inl ⟨by rfl, ?hy4a⟩) ?rest4a
              case hy4a => intro w; go_simp; (try with_reducible rfl); (try (first | rw [if_pos (by omega)] | rw [if_neg (by omega)])); (try go_simp); (try with_reducible rfl)
              refine wpAny_ready (rs := [8]) (by kernel_rfl) (by simp) ?_
              refine AllReady.cons rfl (fun K hK => ?_) AllReady.nil
              go_simp
              refine (rbehind_calls 2 (lower (X.data.toList.take k)) _ _ hs1).mono ?_
              rw [HX1.out]
              generalize behind 2 (lower (X.data.toList.take k)) (X.data.toList.drop k) = r at *
              rw [rtupV_eq]
              rintro e w4 ⟨rfl, hb4⟩
              go_simp
              refine hK _ _ ?_
              clear hK K
              refine wpAny_take (i := 9) (v := ?v9a) rfl (by kernel_rfl) (by kernel_rfl) (by kernel_rfl) (fun _ _ _ h => h) (Or.inl ⟨by rfl, ?hy9a⟩) ?rest9a
              case hy9a => intro w; go_simp; (try with_reducible rfl)
              refine wpAny_take (i := 10) (v := ?v10a) rfl (by kernel_rfl) (by kernel_rfl) (by kernel_rfl) (fun _ _ _ h => h) (Or.inl ⟨by rfl, ?hy10a⟩) ?rest10a
              case hy10a => intro w; go_simp; (try with_reducible rfl)
              refine wpAny_tail (k := 11) (by kernel_rfl) (by kernel_rfl) ?_
              simp only [List.drop_succ_cons, List.drop_zero]
              clear hR0 hR1 hR2 hR3 hR4 hRf hz HRC
              have hbz1 := Below.trans2 (bel_drewN HB1.out 1) (bel_drewN HB1.out 1).size hb3
              have hbz2 := Below.trans2 hbz1 hbz1.size hb4
              obtain ⟨hR0, hR1, hR2, hR3, hR4, hRf, hz⟩ := res_cells hbz2
              have hbw4 := (below_new w (.cells #[.int .i64 0, .string ⟨#[]⟩, .string ⟨#[]⟩, .string ⟨#[]⟩, .bool false] 28)).trans ⟨hbz2.os, hbz2.tape, hbz2.output, hbz2.size, fun i hi => hbz2.block i (by simp; omega)⟩
              clear hbz1 hbz2 hb3 hb4 HB1
              go_wp2_with fail
              refine bodyPost_ret (v := rtupV r) (by simp [results, Tryd.results11, go_sem, rtupV, tgtV, zeroT, txt, hR0, hR1, hR2, hR3, hR4, hRf]) rfl ⟨ret_tuple (by rw [HPK.out]), ?_⟩
              repeat (first | (with_reducible exact hbw4) | (with_reducible refine Below.setCell ?_ (by simp) _) | (with_reducible refine bel_drewN ?_ _) | (with_reducible refine Below.alloc ?_ (by simp) _))
      · have HE := Lib.hid (show hostLen X.data.toList = k by
          have := HKL.out
          rw [List.drop_of_length_le (by rw [len]; omega)] at this
          exact this.symm)
        obtain ⟨hR0, hR1, hR2, hR3, hR4, hRf, hz⟩ := HRC.out
        by_cases hA : k < 1
        · have HPK := Lib.hid (show rparse s.data.toList = (23, zeroT) by rw [HP.out, HE.out, if_pos (.inl hA)])
          go_wp2_with fail
          refine bodyPost_ret (v := rtupV (23, zeroT)) (by simp [results, Tryd.results11, go_sem, rtupV, tgtV, zeroT, txt, hR0, hR1, hR2, hR3, hR4, hRf]) rfl ⟨ret_tuple (by rw [HPK.out]), ?_⟩
          repeat (first | (with_reducible exact hbw) | (with_reducible refine Below.setCell ?_ (by simp) _) | (with_reducible refine bel_drewN ?_ _) | (with_reducible refine Below.alloc ?_ (by simp) _))
        · by_cases hB : 255 < k
          · have HPK := Lib.hid (show rparse s.data.toList = (23, zeroT) by rw [HP.out, HE.out, if_pos (.inr hB)])
            go_wp2_with fail
            refine bodyPost_ret (v := rtupV (23, zeroT)) (by simp [results, Tryd.results11, go_sem, rtupV, tgtV, zeroT, txt, hR0, hR1, hR2, hR3, hR4, hRf]) rfl ⟨ret_tuple (by rw [HPK.out]), ?_⟩
            repeat (first | (with_reducible exact hbw) | (with_reducible refine Below.setCell ?_ (by simp) _) | (with_reducible refine bel_drewN ?_ _) | (with_reducible refine Below.alloc ?_ (by simp) _))
          · have HPK := Lib.hid (show rparse s.data.toList = behind 2 (lower (X.data.toList.take k)) (X.data.toList.drop k) by rw [HP.out, HE.out, if_neg (by omega)])
            have HX0 := Lib.hid (show lower (X.extract 0 k).data.toList = lower (X.data.toList.take k) by rw [extract_list]; simp)
            have HX1 := Lib.hid (show (X.extract k X.size).data.toList = X.data.toList.drop k from Lib.extract_to_end X k)
            have hs0 : (X.extract 0 k).size ≤ 65536 := by simp; omega
            have hs1 : (X.extract k X.size).size ≤ 65536 := by simp; omega
            go_wp2_with fail
            refine wp_region_any (by kernel_rfl) ?_
            change wpAny _ _ _ _ _ _ _ (World.drew _)
            refine wpAny_take (i := 0) (v := ?v0b) rfl (by kernel_rfl) (by kernel_rfl) (by kernel_rfl) (fun _ _ _ h => h) (Or.inl ⟨by rfl, ?hy0b⟩) ?rest0b
            case hy0b => intro w; go_simp; (try with_reducible rfl); (try (first | rw [if_pos (by omega)] | rw [if_neg (by omega)])); (try go_simp); (try with_reducible rfl)
            refine wpAny_take (i := 1) (v := ?v1b) rfl (by kernel_rfl) (by kernel_rfl) (by kernel_rfl) (fun _ _ _ h => h) (Or.inl ⟨by rfl, ?hy1b⟩) ?rest1b
            case hy1b => intro w; go_simp; (try with_reducible rfl); (try (first | rw [if_pos (by omega)] | rw [if_neg (by omega)])); (try go_simp); (try with_reducible rfl)
            refine wpAny_take (i := 2) (v := ?v2b) rfl (by kernel_rfl) (by kernel_rfl) (by kernel_rfl) (fun _ _ _ h => h) (Or.inl ⟨by rfl, ?hy2b⟩) ?rest2b
            case hy2b => intro w; go_simp; (try with_reducible rfl); (try (first | rw [if_pos (by omega)] | rw [if_neg (by omega)])); (try go_simp); (try with_reducible rfl)
            refine wpAny_take (i := 5) (v := ?v5b) rfl (by kernel_rfl) (by kernel_rfl) (by kernel_rfl) (fun _ _ _ h => h) (Or.inl ⟨by rfl, ?hy5b⟩) ?rest5b
            case hy5b => intro w; go_simp; (try with_reducible rfl); (try (first | rw [if_pos (by omega)] | rw [if_neg (by omega)])); (try go_simp); (try with_reducible rfl)
            refine wpAny_take (i := 6) (v := ?v6b) rfl (by kernel_rfl) (by kernel_rfl) (by kernel_rfl) (fun _ _ _ h => h) (Or.inl ⟨by rfl, ?hy6b⟩) ?rest6b
            case hy6b => intro w; go_simp; (try with_reducible rfl); (try (first | rw [if_pos (by omega)] | rw [if_neg (by omega)])); (try go_simp); (try with_reducible rfl)
            refine wpAny_take (i := 7) (v := ?v7b) rfl (by kernel_rfl) (by kernel_rfl) (by kernel_rfl) (fun _ _ _ h => h) (Or.inl ⟨by rfl, ?hy7b⟩) ?rest7b
            case hy7b => intro w; go_simp; (try with_reducible rfl); (try (first | rw [if_pos (by omega)] | rw [if_neg (by omega)])); (try go_simp); (try with_reducible rfl)
            refine wpAny_ready (rs := [3]) (by kernel_rfl) (by simp) ?_
            refine AllReady.cons rfl (fun K hK => ?_) AllReady.nil
            go_simp
            refine (rsmall_calls _ _ hs0).mono ?_
            rw [HX0.out]
            rintro e w3 ⟨rfl, hb3⟩
            go_simp
            refine hK _ _ ?_
            clear hK K
            refine wpAny_take (i := 4) (v := ?v4b) rfl (by kernel_rfl) (by kernel_rfl) (by kernel_rfl) (fun _ _ _ h => h) (Or.inl ⟨by rfl, ?hy4b⟩) ?rest4b
            case hy4b => intro w; go_simp; (try with_reducible rfl); (try (first | rw [if_pos (by omega)] | rw [if_neg (by omega)])); (try go_simp); (try with_reducible rfl)
            refine wpAny_ready (rs := [8]) (by kernel_rfl) (by simp) ?_
            refine AllReady.cons rfl (fun K hK => ?_) AllReady.nil
            go_simp
            refine (rbehind_calls 2 (lower (X.data.toList.take k)) _ _ hs1).mono ?_
            rw [HX1.out]
            generalize behind 2 (lower (X.data.toList.take k)) (X.data.toList.drop k) = r at *
            rw [rtupV_eq]
            rintro e w4 ⟨rfl, hb4⟩
            go_simp
            refine hK _ _ ?_
            clear hK K
            refine wpAny_take (i := 9) (v := ?v9b) rfl (by kernel_rfl) (by kernel_rfl) (by kernel_rfl) (fun _ _ _ h => h) (Or.inl ⟨by rfl, ?hy9b⟩) ?rest9b
            case hy9b => intro w; go_simp; (try with_reducible rfl)
            refine wpAny_take (i := 10) (v := ?v10b) rfl (by kernel_rfl) (by kernel_rfl) (by kernel_rfl) (fun _ _ _ h => h) (Or.inl ⟨by rfl, ?hy10b⟩) ?rest10b
            case hy10b => intro w; go_simp; (try with_reducible rfl)
            refine wpAny_tail (k := 11) (by kernel_rfl) (by kernel_rfl) ?_
            simp only [List.drop_succ_cons, List.drop_zero]
            clear hR0 hR1 hR2 hR3 hR4 hRf hz HRC
            have hbz1 := Below.trans2 (bel_drewN HB1.out 1) (bel_drewN HB1.out 1).size hb3
            have hbz2 := Below.trans2 hbz1 hbz1.size hb4
            obtain ⟨hR0, hR1, hR2, hR3, hR4, hRf, hz⟩ := res_cells hbz2
            have hbw4 := (below_new w (.cells #[.int .i64 0, .string ⟨#[]⟩, .string ⟨#[]⟩, .string ⟨#[]⟩, .bool false] 28)).trans ⟨hbz2.os, hbz2.tape, hbz2.output, hbz2.size, fun i hi => hbz2.block i (by simp; omega)⟩
            clear hbz1 hbz2 hb3 hb4 HB1
            go_wp2_with fail
            refine bodyPost_ret (v := rtupV r) (by simp [results, Tryd.results11, go_sem, rtupV, tgtV, zeroT, txt, hR0, hR1, hR2, hR3, hR4, hRf]) rfl ⟨ret_tuple (by rw [HPK.out]), ?_⟩
            repeat (first | (with_reducible exact hbw4) | (with_reducible refine Below.setCell ?_ (by simp) _) | (with_reducible refine bel_drewN ?_ _) | (with_reducible refine Below.alloc ?_ (by simp) _))

/-- the reference's Parse, at every text -/
theorem rparse_calls (s : ByteArray) (w : World) : Calls Tryd.prog 11 #[.string s] w fun e w' => e = .returned (rtupV (parse s.data.toList)) ∧ Below w.heap.size w w' := by
  rw [← rparse_eq]
  by_cases hl : 65536 < s.size
  · exact rparse_long s w hl
  by_cases h2 : s.data.toList = [42]
  · exact rparse_star s w h2
  by_cases h3 : s.data.toList.head? = some 47
  · exact rparse_origin s w (by omega) h2 h3
  by_cases h7 : s.size < 7
  · exact rparse_short s w h7 h2 h3
  by_cases hh : lower (s.data.toList.take 7) = http
  · exact rparse_http s w (by omega) (by omega) h2 h3 hh
  · exact rparse_not s w (by omega) (by omega) h2 h3 hh
end Go.Proofs.YthobmfnmenbkeaaDoor
end
/- The contract of the reference's Parse, in the form in which the printed functions ask for it. -/
section
set_option linter.unusedVariables false
namespace Go.Proofs.YthobmfnmenbkeaaDoor.Gv
open Go.RowKit Go.Proofs.YthobmfnmenbkeaaDoor Go.Proofs.YthobmfnmenbkeaaDoor.Tg Go.Proofs.YthobmfnmenbkeaaDoorW.PrintWords

def rParse.f (a0 : ByteArray) : Option (Int × ByteArray × ByteArray × ByteArray × Bool × Int) := some (Pl.tup (parse a0.data.toList))
theorem rParse.calls (a0 : ByteArray) (r1 : Int) (r2 r3 r4 : ByteArray) (r5 : Bool) (r6 : Int) (w : World) (h : rParse.f a0 = some (r1, r2, r3, r4, r5, r6)) :
    Calls Tryd.prog 11 #[.string a0] w fun e w' => e = .returned (.tuple #[.agg #[.int .i64 r1, .string r2, .string r3, .string r4, .bool r5], .int .i64 r6]) ∧ Below w.heap.size w w' := by
  simp only [rParse.f, Pl.tup, Option.some.injEq, Prod.mk.injEq] at h
  obtain ⟨rfl, rfl, rfl, rfl, rfl, rfl⟩ := h
  exact rparse_calls a0 w
end Go.Proofs.YthobmfnmenbkeaaDoor.Gv
end
/- Go functions of this seat as Lean functions, and their contracts, written by our program xprint.py over the kit's printer. -/
section
namespace Go.Proofs.YthobmfnmenbkeaaDoor.XC
open Go.Proofs.YthobmfnmenbkeaaDoor.Gv
open Go.RowKit Go.Proofs.YthobmfnmenbkeaaDoorW.PrintWords Go.Proofs.YthobmfnmenbkeaaDoorW.PrintLast Go.Proofs.YthobmfnmenbkeaaDoorW.PrintMore
attribute [local go_sem] max2_int min2_int max_two min_two max_three min_three max_four min_four   -- for this text's walks alone
set_option linter.unusedVariables false
set_option linter.unusedSimpArgs false




theorem info5 : (Tryd.prog.info? 5).map (fun i => (i.zero, i.size, i.bytes)) = some (some (.int .u8 0), 1, 1) := by kernel_rfl
theorem info83 : (Tryd.prog.info? 83).map (fun i => (i.zero, i.size, i.bytes)) = some (some (.agg #[(.string ⟨#[]⟩), (.string ⟨#[]⟩)]), 2, 32) := by kernel_rfl
-- the values' own types
/-! #### struct type 83 -/
structure S83 where
  f0 : ByteArray
  f1 : ByteArray
def z83 : S83 := ⟨(⟨#[]⟩ : ByteArray), (⟨#[]⟩ : ByteArray)⟩
def k83 : Kd S83 := Kd.iso (Kd.pair Kd.string Kd.string) (fun x : S83 => (x.f0, x.f1))
theorem k83_open {w : World} {x : S83} {cs : List Value} (h : k83.K w x cs) : cs = [.string x.f0, .string x.f1] := by
  obtain ⟨_, _, rfl, rfl, rfl⟩ := h
  exact rfl
theorem k83_openM {w : World} {base : Nat} {ok : Nat → Prop} {x : S83} {cs : List Value} (h : k83.M w base ok x cs) : cs = [.string x.f0, .string x.f1] := by
  obtain ⟨_, _, rfl, rfl, rfl⟩ := h
  exact rfl
theorem k83_mk (w : World) (x : S83)  : k83.K w x [.string x.f0, .string x.f1] := ⟨[.string x.f0], [.string x.f1], rfl, rfl, rfl⟩
theorem k83_mkM (w : World) (base : Nat) (ok : Nat → Prop) (x : S83)  : k83.M w base ok x [.string x.f0, .string x.f1] := ⟨[.string x.f0], [.string x.f1], rfl, rfl, rfl⟩
def rd_T83 (xs : List S83) (i : Int) : S83 := xs.getD i.toNat z83
theorem at_T83 {w : World} {A : Option Addr} {n : Nat} {xs : List S83} (h : Kd.C k83 w A n xs) (i : Int) (h0 : 0 ≤ i) (h1 : i < n) : ∃ ad , A = some ad ∧ w.cell? (ad.add (i.toNat * 2)) = some (.string (rd_T83 xs i).f0) ∧ w.cell? ⟨(ad.add (i.toNat * 2)).block, (ad.add (i.toNat * 2)).off + 1, none⟩ = some (.string (rd_T83 xs i).f1) := by
  obtain ⟨ad, c, e, _, hK, hc0⟩ := Kd.C_get h z83 i h0 h1
  have hc : ∀ j u, c[j]? = some u → w.cell? (ad.add (i.toNat * 2 + j)) = some u := hc0
  obtain rfl := k83_open hK
  exact ⟨ad, e, hc 0 _ rfl, by rw [← add_field _ _ 1 (by omega)]; exact hc 1 _ rfl⟩

end Go.Proofs.YthobmfnmenbkeaaDoor.XC
end
/- Go functions of this seat as Lean functions, and their contracts, written by our program xprint.py over the kit's printer. -/
section
namespace Go.Proofs.YthobmfnmenbkeaaDoor.XC
open Go.Proofs.YthobmfnmenbkeaaDoor.Gv
open Go.RowKit Go.Proofs.YthobmfnmenbkeaaDoorW.PrintWords Go.Proofs.YthobmfnmenbkeaaDoorW.PrintLast Go.Proofs.YthobmfnmenbkeaaDoorW.PrintMore
attribute [local go_sem] max2_int min2_int max_two min_two max_three min_three max_four min_four   -- for this text's walks alone
set_option linter.unusedVariables false
set_option linter.unusedSimpArgs false

theorem eqA83 (d : Nat) (w : World) (x0 y0 : ByteArray) (x1 y1 : ByteArray) :
    (Op.equalIn (d + 2) 83 (.agg #[.string x0, .string x1]) (.agg #[.string y0, .string y1])).run Tryd.prog w = .ok (x0.toList == y0.toList && (x1.toList == y1.toList)) w := by
  refine eqA_of Tryd.underlying83 (by kernel_rfl) ?_
  refine eqf_cons (by rfl) (by go_simp; rfl) (by go_simp; rfl) (by go_simp) ?_
  exact eqf_last (by rfl) (by go_simp; rfl) (by go_simp; rfl) (by go_simp)
end Go.Proofs.YthobmfnmenbkeaaDoor.XC
end
/- The contracts of Pairs, and of the reference's Decode and Encode, in the form in which the printed law of the codes asks for them. -/
section
set_option linter.unusedVariables false
namespace Go.Proofs.YthobmfnmenbkeaaDoor.Gv
open Go.RowKit Go.Proofs.YthobmfnmenbkeaaDoor Go.Proofs.YthobmfnmenbkeaaDoor.Tg Go.Proofs.YthobmfnmenbkeaaDoor.RF Go.Proofs.YthobmfnmenbkeaaDoor.XC Go.Proofs.YthobmfnmenbkeaaDoorW.PrintWords

theorem txt_self' (q : ByteArray) : txt q.data.toList = q := by cases q; simp [txt]
def rDecode.f (a0 : ByteArray) : Option (ByteArray × Int) := if a0.size ≤ 4294967280 then some (match decoded a0.data.toList with | some d => (txt d, 0) | none => (⟨#[]⟩, 23)) else none
theorem rDecode.calls (a0 : ByteArray) (r1 : ByteArray) (r2 : Int) (w : World) (h : rDecode.f a0 = some (r1, r2)) :
    Calls Tryd.prog 24 #[.string a0] w fun e w' => e = .returned (.tuple #[.string r1, .int .i64 r2]) ∧ Below w.heap.size w w' := by
  unfold rDecode.f at h
  split at h
  · refine (rdecode_calls a0 w ‹_›).mono fun e w' ⟨h1, h2⟩ => ⟨?_, h2⟩
    rw [h1]
    cases hd : decoded a0.data.toList with
    | none => rw [hd] at h; simp only [Option.some.injEq, Prod.mk.injEq] at h; obtain ⟨rfl, rfl⟩ := h; rfl
    | some d => rw [hd] at h; simp only [Option.some.injEq, Prod.mk.injEq] at h; obtain ⟨rfl, rfl⟩ := h; rfl
  · cases h
def rEncode.f (a0 : ByteArray) : Option ByteArray := if a0.size ≤ 4294967280 then some (txt (encode a0.data.toList)) else none
theorem rEncode.calls (a0 : ByteArray) (r : ByteArray) (w : World) (h : rEncode.f a0 = some r) : Calls Tryd.prog 27 #[.string a0] w fun e w' => e = .returned (.string r) ∧ Below w.heap.size w w' := by
  unfold rEncode.f at h
  split at h
  · obtain rfl := Option.some.inj h
    exact rencode_calls a0 w ‹_›
  · cases h

def field (x : List UInt8) : S83 := ⟨txt (pairN x), txt (pairV x)⟩
def pPairs.f (a0 : ByteArray) : Option (List S83 × Option Int) := if a0.size ≤ 1048576 then some ((rowsAll a0.data.toList).map field, errO (errAll a0.data.toList)) else none
theorem reps_of (R : S83 → List Value → Prop) (hR : ∀ x : S83, R x [.string x.f0, .string x.f1]) : ∀ (n : Nat) (l : List (List UInt8)), l.length = n → Reps R 2 (l.map field) (cellsP l) := by
  intro n
  induction n with
  | zero =>
    intro l hl
    obtain rfl := List.length_eq_zero_iff.1 hl
    exact Reps.none R 2
  | succ n ih =>
    intro l hl
    rcases List.eq_nil_or_concat l with rfl | ⟨L, b, rfl⟩
    · simp at hl
    · rw [List.concat_eq_append] at hl ⊢
      rw [List.map_append, cellsP_one]
      exact Reps.snoc (ih L (by simpa using hl)) (hR (field b)) rfl
theorem pPairs.calls (a0 : ByteArray) (r1 : List S83) (r2 : Option Int) (w : World) (hG : Aside0 (GInv w)) (h : pPairs.f a0 = some (r1, r2)) :
    Calls Tryd.prog 25 #[.string a0] w fun e w' => ∃ v0_ : Value, e = .returned (.tuple #[v0_, errW r2]) ∧ Kd.R k83 83 w' w.heap.size (fun _ => True) v0_ r1 ∧ Below w.heap.size w w' := by
  unfold pPairs.f at h
  split at h
  · rename_i hz
    simp only [Option.some.injEq, Prod.mk.injEq] at h
    obtain ⟨rfl, rfl⟩ := h
    have hc := pairs_calls a0.data.toList w (by rw [Array.length_toList]; exact hz) hG.out.out
    rw [txt_self'] at hc
    refine hc.mono fun e w' ⟨v0, h1, h2, h3⟩ => ⟨v0, by rw [h1, ← errV_W], ⟨fun _ _ => trivial, cellsP (rowsAll a0.data.toList), by rw [List.length_map]; exact h2, ?_⟩, h3⟩
    exact reps_of _ (fun x => k83_mkM _ _ _ x) _ _ rfl
  · cases h
end Go.Proofs.YthobmfnmenbkeaaDoor.Gv
end
/- Go functions of this seat as Lean functions, and their contracts, written by our program xprint.py over the kit's printer. -/
section
namespace Go.Proofs.YthobmfnmenbkeaaDoor.XC
open Go.Proofs.YthobmfnmenbkeaaDoor.Gv
open Go.RowKit Go.Proofs.YthobmfnmenbkeaaDoorW.PrintWords Go.Proofs.YthobmfnmenbkeaaDoorW.PrintLast Go.Proofs.YthobmfnmenbkeaaDoorW.PrintMore
attribute [local go_sem] max2_int min2_int max_two min_two max_three min_three max_four min_four   -- for this text's walks alone
set_option linter.unusedVariables false
set_option linter.unusedSimpArgs false

attribute [local go_sem high] eqA83
/-! ### turnstilelaw08_num: function 12 -/
def turnstilelaw08_num.f (a0 : Option Int) : Option (Int) := if a0.isNone = true then (some 0) else (some (a0.getD 0))
set_option maxHeartbeats 8000000 in
set_option maxRecDepth 100000 in
theorem turnstilelaw08_num.calls (a0 : Option Int) (r : Int) (w : World) (h : turnstilelaw08_num.f a0 = some r) :
    Calls Tryd.prog 12 #[errW a0] w fun e w' => e = .returned (.int .i64 r) ∧ Drawn0 w w' := by
  have hu25 := Tryd.underlying25
  have hu56 := Tryd.underlying56
  have hta : ∀ (v : Value) (W : World), (Instr.typeAssert (.iface 56 v) 25 56 true).run Tryd.prog W = .ok (.tuple #[v, .bool true]) W := fun v W => by rfl
  have H : (if a0.isNone = true then (some 0) else (some (a0.getD 0))) = some r := h
  clear h
  rcases a0 with _ | q101
  · have H1 : (some 0) = some r := by rw [if_pos (show (none : Option Int).isNone = true by rfl)] at H; exact H
    clear H
    have H := H1
    clear H1
    simp only [errW_none, errW_some]
    obtain rfl := Option.some.inj H
    go_enter Tryd.func12, Tryd.ntmps12
    go_wp2
    go_ret
    exact ⟨by first | rfl | (simp; done) | (simp [*]; done), by repeat (first | exact Drawn0.refl _ | apply Drawn0.step)⟩
  · have H1 : (some q101) = some r := by rw [if_neg (show ¬ (some q101).isNone = true by simp)] at H; exact H
    clear H
    have H := H1
    clear H1
    simp only [errW_none, errW_some]
    obtain rfl := Option.some.inj H
    go_enter Tryd.func12, Tryd.ntmps12
    go_wp2
    go_ret
    exact ⟨by first | rfl | (simp; done) | (simp [*]; done), by repeat (first | exact Drawn0.refl _ | apply Drawn0.step)⟩

/-! ### turnstileref08_cut: function 54 -/
def turnstileref08_cut.l0 : Nat → ByteArray → Int → Int → Option (ByteArray × ByteArray × Bool)
  | 0, _, _, _ => none
  | k + 1, x0, x1, x7 => if x7 < (x0.size : Int) then (if 0 ≤ x7 then (if (bt x0 x7) = x1 then (if x7 ≤ (x0.size : Int) then (if 0 ≤ (wrap64 (x7 + 1)) then (if (wrap64 (x7 + 1)) ≤ (x0.size : Int) then (some (x0.extract 0 (x7 : Int).toNat, x0.extract ((wrap64 (x7 + 1)) : Int).toNat x0.size, true)) else (none)) else (none)) else (none)) else (turnstileref08_cut.l0 k x0 x1 (wrap64 (x7 + 1)))) else (none)) else (some (x0, (⟨#[]⟩ : ByteArray), false))
def turnstileref08_cut.f (k : Nat) (a0 : ByteArray) (a1 : Int) : Option (ByteArray × ByteArray × Bool) := turnstileref08_cut.l0 k a0 a1 0
theorem turnstileref08_cut.mono_l : ∀ k, (∀ y0 y1 y2, LeO (turnstileref08_cut.l0 k y0 y1 y2) (turnstileref08_cut.l0 (k + 1) y0 y1 y2))
  | 0 => fun _ _ _ r h => by simp [turnstileref08_cut.l0] at h
  | k + 1 => by
    have ih0 := turnstileref08_cut.mono_l k
    · intro y0 y1 y2
      unfold turnstileref08_cut.l0
      repeat' first
      | (with_reducible exact ih0 _ _ _)
      | (with_reducible exact LeO.refl _)
      | (with_reducible exact LeO.none _)
      | (with_reducible refine LeO.ite ?_ ?_)
      | (with_reducible refine LeO.bind ?_ (fun _ => ?_))
      | exact ih0 _ _ _
      | exact LeO.none _
      | refine LeO.ite ?_ ?_
      | refine LeO.bind ?_ (fun _ => ?_)
theorem turnstileref08_cut.mono : ∀ a0 a1 k, LeO (turnstileref08_cut.f k a0 a1) (turnstileref08_cut.f (k + 1) a0 a1) := by
  intro a0 a1 k
  have ih0 := turnstileref08_cut.mono_l k
  unfold turnstileref08_cut.f
  repeat' first
      | (with_reducible exact ih0 _ _ _)
      | (with_reducible exact LeO.refl _)
      | (with_reducible exact LeO.none _)
      | (with_reducible refine LeO.ite ?_ ?_)
      | (with_reducible refine LeO.bind ?_ (fun _ => ?_))
      | exact ih0 _ _ _
      | exact LeO.none _
      | refine LeO.ite ?_ ?_
      | refine LeO.bind ?_ (fun _ => ?_)
set_option maxHeartbeats 8000000 in
set_option maxRecDepth 100000 in
theorem turnstileref08_cut.calls (k : Nat) (a0 : ByteArray) (a1 : Int) (r1 : ByteArray) (r2 : ByteArray) (r3 : Bool) (w : World) (h : turnstileref08_cut.f k a0 a1 = some (r1, r2, r3)) :
    Calls Tryd.prog 54 #[.string a0, .int .u8 a1] w fun e w' => e = .returned (.tuple #[.string r1, .string r2, .bool r3]) ∧ Drawn0 w w' := by
  have H : (turnstileref08_cut.l0 k a0 a1 0) = some (r1, r2, r3) := h
  clear h
  have H' := Aside0.mk H
  clear H
  go_enter Tryd.func54, Tryd.ntmps54
  go_wp2
  repeat (go_quiet (fail); try go_wp2)
  go_loopg [7] k (fun kq v7 w' => ∃ (x7_1 : Int), v7 = .int .i64 x7_1 ∧ Aside0 (turnstileref08_cut.l0 kq a0 a1 x7_1 = some (r1, r2, r3)) ∧ Aside0 (kq ≤ k) ∧ Drawn0 w w')
  case atStart => exact ⟨(0), (by first | rfl | (simp; done) | (simp [*]; done)), H', ⟨Nat.le_refl _⟩, by repeat (first | exact Drawn0.refl _ | apply Drawn0.step)⟩
  case round =>
    clear H'
    try clear p2
    obtain ⟨x7_1, rfl, HA, HK1, ⟨m1, rfl⟩⟩ := hrel
    cases gk with
    | zero => exact absurd HA.out (by simp [turnstileref08_cut.l0])
    | succ k1 =>
      have H := HA.out
      clear HA
      simp only [turnstileref08_cut.l0] at H
      by_cases c3 : x7_1 < (a0.size : Int)
      · rw [if_pos c3] at H
        have c3b0 : decide (x7_1 < (a0.size : Int)) = true := decide_eq_true c3
        clear c3
        by_cases c4 : 0 ≤ x7_1
        · rw [if_pos c4] at H
          have c4b0 : decide (0 ≤ x7_1) = true := decide_eq_true c4
          clear c4
          by_cases c6 : (bt a0 x7_1) = a1
          · rw [if_pos c6] at H
            have c6b0 : ((bt a0 x7_1) == a1) = true := beq_iff_eq.mpr c6
            have c6b1 : ((bt a0 x7_1) != a1) = false := bne_eq_false_iff_eq.mpr c6
            clear c6
            have c7b0 := eq_true (of_decide_eq_true (by first | (with_reducible assumption) | assumption) : 0 ≤ x7_1)
            by_cases c8 : x7_1 ≤ (a0.size : Int)
            · rw [if_pos c8] at H
              have c8b0 := eq_true c8
              have c8b1 : decide (x7_1 ≤ (a0.size : Int)) = true := decide_eq_true c8
              clear c8
              obtain ⟨ji9, hji9⟩ : ∃ j_ : Int, (wrap64 (x7_1 + 1)) = j_ := ⟨_, rfl⟩
              replace H : (if 0 ≤ (ji9) then (if (ji9) ≤ (a0.size : Int) then (some (a0.extract 0 (x7_1 : Int).toNat, a0.extract ((ji9) : Int).toNat a0.size, true)) else (none)) else (none)) = some (r1, r2, r3) := by first | (rw [hji9] at H; exact H) | (simp only [hji9] at H ⊢; exact H)
              have hji9w : (IntKind.i64.wrap (x7_1 + 1)) = ji9 := (i64_w _).trans hji9
              by_cases c10 : 0 ≤ (ji9)
              · rw [if_pos c10] at H
                have c10b0 := eq_true c10
                have c10b1 : decide (0 ≤ (ji9)) = true := decide_eq_true c10
                clear c10
                by_cases c11 : (ji9) ≤ (a0.size : Int)
                · rw [if_pos c11] at H
                  have c11b0 := eq_true c11
                  have c11b1 : decide ((ji9) ≤ (a0.size : Int)) = true := decide_eq_true c11
                  clear c11
                  simp only [Option.some.injEq, Prod.mk.injEq] at H
                  obtain ⟨rfl, rfl, rfl⟩ := H
                  have p5 : 0 ≤ (x7_1 : Int) := of_decide_eq_true (by first | (with_reducible assumption) | assumption)
                  have q5 : x7_1 < (a0.size : Int) := of_decide_eq_true (by first | (with_reducible assumption) | assumption)
                  have hx5 := bt_at a0 x7_1
                  replace p5 := eq_true p5
                  replace q5 := eq_true q5
                  go_wp2
                  repeat (go_quiet (fail); try go_wp2)
                  go_ret3
                  exact ⟨by first | rfl | (simp; done) | (simp only [← hji9] <;> (first | rfl | simp)) | (simp [*]; done), by repeat (first | exact Drawn0.refl _ | apply Drawn0.step)⟩
                · rw [if_neg c11] at H
                  exact absurd H (by simp)
              · rw [if_neg c10] at H
                exact absurd H (by simp)
            · rw [if_neg c8] at H
              exact absurd H (by simp)
          · rw [if_neg c6] at H
            have c6b0 : ((bt a0 x7_1) == a1) = false := beq_eq_false_iff_ne.mpr c6
            have c6b1 : ((bt a0 x7_1) != a1) = true := bne_iff_ne.mpr c6
            have H' := Aside0.mk H
            clear H
            have p5 : 0 ≤ (x7_1 : Int) := of_decide_eq_true (by first | (with_reducible assumption) | assumption)
            have q5 : x7_1 < (a0.size : Int) := of_decide_eq_true (by first | (with_reducible assumption) | assumption)
            have hx5 := bt_at a0 x7_1
            replace p5 := eq_true p5
            replace q5 := eq_true q5
            go_wp2
            repeat (go_quiet (fail); try go_wp2)
            go_roundg k1
            case measure => have := HK1.out; omega
            case rel => exact ⟨(wrap64 (x7_1 + 1)), (by first | rfl | (simp; done) | (simp [*]; done)), H', ⟨by have := HK1.out; omega⟩, by repeat (first | exact Drawn0.refl _ | apply Drawn0.step)⟩
        · rw [if_neg c4] at H
          exact absurd H (by simp)
      · rw [if_neg c3] at H
        have c3b0 : decide (x7_1 < (a0.size : Int)) = false := decide_eq_false c3
        clear c3
        simp only [Option.some.injEq, Prod.mk.injEq] at H
        obtain ⟨rfl, rfl, rfl⟩ := H
        go_wp2
        repeat (go_quiet (fail); try go_wp2)
        go_ret3
        exact ⟨by first | rfl | (simp; done) | (simp [*]; done), by repeat (first | exact Drawn0.refl _ | apply Drawn0.step)⟩

/-! ### turnstileref08_form: function 55 -/
def turnstileref08_form.l0 : Nat → ByteArray → List Int → Int → Option (ByteArray)
  | 0, _, _, _ => none
  | k + 1, x0, x3, x4 => if x4 < (x0.size : Int) then (if 0 ≤ x4 then (if (bt x0 x4) = 43 then (if x3.length < 140737488355328 then (turnstileref08_form.l0 k x0 (x3 ++ [32]) (wrap64 (x4 + 1))) else (none)) else (if x3.length < 140737488355328 then (turnstileref08_form.l0 k x0 (x3 ++ [bt x0 x4]) (wrap64 (x4 + 1))) else (none))) else (none)) else ((rDecode.f (strOfNums x3)).bind fun bt108 => (some bt108.1))
def turnstileref08_form.f (k : Nat) (a0 : ByteArray) : Option (ByteArray) := turnstileref08_form.l0 k a0 ([] : List Int) 0
theorem turnstileref08_form.mono_l : ∀ k, (∀ y0 y1 y2, LeO (turnstileref08_form.l0 k y0 y1 y2) (turnstileref08_form.l0 (k + 1) y0 y1 y2))
  | 0 => fun _ _ _ r h => by simp [turnstileref08_form.l0] at h
  | k + 1 => by
    have ih0 := turnstileref08_form.mono_l k
    · intro y0 y1 y2
      unfold turnstileref08_form.l0
      repeat' first
      | (with_reducible exact ih0 _ _ _)
      | (with_reducible exact LeO.refl _)
      | (with_reducible exact LeO.none _)
      | (with_reducible refine LeO.ite ?_ ?_)
      | (with_reducible refine LeO.bind ?_ (fun _ => ?_))
      | exact ih0 _ _ _
      | exact LeO.none _
      | refine LeO.ite ?_ ?_
      | refine LeO.bind ?_ (fun _ => ?_)
theorem turnstileref08_form.mono : ∀ a0 k, LeO (turnstileref08_form.f k a0) (turnstileref08_form.f (k + 1) a0) := by
  intro a0 k
  have ih0 := turnstileref08_form.mono_l k
  unfold turnstileref08_form.f
  repeat' first
      | (with_reducible exact ih0 _ _ _)
      | (with_reducible exact LeO.refl _)
      | (with_reducible exact LeO.none _)
      | (with_reducible refine LeO.ite ?_ ?_)
      | (with_reducible refine LeO.bind ?_ (fun _ => ?_))
      | exact ih0 _ _ _
      | exact LeO.none _
      | refine LeO.ite ?_ ?_
      | refine LeO.bind ?_ (fun _ => ?_)
set_option maxHeartbeats 8000000 in
set_option maxRecDepth 100000 in
theorem turnstileref08_form.calls (k : Nat) (a0 : ByteArray) (r : ByteArray) (w : World) (h : turnstileref08_form.f k a0 = some r) :
    Calls Tryd.prog 55 #[.string a0] w fun e w' => e = .returned (.string r) ∧ Below w.heap.size w w' := by
  have HB := Aside0.mk (Below.refl w.heap.size w)
  have H : (turnstileref08_form.l0 k a0 ([] : List Int) 0) = some r := h
  clear h
  have H' := Aside0.mk H
  clear H
  go_enter Tryd.func55, Tryd.ntmps55
  go_wp2
  go_loopg [3, 4] k (fun kq v3 v4 w' => ∃ (x3_1 : List Int) (x4_1 : Int), v4 = .int .i64 x4_1 ∧ Aside0 (turnstileref08_form.l0 kq a0 x3_1 x4_1 = some r) ∧ Aside0 (kq ≤ k) ∧ Aside0 (Kd.R (Kd.int .u8) 5 w' w.heap.size (fun _ => True) v3 x3_1) ∧ Aside0 (Below w.heap.size w w'))
  case atStart => exact ⟨(([] : List Int)), (0), (by first | rfl | (simp; done) | (simp [*]; done)), H', ⟨Nat.le_refl _⟩, ⟨by first | exact Kd.R_nil _ _ _ _ _ | exact Kd.N_nil _ _ _ _ _ | exact Kd.V_nil _ _ _ _ _ | exact Kd.Q_nil _ _ _ _ _ | exact Kd.S_nil _ _ _ _ _⟩, ⟨by repeat (first | (with_reducible first | exact HB.out | apply below_alloc | apply pw_below_drewN | apply below_drew1) | exact HB.out)⟩⟩
  case round =>
    clear H'
    obtain ⟨x3_1, x4_1, rfl, HA, HK1, HO_3, HB⟩ := hrel
    cases gk with
    | zero => exact absurd HA.out (by simp [turnstileref08_form.l0])
    | succ k1 =>
      have H := HA.out
      clear HA
      simp only [turnstileref08_form.l0] at H
      by_cases c2 : x4_1 < (a0.size : Int)
      · rw [if_pos c2] at H
        have c2b0 : decide (x4_1 < (a0.size : Int)) = true := decide_eq_true c2
        clear c2
        by_cases c3 : 0 ≤ x4_1
        · rw [if_pos c3] at H
          have c3b0 : decide (0 ≤ x4_1) = true := decide_eq_true c3
          clear c3
          by_cases c5 : (bt a0 x4_1) = 43
          · rw [if_pos c5] at H
            have c5b0 : ((bt a0 x4_1) == 43) = true := beq_iff_eq.mpr c5
            have c5b1 : ((bt a0 x4_1) != 43) = false := bne_eq_false_iff_eq.mpr c5
            clear c5
            by_cases c6 : x3_1.length < 140737488355328
            · rw [if_pos c6] at H
              have LMc6 := Aside0.mk c6
              clear c6
              obtain ⟨y102, hy102⟩ : ∃ y_ : List Int, y_ = (x3_1 ++ [32]) := ⟨_, rfl⟩
              replace H : (turnstileref08_form.l0 k1 a0 y102 (wrap64 (x4_1 + 1))) = some r := by first | (rw [hy102]; with_reducible exact H) | (have H2_ := (Option.bind_some _ _).symm.trans H; rw [hy102]; with_reducible exact H2_) | (have H2_ := (Option.bind_some _ _).symm.trans H; with_reducible exact H2_) | with_reducible exact H | (rw [hy102]; exact H) | exact H
              have Ny102 := Aside0.mk hy102
              clear hy102
              have H' := Aside0.mk H
              clear H
              have p4 : 0 ≤ (x4_1 : Int) := of_decide_eq_true (by first | (with_reducible assumption) | assumption)
              have q4 : x4_1 < (a0.size : Int) := of_decide_eq_true (by first | (with_reducible assumption) | assumption)
              have hx4 := bt_at a0 x4_1
              replace p4 := eq_true p4
              replace q4 := eq_true q4
              go_wp2_with (first | ((with_reducible refine gate_builtin (b := .append) (xs := #[.tmp 17, .tmp 18]) rfl ?_); at_builtin; refine Kd.R_append (Kd.int .u8) (w0 := w) w.heap.size rfl (.tmp 17) (.tmp 18) 64 5 (.int .u8 0) 1 rfl Tryd.underlying64 info5 rfl (by decide) (by omega) u3 x3_1 32 [.int .u8 32] (fun _ => True) (fun _ => False) rfl rfl ?aP (fun _ hk => hk.elim) ?aF ?aO ?aB ?aS ?aL ?_; (case aP => exact rfl); (case aB => exact (by repeat (first | (with_reducible first | exact HB.out | apply below_alloc | apply pw_below_drewN | apply below_drew1) | exact HB.out))); (case aF => exact (fun _ _ => trivial)); (case aO => exact (by (with_reducible repeat (first | apply Kd.R_alloc | apply Kd.R_drewN | apply Kd.R_drew)); exact HO_3.out)); (case aS => exact (below_size (by repeat (first | (with_reducible first | exact HB.out | apply below_alloc | apply pw_below_drewN | apply below_drew1) | exact HB.out)))); (case aL => have := LMc6.out; omega); intro v103 w7 ho hb hg hat; rw [← Ny102.out] at ho; have n0_ := Aside0.mk (hb); have n1_ := Aside0.mk (ho); clear HB; clear HO_3; have HB := n0_; have HO104 := n1_; clear n0_ n1_; clear ho hb hg hat))
              go_roundg k1
              case measure => have := HK1.out; omega
              case rel => exact ⟨(y102), (wrap64 (x4_1 + 1)), (by first | rfl | (simp; done) | (simp [*]; done)), H', ⟨by have := HK1.out; omega⟩, ⟨by (with_reducible repeat (first | apply Kd.R_alloc | apply Kd.R_drewN | apply Kd.R_drew)); exact HO104.out⟩, ⟨by repeat (first | (with_reducible first | exact HB.out | apply below_alloc | apply pw_below_drewN | apply below_drew1) | exact HB.out)⟩⟩
            · rw [if_neg c6] at H
              exact absurd H (by simp)
          · rw [if_neg c5] at H
            have c5b0 : ((bt a0 x4_1) == 43) = false := beq_eq_false_iff_ne.mpr c5
            have c5b1 : ((bt a0 x4_1) != 43) = true := bne_iff_ne.mpr c5
            by_cases c9 : x3_1.length < 140737488355328
            · rw [if_pos c9] at H
              have LMc9 := Aside0.mk c9
              clear c9
              obtain ⟨y105, hy105⟩ : ∃ y_ : List Int, y_ = (x3_1 ++ [bt a0 x4_1]) := ⟨_, rfl⟩
              replace H : (turnstileref08_form.l0 k1 a0 y105 (wrap64 (x4_1 + 1))) = some r := by first | (rw [hy105]; with_reducible exact H) | (have H2_ := (Option.bind_some _ _).symm.trans H; rw [hy105]; with_reducible exact H2_) | (have H2_ := (Option.bind_some _ _).symm.trans H; with_reducible exact H2_) | with_reducible exact H | (rw [hy105]; exact H) | exact H
              have Ny105 := Aside0.mk hy105
              clear hy105
              have H' := Aside0.mk H
              clear H
              have p4 : 0 ≤ (x4_1 : Int) := of_decide_eq_true (by first | (with_reducible assumption) | assumption)
              have q4 : x4_1 < (a0.size : Int) := of_decide_eq_true (by first | (with_reducible assumption) | assumption)
              have hx4 := bt_at a0 x4_1
              replace p4 := eq_true p4
              replace q4 := eq_true q4
              have p8 : 0 ≤ (x4_1 : Int) := of_decide_eq_true (by first | (with_reducible assumption) | assumption)
              have q8 : x4_1 < (a0.size : Int) := of_decide_eq_true (by first | (with_reducible assumption) | assumption)
              have hx8 := bt_at a0 x4_1
              replace p8 := eq_true p8
              replace q8 := eq_true q8
              go_wp2_with (first | ((with_reducible refine gate_builtin (b := .append) (xs := #[.tmp 20, .tmp 24]) rfl ?_); at_builtin; refine Kd.R_append (Kd.int .u8) (w0 := w) w.heap.size rfl (.tmp 20) (.tmp 24) 64 5 (.int .u8 0) 1 rfl Tryd.underlying64 info5 rfl (by decide) (by omega) u3 x3_1 (bt a0 x4_1) [.int .u8 (bt a0 x4_1)] (fun _ => True) (fun _ => False) rfl rfl ?aP (fun _ hk => hk.elim) ?aF ?aO ?aB ?aS ?aL ?_; (case aP => exact rfl); (case aB => exact (by repeat (first | (with_reducible first | exact HB.out | apply below_alloc | apply pw_below_drewN | apply below_drew1) | exact HB.out))); (case aF => exact (fun _ _ => trivial)); (case aO => exact (by (with_reducible repeat (first | apply Kd.R_alloc | apply Kd.R_drewN | apply Kd.R_drew)); exact HO_3.out)); (case aS => exact (below_size (by repeat (first | (with_reducible first | exact HB.out | apply below_alloc | apply pw_below_drewN | apply below_drew1) | exact HB.out)))); (case aL => have := LMc9.out; omega); intro v106 w10 ho hb hg hat; rw [← Ny105.out] at ho; have n0_ := Aside0.mk (hb); have n1_ := Aside0.mk (ho); clear HB; clear HO_3; have HB := n0_; have HO107 := n1_; clear n0_ n1_; clear ho hb hg hat))
              go_roundg k1
              case measure => have := HK1.out; omega
              case rel => exact ⟨(y105), (wrap64 (x4_1 + 1)), (by first | rfl | (simp; done) | (simp [*]; done)), H', ⟨by have := HK1.out; omega⟩, ⟨by (with_reducible repeat (first | apply Kd.R_alloc | apply Kd.R_drewN | apply Kd.R_drew)); exact HO107.out⟩, ⟨by repeat (first | (with_reducible first | exact HB.out | apply below_alloc | apply pw_below_drewN | apply below_drew1) | exact HB.out)⟩⟩
            · rw [if_neg c9] at H
              exact absurd H (by simp)
        · rw [if_neg c3] at H
          exact absurd H (by simp)
      · rw [if_neg c2] at H
        have c2b0 : decide (x4_1 < (a0.size : Int)) = false := decide_eq_false c2
        clear c2
        replace H := Option.bind_eq_some_iff.mp H
        obtain ⟨⟨t108, t109⟩, A110, H⟩ := H
        replace H : (some t108) = some r := H
        have A11 := Aside0.mk A110
        clear A110
        obtain rfl := Option.some.inj H
        have hcv12 := own_string (P := Tryd.prog) Tryd.underlying64 Tryd.underlying5 Tryd.underlying9 (Kd.own_of_R HO_3.out)
        go_wp2_with (first | ((with_reducible refine gate_callee (f := 24) rfl ?_); refine goesL_ (some 29) rfl rfl Tryd.func24 (by kernel_rfl) rfl #[.string (strOfNums x3_1)] rfl (by (try simp only [List.map_toArray, List.map_cons, List.map_nil]); first | done | rfl | (simp only [List.length_drop, List.length_take]; rfl)) ?_; (with_reducible refine (rDecode.calls (strOfNums x3_1) t108 t109 _ A11.out).mono ?_); rintro e w13 ⟨rfl, hb⟩; refine ⟨_, rfl, ?_⟩; have n0_ := Aside0.mk (Kd.R_below (by (with_reducible repeat (first | apply Kd.R_alloc | apply Kd.R_drewN | apply Kd.R_drew)); exact HO_3.out) hb); have n1_ := Aside0.mk (below_step (by repeat (first | (with_reducible first | exact HB.out | apply below_alloc | apply pw_below_drewN | apply below_drew1) | exact HB.out)) hb); clear HO_3; clear HB; have HO_3 := n0_; have HB := n1_; clear n0_ n1_; (try clear hb); (try clear hb2); (try clear hk); (try clear hi)))
        go_ret
        exact ⟨by first | rfl | (simp [errW_none, errW_some] <;> rfl) | (simp [*, errW_none, errW_some] <;> rfl), by repeat (first | (with_reducible first | exact HB.out | apply below_alloc | apply pw_below_drewN | apply below_drew1) | exact HB.out)⟩

/-! ### turnstileref08_Pairs: function 26 -/
def turnstileref08_Pairs.l0 : Nat → List (S83) → ByteArray → Bool → Option ((List (S83)) × Int)
  | 0, _, _, _ => none
  | k + 1, x4, x5, x6 => if x6 = true then ((turnstileref08_cut.f k x5 38).bind fun bt111 => (if bt111.1.toList = ([] : List UInt8) then (turnstileref08_Pairs.l0 k x4 bt111.2.1 bt111.2.2) else (if (x4.length : Int) = 64 then (some (([] : List (S83)), 2)) else ((turnstileref08_cut.f k bt111.1 61).bind fun bt114 => ((turnstileref08_form.f k bt114.1).bind fun t117 => ((turnstileref08_form.f k bt114.2.1).bind fun t118 => (if x4.length < 4398046511104 then (turnstileref08_Pairs.l0 k (x4 ++ [(⟨t117, t118⟩ : S83)]) bt111.2.1 bt111.2.2) else (none)))))))) else (some (x4, 0))
def turnstileref08_Pairs.f (k : Nat) (a0 : ByteArray) : Option ((List (S83)) × Int) := (rQuery.f a0).bind fun t110 => (if t110 = true then (turnstileref08_Pairs.l0 k ([] : List (S83)) a0 true) else (some (([] : List (S83)), 23)))
theorem turnstileref08_Pairs.mono_l : ∀ k, (∀ y0 y1 y2, LeO (turnstileref08_Pairs.l0 k y0 y1 y2) (turnstileref08_Pairs.l0 (k + 1) y0 y1 y2))
  | 0 => fun _ _ _ r h => by simp [turnstileref08_Pairs.l0] at h
  | k + 1 => by
    have ih0 := turnstileref08_Pairs.mono_l k
    · intro y0 y1 y2
      unfold turnstileref08_Pairs.l0
      repeat' first
      | (with_reducible exact ih0 _ _ _)
      | (with_reducible exact turnstileref08_cut.mono _ _ _)
      | (with_reducible exact turnstileref08_form.mono _ _)
      | (with_reducible exact LeO.refl _)
      | (with_reducible exact LeO.none _)
      | (with_reducible refine LeO.ite ?_ ?_)
      | (with_reducible refine LeO.bind ?_ (fun _ => ?_))
      | exact ih0 _ _ _
      | exact turnstileref08_cut.mono _ _ _
      | exact turnstileref08_form.mono _ _
      | exact LeO.none _
      | refine LeO.ite ?_ ?_
      | refine LeO.bind ?_ (fun _ => ?_)
theorem turnstileref08_Pairs.mono : ∀ a0 k, LeO (turnstileref08_Pairs.f k a0) (turnstileref08_Pairs.f (k + 1) a0) := by
  intro a0 k
  have ih0 := turnstileref08_Pairs.mono_l k
  unfold turnstileref08_Pairs.f
  repeat' first
      | (with_reducible exact ih0 _ _ _)
      | (with_reducible exact turnstileref08_cut.mono _ _ _)
      | (with_reducible exact turnstileref08_form.mono _ _)
      | (with_reducible exact LeO.refl _)
      | (with_reducible exact LeO.none _)
      | (with_reducible refine LeO.ite ?_ ?_)
      | (with_reducible refine LeO.bind ?_ (fun _ => ?_))
      | exact ih0 _ _ _
      | exact turnstileref08_cut.mono _ _ _
      | exact turnstileref08_form.mono _ _
      | exact LeO.none _
      | refine LeO.ite ?_ ?_
      | refine LeO.bind ?_ (fun _ => ?_)
set_option maxHeartbeats 8000000 in
set_option maxRecDepth 100000 in
theorem turnstileref08_Pairs.calls (k : Nat) (a0 : ByteArray) (r1 : List (S83)) (r2 : Int) (w : World) (h : turnstileref08_Pairs.f k a0 = some (r1, r2)) :
    Calls Tryd.prog 26 #[.string a0] w fun e w' => ∃ v0_ : Value, e = .returned (.tuple #[v0_, .int .i64 r2]) ∧ Kd.R k83 83 w' w.heap.size (fun _ => True) v0_ r1 ∧ Below w.heap.size w w' := by
  have hu83 := Tryd.underlying83
  have HB := Aside0.mk (Below.refl w.heap.size w)
  have H : ((rQuery.f a0).bind fun t110 => (if t110 = true then (turnstileref08_Pairs.l0 k ([] : List (S83)) a0 true) else (some (([] : List (S83)), 23)))) = some (r1, r2) := h
  clear h
  replace H := Option.bind_eq_some_iff.mp H
  obtain ⟨t110, A20, H⟩ := H
  replace H : (if t110 = true then (turnstileref08_Pairs.l0 k ([] : List (S83)) a0 true) else (some (([] : List (S83)), 23))) = some (r1, r2) := H
  have A2 := Aside0.mk A20
  clear A20
  by_cases c3 : t110 = true
  · subst c3
    have H1 : (turnstileref08_Pairs.l0 k ([] : List (S83)) a0 true) = some (r1, r2) := by rw [if_pos rfl] at H; exact H
    clear H
    have H := H1
    clear H1
    have H' := Aside0.mk H
    clear H
    go_enter Tryd.func26, Tryd.ntmps26
    go_wp2_with (first | ((with_reducible refine gate_callee (f := 53) rfl ?_); refine goesL_ (some 12) rfl rfl Tryd.func53 (by kernel_rfl) rfl #[.string a0] rfl (by (try simp only [List.map_toArray, List.map_cons, List.map_nil]); first | done | rfl | (simp only [List.length_drop, List.length_take]; rfl)) ?_; (with_reducible refine (rQuery.calls a0 true _ A2.out).mono ?_); rintro e w' ⟨rfl, ⟨nd, rfl⟩⟩; refine ⟨_, rfl, ?_⟩))
    go_loopg [4, 5, 6] k (fun kq v4 v5 v6 w' => ∃ (x4_1 : List (S83)) (x5_1 : ByteArray) (x6_1 : Bool), v5 = .string x5_1 ∧ v6 = .bool x6_1 ∧ Aside0 (turnstileref08_Pairs.l0 kq x4_1 x5_1 x6_1 = some (r1, r2)) ∧ Aside0 (kq ≤ k) ∧ Aside0 (Kd.R k83 83 w' w.heap.size (fun _ => True) v4 x4_1) ∧ Aside0 (Below w.heap.size w w'))
    case atStart => exact ⟨(([] : List (S83))), (a0), (true), (by first | rfl | (simp; done) | (simp [*]; done)), (by first | rfl | (simp; done) | (simp [*]; done)), H', ⟨Nat.le_refl _⟩, ⟨by first | exact Kd.R_nil _ _ _ _ _ | exact Kd.N_nil _ _ _ _ _ | exact Kd.V_nil _ _ _ _ _ | exact Kd.Q_nil _ _ _ _ _ | exact Kd.S_nil _ _ _ _ _⟩, ⟨by repeat (first | (with_reducible first | exact HB.out | apply below_alloc | apply pw_below_drewN | apply below_drew1) | exact HB.out)⟩⟩
    case round =>
      clear H'
      try clear c2
      try clear p2
      try clear c3
      obtain ⟨x4_1, x5_1, x6_1, rfl, rfl, HA, HK1, HO_4, HB⟩ := hrel
      cases gk with
      | zero => exact absurd HA.out (by simp [turnstileref08_Pairs.l0])
      | succ k1 =>
        have H := HA.out
        clear HA
        simp only [turnstileref08_Pairs.l0] at H
        by_cases c4 : x6_1 = true
        · subst c4
          have H1 : ((turnstileref08_cut.f k1 x5_1 38).bind fun bt111 => (if bt111.1.toList = ([] : List UInt8) then (turnstileref08_Pairs.l0 k1 x4_1 bt111.2.1 bt111.2.2) else (if (x4_1.length : Int) = 64 then (some (([] : List (S83)), 2)) else ((turnstileref08_cut.f k1 bt111.1 61).bind fun bt114 => ((turnstileref08_form.f k1 bt114.1).bind fun t117 => ((turnstileref08_form.f k1 bt114.2.1).bind fun t118 => (if x4_1.length < 4398046511104 then (turnstileref08_Pairs.l0 k1 (x4_1 ++ [(⟨t117, t118⟩ : S83)]) bt111.2.1 bt111.2.2) else (none)))))))) = some (r1, r2) := by rw [if_pos rfl] at H; exact H
          clear H
          have H := H1
          clear H1
          replace H := Option.bind_eq_some_iff.mp H
          obtain ⟨⟨t111, t112, t113⟩, A50, H⟩ := H
          replace H : (if t111.toList = ([] : List UInt8) then (turnstileref08_Pairs.l0 k1 x4_1 t112 t113) else (if (x4_1.length : Int) = 64 then (some (([] : List (S83)), 2)) else ((turnstileref08_cut.f k1 t111 61).bind fun bt114 => ((turnstileref08_form.f k1 bt114.1).bind fun t117 => ((turnstileref08_form.f k1 bt114.2.1).bind fun t118 => (if x4_1.length < 4398046511104 then (turnstileref08_Pairs.l0 k1 (x4_1 ++ [(⟨t117, t118⟩ : S83)]) t112 t113) else (none))))))) = some (r1, r2) := H
          have A5 := Aside0.mk A50
          clear A50
          by_cases c6 : t111.toList = ([] : List UInt8)
          · rw [if_pos c6] at H
            have c6b0 : (t111.toList == ([] : List UInt8)) = true := beq_iff_eq.mpr c6
            have c6b1 : (t111.toList != ([] : List UInt8)) = false := bne_eq_false_iff_eq.mpr c6
            clear c6
            have H' := Aside0.mk H
            clear H
            go_wp2_with (first | ((with_reducible refine gate_callee (f := 54) rfl ?_); refine goesL_ (some 18) rfl rfl Tryd.func54 (by kernel_rfl) rfl #[.string x5_1, .int .u8 38] rfl (by (try simp only [List.map_toArray, List.map_cons, List.map_nil]); first | done | rfl | (simp only [List.length_drop, List.length_take]; rfl)) ?_; (with_reducible refine (turnstileref08_cut.calls k1 x5_1 38 t111 t112 t113 _ A5.out).mono ?_); rintro e w' ⟨rfl, ⟨nd, rfl⟩⟩; refine ⟨_, rfl, ?_⟩))
            go_roundg k1
            case measure => have := HK1.out; omega
            case rel => exact ⟨(x4_1), (t112), (t113), (by first | rfl | (simp; done) | (simp [*]; done)), (by first | rfl | (simp; done) | (simp [*]; done)), H', ⟨by have := HK1.out; omega⟩, ⟨by (with_reducible repeat (first | apply Kd.R_alloc | apply Kd.R_drewN | apply Kd.R_drew)); exact HO_4.out⟩, ⟨by repeat (first | (with_reducible first | exact HB.out | apply below_alloc | apply pw_below_drewN | apply below_drew1) | exact HB.out)⟩⟩
          · rw [if_neg c6] at H
            have c6b0 : (t111.toList == ([] : List UInt8)) = false := beq_eq_false_iff_ne.mpr c6
            have c6b1 : (t111.toList != ([] : List UInt8)) = true := bne_iff_ne.mpr c6
            by_cases c7 : (x4_1.length : Int) = 64
            · rw [if_pos c7] at H
              have c7b0 : ((x4_1.length : Int) == 64) = true := beq_iff_eq.mpr c7
              have c7b1 : ((x4_1.length : Int) != 64) = false := bne_eq_false_iff_eq.mpr c7
              clear c7
              simp only [Option.some.injEq, Prod.mk.injEq] at H
              obtain ⟨rfl, rfl⟩ := H
              go_wp2_with (first | ((with_reducible refine gate_callee (f := 54) rfl ?_); refine goesL_ (some 18) rfl rfl Tryd.func54 (by kernel_rfl) rfl #[.string x5_1, .int .u8 38] rfl (by (try simp only [List.map_toArray, List.map_cons, List.map_nil]); first | done | rfl | (simp only [List.length_drop, List.length_take]; rfl)) ?_; (with_reducible refine (turnstileref08_cut.calls k1 x5_1 38 t111 t112 t113 _ A5.out).mono ?_); rintro e w' ⟨rfl, ⟨nd, rfl⟩⟩; refine ⟨_, rfl, ?_⟩; obtain ⟨Ao8, co8, eo8⟩ := Kd.R_slice HO_4.out; subst eo8))
              go_ret2
              exact ⟨_, by first | rfl | (simp [errW_none, errW_some] <;> rfl) | (simp [*, errW_none, errW_some] <;> rfl), by first | exact Kd.R_nil _ _ _ _ _ | exact Kd.N_nil _ _ _ _ _ | exact Kd.V_nil _ _ _ _ _ | exact Kd.Q_nil _ _ _ _ _ | exact Kd.S_nil _ _ _ _ _, by repeat (first | (with_reducible first | exact HB.out | apply below_alloc | apply pw_below_drewN | apply below_drew1) | exact HB.out)⟩
            · rw [if_neg c7] at H
              have c7b0 : ((x4_1.length : Int) == 64) = false := beq_eq_false_iff_ne.mpr c7
              have c7b1 : ((x4_1.length : Int) != 64) = true := bne_iff_ne.mpr c7
              replace H := Option.bind_eq_some_iff.mp H
              obtain ⟨⟨t114, t115, t116⟩, A90, H⟩ := H
              replace H : ((turnstileref08_form.f k1 t114).bind fun t117 => ((turnstileref08_form.f k1 t115).bind fun t118 => (if x4_1.length < 4398046511104 then (turnstileref08_Pairs.l0 k1 (x4_1 ++ [(⟨t117, t118⟩ : S83)]) t112 t113) else (none)))) = some (r1, r2) := H
              have A9 := Aside0.mk A90
              clear A90
              replace H := Option.bind_eq_some_iff.mp H
              obtain ⟨t117, A100, H⟩ := H
              replace H : ((turnstileref08_form.f k1 t115).bind fun t118 => (if x4_1.length < 4398046511104 then (turnstileref08_Pairs.l0 k1 (x4_1 ++ [(⟨t117, t118⟩ : S83)]) t112 t113) else (none))) = some (r1, r2) := H
              have A10 := Aside0.mk A100
              clear A100
              replace H := Option.bind_eq_some_iff.mp H
              obtain ⟨t118, A110, H⟩ := H
              replace H : (if x4_1.length < 4398046511104 then (turnstileref08_Pairs.l0 k1 (x4_1 ++ [(⟨t117, t118⟩ : S83)]) t112 t113) else (none)) = some (r1, r2) := H
              have A11 := Aside0.mk A110
              clear A110
              by_cases c12 : x4_1.length < 4398046511104
              · rw [if_pos c12] at H
                have LMc12 := Aside0.mk c12
                clear c12
                obtain ⟨y119, hy119⟩ : ∃ y_ : List (S83), y_ = (x4_1 ++ [(⟨t117, t118⟩ : S83)]) := ⟨_, rfl⟩
                replace H : (turnstileref08_Pairs.l0 k1 y119 t112 t113) = some (r1, r2) := by first | (rw [hy119]; with_reducible exact H) | (have H2_ := (Option.bind_some _ _).symm.trans H; rw [hy119]; with_reducible exact H2_) | (have H2_ := (Option.bind_some _ _).symm.trans H; with_reducible exact H2_) | with_reducible exact H | (rw [hy119]; exact H) | exact H
                have Ny119 := Aside0.mk hy119
                clear hy119
                have H' := Aside0.mk H
                clear H
                go_wp2_with (first | ((with_reducible refine gate_callee (f := 54) rfl ?_); refine goesL_ (some 18) rfl rfl Tryd.func54 (by kernel_rfl) rfl #[.string x5_1, .int .u8 38] rfl (by (try simp only [List.map_toArray, List.map_cons, List.map_nil]); first | done | rfl | (simp only [List.length_drop, List.length_take]; rfl)) ?_; (with_reducible refine (turnstileref08_cut.calls k1 x5_1 38 t111 t112 t113 _ A5.out).mono ?_); rintro e w' ⟨rfl, ⟨nd, rfl⟩⟩; refine ⟨_, rfl, ?_⟩; obtain ⟨Ao13, co13, eo13⟩ := Kd.R_slice HO_4.out; subst eo13) | ((with_reducible refine gate_callee (f := 54) rfl ?_); refine goesL_ (some 29) rfl rfl Tryd.func54 (by kernel_rfl) rfl #[.string t111, .int .u8 61] rfl (by (try simp only [List.map_toArray, List.map_cons, List.map_nil]); first | done | rfl | (simp only [List.length_drop, List.length_take]; rfl)) ?_; (with_reducible refine (turnstileref08_cut.calls k1 t111 61 t114 t115 t116 _ A9.out).mono ?_); rintro e w' ⟨rfl, ⟨nd, rfl⟩⟩; refine ⟨_, rfl, ?_⟩) | ((with_reducible refine gate_callee (f := 55) rfl ?_); refine goesL_ (some 35) rfl rfl Tryd.func55 (by kernel_rfl) rfl #[.string t114] rfl (by (try simp only [List.map_toArray, List.map_cons, List.map_nil]); first | done | rfl | (simp only [List.length_drop, List.length_take]; rfl)) ?_; (with_reducible refine (turnstileref08_form.calls k1 t114 t117 _ A10.out).mono ?_); rintro e w14 ⟨rfl, hb⟩; refine ⟨_, rfl, ?_⟩; have n0_ := Aside0.mk (Kd.R_below (by (with_reducible repeat (first | apply Kd.R_alloc | apply Kd.R_drewN | apply Kd.R_drew)); exact HO_4.out) hb); have n1_ := Aside0.mk (below_step (by repeat (first | (with_reducible first | exact HB.out | apply below_alloc | apply pw_below_drewN | apply below_drew1) | exact HB.out)) hb); clear HO_4; clear HB; have HO_4 := n0_; have HB := n1_; clear n0_ n1_; (try clear hb); (try clear hb2); (try clear hk); (try clear hi)) | ((with_reducible refine gate_callee (f := 55) rfl ?_); refine goesL_ (some 37) rfl rfl Tryd.func55 (by kernel_rfl) rfl #[.string t115] rfl (by (try simp only [List.map_toArray, List.map_cons, List.map_nil]); first | done | rfl | (simp only [List.length_drop, List.length_take]; rfl)) ?_; (with_reducible refine (turnstileref08_form.calls k1 t115 t118 _ A11.out).mono ?_); rintro e w15 ⟨rfl, hb⟩; refine ⟨_, rfl, ?_⟩; have n0_ := Aside0.mk (Kd.R_below (by (with_reducible repeat (first | apply Kd.R_alloc | apply Kd.R_drewN | apply Kd.R_drew)); exact HO_4.out) hb); have n1_ := Aside0.mk (below_step (by repeat (first | (with_reducible first | exact HB.out | apply below_alloc | apply pw_below_drewN | apply below_drew1) | exact HB.out)) hb); clear HO_4; clear HB; have HO_4 := n0_; have HB := n1_; clear n0_ n1_; (try clear hb); (try clear hb2); (try clear hk); (try clear hi)) | ((with_reducible refine gate_builtin (b := .append) (xs := #[.tmp 33, .tmp 39]) rfl ?_); at_builtin; refine Kd.R_append k83 (w0 := w) w.heap.size rfl (.tmp 33) (.tmp 39) 50 83 (.agg #[(.string ⟨#[]⟩), (.string ⟨#[]⟩)]) 32 rfl Tryd.underlying50 info83 rfl (by decide) (by omega) (.slice Ao13 x4_1.length co13) x4_1 (⟨t117, t118⟩ : S83) [.string t117, .string t118] (fun _ => True) (fun _ => False) rfl rfl ?aP (fun _ hk => hk.elim) ?aF ?aO ?aB ?aS ?aL ?_; (case aP => exact k83_mkM _ _ _ (⟨t117, t118⟩ : S83)); (case aB => exact (by repeat (first | (with_reducible first | exact HB.out | apply below_alloc | apply pw_below_drewN | apply below_drew1) | exact HB.out))); (case aF => exact (fun _ _ => trivial)); (case aO => exact (by (with_reducible repeat (first | apply Kd.R_alloc | apply Kd.R_drewN | apply Kd.R_drew)); exact HO_4.out)); (case aS => exact (below_size (by repeat (first | (with_reducible first | exact HB.out | apply below_alloc | apply pw_below_drewN | apply below_drew1) | exact HB.out)))); (case aL => have := LMc12.out; omega); intro v120 w16 ho hb hg hat; rw [← Ny119.out] at ho; have n0_ := Aside0.mk (hb); have n1_ := Aside0.mk (ho); clear HB; clear HO_4; have HB := n0_; have HO121 := n1_; clear n0_ n1_; clear ho hb hg hat))
                go_roundg k1
                case measure => have := HK1.out; omega
                case rel => exact ⟨(y119), (t112), (t113), (by first | rfl | (simp; done) | (simp [*]; done)), (by first | rfl | (simp; done) | (simp [*]; done)), H', ⟨by have := HK1.out; omega⟩, ⟨by (with_reducible repeat (first | apply Kd.R_alloc | apply Kd.R_drewN | apply Kd.R_drew)); exact HO121.out⟩, ⟨by repeat (first | (with_reducible first | exact HB.out | apply below_alloc | apply pw_below_drewN | apply below_drew1) | exact HB.out)⟩⟩
              · rw [if_neg c12] at H
                exact absurd H (by simp)
        · replace c4 := Bool.eq_false_iff.mpr c4
          subst c4
          have H1 : (some (x4_1, 0)) = some (r1, r2) := by rw [if_neg (show ¬ (false = true) by decide)] at H; exact H
          clear H
          have H := H1
          clear H1
          simp only [Option.some.injEq, Prod.mk.injEq] at H
          obtain ⟨rfl, rfl⟩ := H
          go_wp2
          go_ret2
          exact ⟨_, by first | rfl | (simp [errW_none, errW_some] <;> rfl) | (simp [*, errW_none, errW_some] <;> rfl), by (with_reducible repeat (first | apply Kd.R_alloc | apply Kd.R_drewN | apply Kd.R_drew)); exact HO_4.out, by repeat (first | (with_reducible first | exact HB.out | apply below_alloc | apply pw_below_drewN | apply below_drew1) | exact HB.out)⟩
  · replace c3 := Bool.eq_false_iff.mpr c3
    subst c3
    have H1 : (some (([] : List (S83)), 23)) = some (r1, r2) := by rw [if_neg (show ¬ (false = true) by decide)] at H; exact H
    clear H
    have H := H1
    clear H1
    simp only [Option.some.injEq, Prod.mk.injEq] at H
    obtain ⟨rfl, rfl⟩ := H
    go_enter Tryd.func26, Tryd.ntmps26
    go_wp2_with (first | ((with_reducible refine gate_callee (f := 53) rfl ?_); refine goesL_ (some 12) rfl rfl Tryd.func53 (by kernel_rfl) rfl #[.string a0] rfl (by (try simp only [List.map_toArray, List.map_cons, List.map_nil]); first | done | rfl | (simp only [List.length_drop, List.length_take]; rfl)) ?_; (with_reducible refine (rQuery.calls a0 false _ A2.out).mono ?_); rintro e w' ⟨rfl, ⟨nd, rfl⟩⟩; refine ⟨_, rfl, ?_⟩))
    go_ret2
    exact ⟨_, by first | rfl | (simp [errW_none, errW_some] <;> rfl) | (simp [*, errW_none, errW_some] <;> rfl), by first | exact Kd.R_nil _ _ _ _ _ | exact Kd.N_nil _ _ _ _ _ | exact Kd.V_nil _ _ _ _ _ | exact Kd.Q_nil _ _ _ _ _ | exact Kd.S_nil _ _ _ _ _, by repeat (first | (with_reducible first | exact HB.out | apply below_alloc | apply pw_below_drewN | apply below_drew1) | exact HB.out)⟩

/-! ### turnstilelaw08_fields: function 28 -/
def turnstilelaw08_fields.l0 : Nat → List (S83) → List (S83) → Int → Option (Bool)
  | 0, _, _, _ => none
  | k + 1, x0, x1, x5 => if x5 < (x0.length : Int) then (if 0 ≤ x5 then (if x5 < (x1.length : Int) then (if (!((((rd_T83 x0 x5).f0).toList) == (((rd_T83 x1 x5).f0).toList)) || (!((((rd_T83 x0 x5).f1).toList) == (((rd_T83 x1 x5).f1).toList)))) = true then (some false) else (turnstilelaw08_fields.l0 k x0 x1 (wrap64 (x5 + 1)))) else (none)) else (none)) else (some true)
def turnstilelaw08_fields.f (k : Nat) (l0 : List (S83)) (l1 : List (S83)) : Option (Bool) := if (l0.length : Int) = (l1.length : Int) then (turnstilelaw08_fields.l0 k l0 l1 0) else (some false)
theorem turnstilelaw08_fields.mono_l : ∀ k, (∀ y0 y1 y2, LeO (turnstilelaw08_fields.l0 k y0 y1 y2) (turnstilelaw08_fields.l0 (k + 1) y0 y1 y2))
  | 0 => fun _ _ _ r h => by simp [turnstilelaw08_fields.l0] at h
  | k + 1 => by
    have ih0 := turnstilelaw08_fields.mono_l k
    · intro y0 y1 y2
      unfold turnstilelaw08_fields.l0
      repeat' first
      | (with_reducible exact ih0 _ _ _)
      | (with_reducible exact LeO.refl _)
      | (with_reducible exact LeO.none _)
      | (with_reducible refine LeO.ite ?_ ?_)
      | (with_reducible refine LeO.bind ?_ (fun _ => ?_))
      | exact ih0 _ _ _
      | exact LeO.none _
      | refine LeO.ite ?_ ?_
      | refine LeO.bind ?_ (fun _ => ?_)
theorem turnstilelaw08_fields.mono : ∀ a0 a1 k, LeO (turnstilelaw08_fields.f k a0 a1) (turnstilelaw08_fields.f (k + 1) a0 a1) := by
  intro a0 a1 k
  have ih0 := turnstilelaw08_fields.mono_l k
  unfold turnstilelaw08_fields.f
  repeat' first
      | (with_reducible exact ih0 _ _ _)
      | (with_reducible exact LeO.refl _)
      | (with_reducible exact LeO.none _)
      | (with_reducible refine LeO.ite ?_ ?_)
      | (with_reducible refine LeO.bind ?_ (fun _ => ?_))
      | exact ih0 _ _ _
      | exact LeO.none _
      | refine LeO.ite ?_ ?_
      | refine LeO.bind ?_ (fun _ => ?_)
set_option maxHeartbeats 8000000 in
set_option maxRecDepth 100000 in
theorem turnstilelaw08_fields.calls (k : Nat) (A0 : Option Addr) (c0 : Nat) (l0 : List (S83)) (A1 : Option Addr) (c1 : Nat) (l1 : List (S83)) (r : Bool) (w : World) (hr0 : Kd.C k83 w A0 l0.length l0) (hc0 : l0.length ≤ c0) (hr1 : Kd.C k83 w A1 l1.length l1) (hc1 : l1.length ≤ c1) (h : turnstilelaw08_fields.f k l0 l1 = some r) :
    Calls Tryd.prog 28 #[.slice A0 l0.length c0, .slice A1 l1.length c1] w fun e w' => e = .returned (.bool r) ∧ Drawn0 w w' := by
  have hu83 := Tryd.underlying83
  have HR0 := Aside0.mk hr0
  have HC0 := Aside0.mk hc0
  clear hr0 hc0
  have HR1 := Aside0.mk hr1
  have HC1 := Aside0.mk hc1
  clear hr1 hc1
  have H : (if (l0.length : Int) = (l1.length : Int) then (turnstilelaw08_fields.l0 k l0 l1 0) else (some false)) = some r := h
  clear h
  by_cases c3 : (l0.length : Int) = (l1.length : Int)
  · rw [if_pos c3] at H
    have c3b0 : ((l0.length : Int) == (l1.length : Int)) = true := beq_iff_eq.mpr c3
    have c3b1 : ((l0.length : Int) != (l1.length : Int)) = false := bne_eq_false_iff_eq.mpr c3
    have c3b2 : (l0.length == l1.length) = true := by first | simpa using c3 | (simp at c3 ⊢; omega)
    clear c3
    have H' := Aside0.mk H
    clear H
    go_enter Tryd.func28, Tryd.ntmps28
    go_wp2
    repeat (go_quiet (fail); try go_wp2)
    go_loopg [5] k (fun kq v5 w' => ∃ (x5_1 : Int), v5 = .int .i64 x5_1 ∧ Aside0 (turnstilelaw08_fields.l0 kq l0 l1 x5_1 = some r) ∧ Aside0 (kq ≤ k) ∧ Drawn0 w w')
    case atStart => exact ⟨(0), (by first | rfl | (simp; done) | (simp [*]; done)), H', ⟨Nat.le_refl _⟩, by repeat (first | exact Drawn0.refl _ | apply Drawn0.step)⟩
    case round =>
      clear H'
      try clear c1
      try clear c2
      try clear p2
      try clear c3
      try clear c3b0
      try clear c3b1
      try clear c3b2
      obtain ⟨x5_1, rfl, HA, HK1, ⟨m1, rfl⟩⟩ := hrel
      cases gk with
      | zero => exact absurd HA.out (by simp [turnstilelaw08_fields.l0])
      | succ k1 =>
        have H := HA.out
        clear HA
        simp only [turnstilelaw08_fields.l0] at H
        by_cases c4 : x5_1 < (l0.length : Int)
        · rw [if_pos c4] at H
          have c4b0 : decide (x5_1 < (l0.length : Int)) = true := decide_eq_true c4
          clear c4
          by_cases c5 : 0 ≤ x5_1
          · rw [if_pos c5] at H
            have c5b0 : decide (0 ≤ x5_1) = true := decide_eq_true c5
            clear c5
            by_cases c6 : x5_1 < (l1.length : Int)
            · rw [if_pos c6] at H
              have c6b0 : decide (x5_1 < (l1.length : Int)) = true := decide_eq_true c6
              clear c6
              by_cases c7 : (!((((rd_T83 l0 x5_1).f0).toList) == (((rd_T83 l1 x5_1).f0).toList)) || (!((((rd_T83 l0 x5_1).f1).toList) == (((rd_T83 l1 x5_1).f1).toList)))) = true
              · rw [if_pos c7] at H
                have c7b0 : (!((((rd_T83 l0 x5_1).f0).toList) == (((rd_T83 l1 x5_1).f0).toList)) || (!((((rd_T83 l0 x5_1).f1).toList) == (((rd_T83 l1 x5_1).f1).toList)))) = true := c7
                (try (have c7b1 : (¬ ((((rd_T83 l0 x5_1).f0).toList) = (((rd_T83 l1 x5_1).f0).toList)) ∨ ¬ ((((rd_T83 l0 x5_1).f1).toList) = (((rd_T83 l1 x5_1).f1).toList))) = True := eq_true (by simpa using c7)))
                clear c7
                obtain rfl := Option.some.inj H
                have p122 : 0 ≤ (x5_1 : Int) := of_decide_eq_true (by first | (with_reducible assumption) | assumption)
                have q122 : x5_1 < (l0.length : Int) := of_decide_eq_true (by first | (with_reducible assumption) | assumption)
                obtain ⟨ad122, e122, hx122_0, hx122_1⟩ := at_T83 HR0.out x5_1 p122 q122
                cases e122
                replace p122 := eq_true p122
                replace q122 := eq_true q122
                have p123 : 0 ≤ (x5_1 : Int) := of_decide_eq_true (by first | (with_reducible assumption) | assumption)
                have q123 : x5_1 < (l1.length : Int) := of_decide_eq_true (by first | (with_reducible assumption) | assumption)
                obtain ⟨ad123, e123, hx123_0, hx123_1⟩ := at_T83 HR1.out x5_1 p123 q123
                cases e123
                replace p123 := eq_true p123
                replace q123 := eq_true q123
                go_wp2
                repeat (go_quiet (fail); try go_wp2)
                go_ret
                exact ⟨by first | rfl | (simp; done) | (simp [*]; done), by repeat (first | exact Drawn0.refl _ | apply Drawn0.step)⟩
              · rw [if_neg c7] at H
                have c7b0 : (!((((rd_T83 l0 x5_1).f0).toList) == (((rd_T83 l1 x5_1).f0).toList)) || (!((((rd_T83 l0 x5_1).f1).toList) == (((rd_T83 l1 x5_1).f1).toList)))) = false := by simpa using c7
                (try (have c7b1 : ¬ (¬ ((((rd_T83 l0 x5_1).f0).toList) = (((rd_T83 l1 x5_1).f0).toList)) ∨ ¬ ((((rd_T83 l0 x5_1).f1).toList) = (((rd_T83 l1 x5_1).f1).toList))) := by simpa using c7))
                clear c7
                have H' := Aside0.mk H
                clear H
                have p122 : 0 ≤ (x5_1 : Int) := of_decide_eq_true (by first | (with_reducible assumption) | assumption)
                have q122 : x5_1 < (l0.length : Int) := of_decide_eq_true (by first | (with_reducible assumption) | assumption)
                obtain ⟨ad122, e122, hx122_0, hx122_1⟩ := at_T83 HR0.out x5_1 p122 q122
                cases e122
                replace p122 := eq_true p122
                replace q122 := eq_true q122
                have p123 : 0 ≤ (x5_1 : Int) := of_decide_eq_true (by first | (with_reducible assumption) | assumption)
                have q123 : x5_1 < (l1.length : Int) := of_decide_eq_true (by first | (with_reducible assumption) | assumption)
                obtain ⟨ad123, e123, hx123_0, hx123_1⟩ := at_T83 HR1.out x5_1 p123 q123
                cases e123
                replace p123 := eq_true p123
                replace q123 := eq_true q123
                go_wp2
                repeat (go_quiet (fail); try go_wp2)
                go_roundg k1
                case measure => have := HK1.out; omega
                case rel => exact ⟨(wrap64 (x5_1 + 1)), (by first | rfl | (simp; done) | (simp [*]; done)), H', ⟨by have := HK1.out; omega⟩, by repeat (first | exact Drawn0.refl _ | apply Drawn0.step)⟩
            · rw [if_neg c6] at H
              exact absurd H (by simp)
          · rw [if_neg c5] at H
            exact absurd H (by simp)
        · rw [if_neg c4] at H
          have c4b0 : decide (x5_1 < (l0.length : Int)) = false := decide_eq_false c4
          clear c4
          obtain rfl := Option.some.inj H
          go_wp2
          repeat (go_quiet (fail); try go_wp2)
          go_ret
          exact ⟨by first | rfl | (simp; done) | (simp [*]; done), by repeat (first | exact Drawn0.refl _ | apply Drawn0.step)⟩
  · rw [if_neg c3] at H
    have c3b0 : ((l0.length : Int) == (l1.length : Int)) = false := beq_eq_false_iff_ne.mpr c3
    have c3b1 : ((l0.length : Int) != (l1.length : Int)) = true := bne_iff_ne.mpr c3
    have c3b2 : (l0.length == l1.length) = false := by first | simpa using c3 | (simp at c3 ⊢; omega)
    obtain rfl := Option.some.inj H
    go_enter Tryd.func28, Tryd.ntmps28
    go_wp2
    repeat (go_quiet (fail); try go_wp2)
    go_ret
    exact ⟨by first | rfl | (simp; done) | (simp [*]; done), by repeat (first | exact Drawn0.refl _ | apply Drawn0.step)⟩

/-! ### turnstilelaw08_TargetCodes: function 9 -/
def turnstilelaw08_TargetCodes.f (k : Nat) (a0 : ByteArray) : Option (Bool) := (pDecode.f a0).bind fun bt124 => ((rDecode.f a0).bind fun bt126 => ((pPairs.f a0).bind fun bt128 => ((turnstileref08_Pairs.f k a0).bind fun bt132 => (if bt124.1.toList = bt126.1.toList then ((turnstilelaw08_num.f bt124.2).bind fun t136 => (if t136 = bt126.2 then ((pEncode.f a0).bind fun t137 => ((rEncode.f a0).bind fun t138 => (if t137.toList = t138.toList then ((turnstilelaw08_fields.f k bt128.1 bt132.1).bind fun t139 => (if t139 = true then ((turnstilelaw08_num.f bt128.2).bind fun t140 => (if t140 = bt132.2 then ((works.f).bind fun t141 => (some t141)) else (some false))) else (some false))) else (some false)))) else (some false))) else (some false)))))
theorem turnstilelaw08_TargetCodes.mono : ∀ a0 k, LeO (turnstilelaw08_TargetCodes.f k a0) (turnstilelaw08_TargetCodes.f (k + 1) a0) := by
  intro a0 k
  unfold turnstilelaw08_TargetCodes.f
  repeat' first
      | (with_reducible exact turnstilelaw08_fields.mono _ _ _)
      | (with_reducible exact turnstileref08_Pairs.mono _ _)
      | (with_reducible exact LeO.refl _)
      | (with_reducible exact LeO.none _)
      | (with_reducible refine LeO.ite ?_ ?_)
      | (with_reducible refine LeO.bind ?_ (fun _ => ?_))
      | exact turnstilelaw08_fields.mono _ _ _
      | exact turnstileref08_Pairs.mono _ _
      | exact LeO.none _
      | refine LeO.ite ?_ ?_
      | refine LeO.bind ?_ (fun _ => ?_)
set_option maxHeartbeats 8000000 in
set_option maxRecDepth 100000 in
theorem turnstilelaw08_TargetCodes.calls (k : Nat) (a0 : ByteArray) (r : Bool) (w : World) (hG : Aside0 (GInv w)) (h : turnstilelaw08_TargetCodes.f k a0 = some r) :
    Calls Tryd.prog 9 #[.string a0] w fun e w' => e = .returned (.bool r) ∧ Below w.heap.size w w' := by
  have HB := Aside0.mk (Below.refl w.heap.size w)
  have H : ((pDecode.f a0).bind fun bt124 => ((rDecode.f a0).bind fun bt126 => ((pPairs.f a0).bind fun bt128 => ((turnstileref08_Pairs.f k a0).bind fun bt132 => (if bt124.1.toList = bt126.1.toList then ((turnstilelaw08_num.f bt124.2).bind fun t136 => (if t136 = bt126.2 then ((pEncode.f a0).bind fun t137 => ((rEncode.f a0).bind fun t138 => (if t137.toList = t138.toList then ((turnstilelaw08_fields.f k bt128.1 bt132.1).bind fun t139 => (if t139 = true then ((turnstilelaw08_num.f bt128.2).bind fun t140 => (if t140 = bt132.2 then ((works.f).bind fun t141 => (some t141)) else (some false))) else (some false))) else (some false)))) else (some false))) else (some false)))))) = some r := h
  clear h
  replace H := Option.bind_eq_some_iff.mp H
  obtain ⟨⟨t124, t125⟩, A20, H⟩ := H
  replace H : ((rDecode.f a0).bind fun bt126 => ((pPairs.f a0).bind fun bt128 => ((turnstileref08_Pairs.f k a0).bind fun bt132 => (if t124.toList = bt126.1.toList then ((turnstilelaw08_num.f t125).bind fun t136 => (if t136 = bt126.2 then ((pEncode.f a0).bind fun t137 => ((rEncode.f a0).bind fun t138 => (if t137.toList = t138.toList then ((turnstilelaw08_fields.f k bt128.1 bt132.1).bind fun t139 => (if t139 = true then ((turnstilelaw08_num.f bt128.2).bind fun t140 => (if t140 = bt132.2 then ((works.f).bind fun t141 => (some t141)) else (some false))) else (some false))) else (some false)))) else (some false))) else (some false))))) = some r := H
  have A2 := Aside0.mk A20
  clear A20
  replace H := Option.bind_eq_some_iff.mp H
  obtain ⟨⟨t126, t127⟩, A30, H⟩ := H
  replace H : ((pPairs.f a0).bind fun bt128 => ((turnstileref08_Pairs.f k a0).bind fun bt132 => (if t124.toList = t126.toList then ((turnstilelaw08_num.f t125).bind fun t136 => (if t136 = t127 then ((pEncode.f a0).bind fun t137 => ((rEncode.f a0).bind fun t138 => (if t137.toList = t138.toList then ((turnstilelaw08_fields.f k bt128.1 bt132.1).bind fun t139 => (if t139 = true then ((turnstilelaw08_num.f bt128.2).bind fun t140 => (if t140 = bt132.2 then ((works.f).bind fun t141 => (some t141)) else (some false))) else (some false))) else (some false)))) else (some false))) else (some false)))) = some r := H
  have A3 := Aside0.mk A30
  clear A30
  replace H := Option.bind_eq_some_iff.mp H
  obtain ⟨⟨t128, t129⟩, A40, H⟩ := H
  replace H : ((turnstileref08_Pairs.f k a0).bind fun bt132 => (if t124.toList = t126.toList then ((turnstilelaw08_num.f t125).bind fun t136 => (if t136 = t127 then ((pEncode.f a0).bind fun t137 => ((rEncode.f a0).bind fun t138 => (if t137.toList = t138.toList then ((turnstilelaw08_fields.f k t128 bt132.1).bind fun t139 => (if t139 = true then ((turnstilelaw08_num.f t129).bind fun t140 => (if t140 = bt132.2 then ((works.f).bind fun t141 => (some t141)) else (some false))) else (some false))) else (some false)))) else (some false))) else (some false))) = some r := H
  have A4 := Aside0.mk A40
  clear A40
  replace H := Option.bind_eq_some_iff.mp H
  obtain ⟨⟨t132, t133⟩, A50, H⟩ := H
  replace H : (if t124.toList = t126.toList then ((turnstilelaw08_num.f t125).bind fun t136 => (if t136 = t127 then ((pEncode.f a0).bind fun t137 => ((rEncode.f a0).bind fun t138 => (if t137.toList = t138.toList then ((turnstilelaw08_fields.f k t128 t132).bind fun t139 => (if t139 = true then ((turnstilelaw08_num.f t129).bind fun t140 => (if t140 = t133 then ((works.f).bind fun t141 => (some t141)) else (some false))) else (some false))) else (some false)))) else (some false))) else (some false)) = some r := H
  have A5 := Aside0.mk A50
  clear A50
  by_cases c6 : t124.toList = t126.toList
  · rw [if_pos c6] at H
    have c6b0 : (t124.toList == t126.toList) = true := beq_iff_eq.mpr c6
    have c6b1 : (t124.toList != t126.toList) = false := bne_eq_false_iff_eq.mpr c6
    clear c6
    replace H := Option.bind_eq_some_iff.mp H
    obtain ⟨t136, A70, H⟩ := H
    replace H : (if t136 = t127 then ((pEncode.f a0).bind fun t137 => ((rEncode.f a0).bind fun t138 => (if t137.toList = t138.toList then ((turnstilelaw08_fields.f k t128 t132).bind fun t139 => (if t139 = true then ((turnstilelaw08_num.f t129).bind fun t140 => (if t140 = t133 then ((works.f).bind fun t141 => (some t141)) else (some false))) else (some false))) else (some false)))) else (some false)) = some r := H
    have A7 := Aside0.mk A70
    clear A70
    by_cases c8 : t136 = t127
    · rw [if_pos c8] at H
      have c8b0 : (t136 == t127) = true := beq_iff_eq.mpr c8
      have c8b1 : (t136 != t127) = false := bne_eq_false_iff_eq.mpr c8
      clear c8
      replace H := Option.bind_eq_some_iff.mp H
      obtain ⟨t137, A90, H⟩ := H
      replace H : ((rEncode.f a0).bind fun t138 => (if t137.toList = t138.toList then ((turnstilelaw08_fields.f k t128 t132).bind fun t139 => (if t139 = true then ((turnstilelaw08_num.f t129).bind fun t140 => (if t140 = t133 then ((works.f).bind fun t141 => (some t141)) else (some false))) else (some false))) else (some false))) = some r := H
      have A9 := Aside0.mk A90
      clear A90
      replace H := Option.bind_eq_some_iff.mp H
      obtain ⟨t138, A100, H⟩ := H
      replace H : (if t137.toList = t138.toList then ((turnstilelaw08_fields.f k t128 t132).bind fun t139 => (if t139 = true then ((turnstilelaw08_num.f t129).bind fun t140 => (if t140 = t133 then ((works.f).bind fun t141 => (some t141)) else (some false))) else (some false))) else (some false)) = some r := H
      have A10 := Aside0.mk A100
      clear A100
      by_cases c11 : t137.toList = t138.toList
      · rw [if_pos c11] at H
        have c11b0 : (t137.toList == t138.toList) = true := beq_iff_eq.mpr c11
        have c11b1 : (t137.toList != t138.toList) = false := bne_eq_false_iff_eq.mpr c11
        clear c11
        replace H := Option.bind_eq_some_iff.mp H
        obtain ⟨t139, A120, H⟩ := H
        replace H : (if t139 = true then ((turnstilelaw08_num.f t129).bind fun t140 => (if t140 = t133 then ((works.f).bind fun t141 => (some t141)) else (some false))) else (some false)) = some r := H
        have A12 := Aside0.mk A120
        clear A120
        by_cases c13 : t139 = true
        · subst c13
          have H1 : ((turnstilelaw08_num.f t129).bind fun t140 => (if t140 = t133 then ((works.f).bind fun t141 => (some t141)) else (some false))) = some r := by rw [if_pos rfl] at H; exact H
          clear H
          have H := H1
          clear H1
          replace H := Option.bind_eq_some_iff.mp H
          obtain ⟨t140, A140, H⟩ := H
          replace H : (if t140 = t133 then ((works.f).bind fun t141 => (some t141)) else (some false)) = some r := H
          have A14 := Aside0.mk A140
          clear A140
          by_cases c15 : t140 = t133
          · rw [if_pos c15] at H
            have c15b0 : (t140 == t133) = true := beq_iff_eq.mpr c15
            have c15b1 : (t140 != t133) = false := bne_eq_false_iff_eq.mpr c15
            clear c15
            replace H := Option.bind_eq_some_iff.mp H
            obtain ⟨t141, A160, H⟩ := H
            replace H : (some t141) = some r := H
            have A16 := Aside0.mk A160
            clear A160
            obtain rfl := Option.some.inj H
            go_enter Tryd.func9, Tryd.ntmps9
            go_wp2_with (first | ((with_reducible refine gate_callee (f := 19) rfl ?_); refine goesL_ (some 13) rfl rfl Tryd.func19 (by kernel_rfl) rfl #[.string a0] rfl (by (try simp only [List.map_toArray, List.map_cons, List.map_nil]); first | done | rfl | (simp only [List.length_drop, List.length_take]; rfl)) ?_; (with_reducible refine (pDecode.calls a0 t124 t125 _ A2.out).mono ?_); rintro e w17 ⟨rfl, hb⟩; refine ⟨_, rfl, ?_⟩; have n0_ := Aside0.mk (below_step (by repeat (first | (with_reducible first | exact HB.out | apply below_alloc | apply pw_below_drewN | apply below_drew1) | exact HB.out)) hb); clear HB; have HB := n0_; clear n0_; (try clear hb); (try clear hb2); (try clear hk); (try clear hi); (try simp only [errW_none, errW_some])) | ((with_reducible refine gate_callee (f := 24) rfl ?_); refine goesL_ (some 18) rfl rfl Tryd.func24 (by kernel_rfl) rfl #[.string a0] rfl (by (try simp only [List.map_toArray, List.map_cons, List.map_nil]); first | done | rfl | (simp only [List.length_drop, List.length_take]; rfl)) ?_; (with_reducible refine (rDecode.calls a0 t126 t127 _ A3.out).mono ?_); rintro e w18 ⟨rfl, hb⟩; refine ⟨_, rfl, ?_⟩; have n0_ := Aside0.mk (below_step (by repeat (first | (with_reducible first | exact HB.out | apply below_alloc | apply pw_below_drewN | apply below_drew1) | exact HB.out)) hb); clear HB; have HB := n0_; clear n0_; (try clear hb); (try clear hb2); (try clear hk); (try clear hi)) | ((with_reducible refine gate_callee (f := 25) rfl ?_); refine goesL_ (some 23) rfl rfl Tryd.func25 (by kernel_rfl) rfl #[.string a0] rfl (by (try simp only [List.map_toArray, List.map_cons, List.map_nil]); first | done | rfl | (simp only [List.length_drop, List.length_take]; rfl)) ?_; (with_reducible refine (pPairs.calls a0 t128 t129 _ ?side1 A4.out).mono ?_); (case side1 => first | exact hG | exact GInv.step hG (by repeat (first | (with_reducible first | exact HB.out | apply below_alloc | apply pw_below_drewN | apply below_drew1) | exact HB.out))); rintro e w19 ⟨v130, rfl, ho0, hb⟩; refine ⟨_, rfl, ?_⟩; have n0_ := Aside0.mk (Kd.R_lower ho0 (below_size (by repeat (first | (with_reducible first | exact HB.out | apply below_alloc | apply pw_below_drewN | apply below_drew1) | exact HB.out)))); have n1_ := Aside0.mk (below_step (by repeat (first | (with_reducible first | exact HB.out | apply below_alloc | apply pw_below_drewN | apply below_drew1) | exact HB.out)) hb); clear HB; have HO131 := n0_; have HB := n1_; clear n0_ n1_; (try clear hb); (try clear hb2); (try clear hk); (try clear hi); (try clear ho0); (try simp only [errW_none, errW_some])) | ((with_reducible refine gate_callee (f := 26) rfl ?_); refine goesL_ (some 28) rfl rfl Tryd.func26 (by kernel_rfl) rfl #[.string a0] rfl (by (try simp only [List.map_toArray, List.map_cons, List.map_nil]); first | done | rfl | (simp only [List.length_drop, List.length_take]; rfl)) ?_; (with_reducible refine (turnstileref08_Pairs.calls k a0 t132 t133 _ A5.out).mono ?_); rintro e w20 ⟨v134, rfl, ho0, hb⟩; refine ⟨_, rfl, ?_⟩; have n0_ := Aside0.mk (Kd.R_elder' (by (with_reducible repeat (first | apply Kd.R_alloc | apply Kd.R_drewN | apply Kd.R_drew)); exact HO131.out) (Kd.R_base ho0) hb); have n1_ := Aside0.mk (Kd.R_lower (Kd.R_new' ho0 (Kd.R_lt (by (with_reducible repeat (first | apply Kd.R_alloc | apply Kd.R_drewN | apply Kd.R_drew)); exact HO131.out))) (below_size (by repeat (first | (with_reducible first | exact HB.out | apply below_alloc | apply pw_below_drewN | apply below_drew1) | exact HB.out)))); have n2_ := Aside0.mk (below_step (by repeat (first | (with_reducible first | exact HB.out | apply below_alloc | apply pw_below_drewN | apply below_drew1) | exact HB.out)) hb); clear HO131; clear HB; have HO131 := n0_; have HO135 := n1_; have HB := n2_; clear n0_ n1_ n2_; (try clear hb); (try clear hb2); (try clear hk); (try clear hi); (try clear ho0); have CA7 := fun W => turnstilelaw08_num.calls t125 t136 W A7.out; try simp only [errW_none, errW_some] at CA7) | (go_at_call 12; (with_reducible refine (CA7 _).mono ?_); rintro e w' ⟨rfl, ⟨nd, rfl⟩⟩) | (go_at_call 23; (with_reducible refine (pEncode.calls a0 t137 _ A9.out).mono ?_); rintro e w21 ⟨rfl, hb⟩; have n0_ := Aside0.mk (Kd.R_below (by (with_reducible repeat (first | apply Kd.R_alloc | apply Kd.R_drewN | apply Kd.R_drew)); exact HO131.out) hb); have n1_ := Aside0.mk (Kd.R_below (by (with_reducible repeat (first | apply Kd.R_alloc | apply Kd.R_drewN | apply Kd.R_drew)); exact HO135.out) hb); have n2_ := Aside0.mk (below_step (by repeat (first | (with_reducible first | exact HB.out | apply below_alloc | apply pw_below_drewN | apply below_drew1) | exact HB.out)) hb); clear HO131; clear HO135; clear HB; have HO131 := n0_; have HO135 := n1_; have HB := n2_; clear n0_ n1_ n2_; (try clear hb); (try clear hb2); (try clear hk); (try clear hi)) | (go_at_call 27; (with_reducible refine (rEncode.calls a0 t138 _ A10.out).mono ?_); rintro e w22 ⟨rfl, hb⟩; have n0_ := Aside0.mk (Kd.R_below (by (with_reducible repeat (first | apply Kd.R_alloc | apply Kd.R_drewN | apply Kd.R_drew)); exact HO131.out) hb); have n1_ := Aside0.mk (Kd.R_below (by (with_reducible repeat (first | apply Kd.R_alloc | apply Kd.R_drewN | apply Kd.R_drew)); exact HO135.out) hb); have n2_ := Aside0.mk (below_step (by repeat (first | (with_reducible first | exact HB.out | apply below_alloc | apply pw_below_drewN | apply below_drew1) | exact HB.out)) hb); clear HO131; clear HO135; clear HB; have HO131 := n0_; have HO135 := n1_; have HB := n2_; clear n0_ n1_ n2_; (try clear hb); (try clear hb2); (try clear hk); (try clear hi); obtain ⟨Ao23, co23, eo23⟩ := Kd.R_slice HO131.out; subst eo23; obtain ⟨Ao24, co24, eo24⟩ := Kd.R_slice HO135.out; subst eo24) | (go_at_call 28; (with_reducible refine (turnstilelaw08_fields.calls k _ _ t128 _ _ t132 true _ ?side1 ?side2 ?side3 ?side4 A12.out).mono ?_); (case side1 => repeat (first | exact (Kd.R_reads' HO131.out).2.2 | (with_reducible refine Kd.C_alloc ?_ _) | (with_reducible refine Kd.C_drewN ?_ _) | (with_reducible refine Kd.C_drew ?_))); (case side2 => exact (Kd.R_reads' HO131.out).2.1); (case side3 => repeat (first | exact (Kd.R_reads' HO135.out).2.2 | (with_reducible refine Kd.C_alloc ?_ _) | (with_reducible refine Kd.C_drewN ?_ _) | (with_reducible refine Kd.C_drew ?_))); (case side4 => exact (Kd.R_reads' HO135.out).2.1); rintro e w' ⟨rfl, ⟨nd, rfl⟩⟩; have CA14 := fun W => turnstilelaw08_num.calls t129 t140 W A14.out; try simp only [errW_none, errW_some] at CA14) | (go_at_call 12; (with_reducible refine (CA14 _).mono ?_); rintro e w' ⟨rfl, ⟨nd, rfl⟩⟩) | (go_at_call 13; (with_reducible refine (works.calls  t141 _ ?side1 A16.out).mono ?_); (case side1 => first | exact hG | exact GInv.step hG (by repeat (first | (with_reducible first | exact HB.out | apply below_alloc | apply pw_below_drewN | apply below_drew1) | exact HB.out))); rintro e w25 ⟨rfl, hb⟩; have n0_ := Aside0.mk (Kd.R_below (by (with_reducible repeat (first | apply Kd.R_alloc | apply Kd.R_drewN | apply Kd.R_drew)); exact HO131.out) hb); have n1_ := Aside0.mk (Kd.R_below (by (with_reducible repeat (first | apply Kd.R_alloc | apply Kd.R_drewN | apply Kd.R_drew)); exact HO135.out) hb); have n2_ := Aside0.mk (below_step (by repeat (first | (with_reducible first | exact HB.out | apply below_alloc | apply pw_below_drewN | apply below_drew1) | exact HB.out)) hb); clear HO131; clear HO135; clear HB; have HO131 := n0_; have HO135 := n1_; have HB := n2_; clear n0_ n1_ n2_; (try clear hb); (try clear hb2); (try clear hk); (try clear hi)))
            go_ret
            exact ⟨by first | rfl | (simp [errW_none, errW_some] <;> rfl) | (simp [*, errW_none, errW_some] <;> rfl), by repeat (first | (with_reducible first | exact HB.out | apply below_alloc | apply pw_below_drewN | apply below_drew1) | exact HB.out)⟩
          · rw [if_neg c15] at H
            have c15b0 : (t140 == t133) = false := beq_eq_false_iff_ne.mpr c15
            have c15b1 : (t140 != t133) = true := bne_iff_ne.mpr c15
            obtain rfl := Option.some.inj H
            go_enter Tryd.func9, Tryd.ntmps9
            go_wp2_with (first | ((with_reducible refine gate_callee (f := 19) rfl ?_); refine goesL_ (some 13) rfl rfl Tryd.func19 (by kernel_rfl) rfl #[.string a0] rfl (by (try simp only [List.map_toArray, List.map_cons, List.map_nil]); first | done | rfl | (simp only [List.length_drop, List.length_take]; rfl)) ?_; (with_reducible refine (pDecode.calls a0 t124 t125 _ A2.out).mono ?_); rintro e w26 ⟨rfl, hb⟩; refine ⟨_, rfl, ?_⟩; have n0_ := Aside0.mk (below_step (by repeat (first | (with_reducible first | exact HB.out | apply below_alloc | apply pw_below_drewN | apply below_drew1) | exact HB.out)) hb); clear HB; have HB := n0_; clear n0_; (try clear hb); (try clear hb2); (try clear hk); (try clear hi); (try simp only [errW_none, errW_some])) | ((with_reducible refine gate_callee (f := 24) rfl ?_); refine goesL_ (some 18) rfl rfl Tryd.func24 (by kernel_rfl) rfl #[.string a0] rfl (by (try simp only [List.map_toArray, List.map_cons, List.map_nil]); first | done | rfl | (simp only [List.length_drop, List.length_take]; rfl)) ?_; (with_reducible refine (rDecode.calls a0 t126 t127 _ A3.out).mono ?_); rintro e w27 ⟨rfl, hb⟩; refine ⟨_, rfl, ?_⟩; have n0_ := Aside0.mk (below_step (by repeat (first | (with_reducible first | exact HB.out | apply below_alloc | apply pw_below_drewN | apply below_drew1) | exact HB.out)) hb); clear HB; have HB := n0_; clear n0_; (try clear hb); (try clear hb2); (try clear hk); (try clear hi)) | ((with_reducible refine gate_callee (f := 25) rfl ?_); refine goesL_ (some 23) rfl rfl Tryd.func25 (by kernel_rfl) rfl #[.string a0] rfl (by (try simp only [List.map_toArray, List.map_cons, List.map_nil]); first | done | rfl | (simp only [List.length_drop, List.length_take]; rfl)) ?_; (with_reducible refine (pPairs.calls a0 t128 t129 _ ?side1 A4.out).mono ?_); (case side1 => first | exact hG | exact GInv.step hG (by repeat (first | (with_reducible first | exact HB.out | apply below_alloc | apply pw_below_drewN | apply below_drew1) | exact HB.out))); rintro e w28 ⟨v130, rfl, ho0, hb⟩; refine ⟨_, rfl, ?_⟩; have n0_ := Aside0.mk (Kd.R_lower ho0 (below_size (by repeat (first | (with_reducible first | exact HB.out | apply below_alloc | apply pw_below_drewN | apply below_drew1) | exact HB.out)))); have n1_ := Aside0.mk (below_step (by repeat (first | (with_reducible first | exact HB.out | apply below_alloc | apply pw_below_drewN | apply below_drew1) | exact HB.out)) hb); clear HB; have HO131 := n0_; have HB := n1_; clear n0_ n1_; (try clear hb); (try clear hb2); (try clear hk); (try clear hi); (try clear ho0); (try simp only [errW_none, errW_some])) | ((with_reducible refine gate_callee (f := 26) rfl ?_); refine goesL_ (some 28) rfl rfl Tryd.func26 (by kernel_rfl) rfl #[.string a0] rfl (by (try simp only [List.map_toArray, List.map_cons, List.map_nil]); first | done | rfl | (simp only [List.length_drop, List.length_take]; rfl)) ?_; (with_reducible refine (turnstileref08_Pairs.calls k a0 t132 t133 _ A5.out).mono ?_); rintro e w29 ⟨v134, rfl, ho0, hb⟩; refine ⟨_, rfl, ?_⟩; have n0_ := Aside0.mk (Kd.R_elder' (by (with_reducible repeat (first | apply Kd.R_alloc | apply Kd.R_drewN | apply Kd.R_drew)); exact HO131.out) (Kd.R_base ho0) hb); have n1_ := Aside0.mk (Kd.R_lower (Kd.R_new' ho0 (Kd.R_lt (by (with_reducible repeat (first | apply Kd.R_alloc | apply Kd.R_drewN | apply Kd.R_drew)); exact HO131.out))) (below_size (by repeat (first | (with_reducible first | exact HB.out | apply below_alloc | apply pw_below_drewN | apply below_drew1) | exact HB.out)))); have n2_ := Aside0.mk (below_step (by repeat (first | (with_reducible first | exact HB.out | apply below_alloc | apply pw_below_drewN | apply below_drew1) | exact HB.out)) hb); clear HO131; clear HB; have HO131 := n0_; have HO135 := n1_; have HB := n2_; clear n0_ n1_ n2_; (try clear hb); (try clear hb2); (try clear hk); (try clear hi); (try clear ho0); have CA7 := fun W => turnstilelaw08_num.calls t125 t136 W A7.out; try simp only [errW_none, errW_some] at CA7) | (go_at_call 12; (with_reducible refine (CA7 _).mono ?_); rintro e w' ⟨rfl, ⟨nd, rfl⟩⟩) | (go_at_call 23; (with_reducible refine (pEncode.calls a0 t137 _ A9.out).mono ?_); rintro e w30 ⟨rfl, hb⟩; have n0_ := Aside0.mk (Kd.R_below (by (with_reducible repeat (first | apply Kd.R_alloc | apply Kd.R_drewN | apply Kd.R_drew)); exact HO131.out) hb); have n1_ := Aside0.mk (Kd.R_below (by (with_reducible repeat (first | apply Kd.R_alloc | apply Kd.R_drewN | apply Kd.R_drew)); exact HO135.out) hb); have n2_ := Aside0.mk (below_step (by repeat (first | (with_reducible first | exact HB.out | apply below_alloc | apply pw_below_drewN | apply below_drew1) | exact HB.out)) hb); clear HO131; clear HO135; clear HB; have HO131 := n0_; have HO135 := n1_; have HB := n2_; clear n0_ n1_ n2_; (try clear hb); (try clear hb2); (try clear hk); (try clear hi)) | (go_at_call 27; (with_reducible refine (rEncode.calls a0 t138 _ A10.out).mono ?_); rintro e w31 ⟨rfl, hb⟩; have n0_ := Aside0.mk (Kd.R_below (by (with_reducible repeat (first | apply Kd.R_alloc | apply Kd.R_drewN | apply Kd.R_drew)); exact HO131.out) hb); have n1_ := Aside0.mk (Kd.R_below (by (with_reducible repeat (first | apply Kd.R_alloc | apply Kd.R_drewN | apply Kd.R_drew)); exact HO135.out) hb); have n2_ := Aside0.mk (below_step (by repeat (first | (with_reducible first | exact HB.out | apply below_alloc | apply pw_below_drewN | apply below_drew1) | exact HB.out)) hb); clear HO131; clear HO135; clear HB; have HO131 := n0_; have HO135 := n1_; have HB := n2_; clear n0_ n1_ n2_; (try clear hb); (try clear hb2); (try clear hk); (try clear hi); obtain ⟨Ao32, co32, eo32⟩ := Kd.R_slice HO131.out; subst eo32; obtain ⟨Ao33, co33, eo33⟩ := Kd.R_slice HO135.out; subst eo33) | (go_at_call 28; (with_reducible refine (turnstilelaw08_fields.calls k _ _ t128 _ _ t132 true _ ?side1 ?side2 ?side3 ?side4 A12.out).mono ?_); (case side1 => repeat (first | exact (Kd.R_reads' HO131.out).2.2 | (with_reducible refine Kd.C_alloc ?_ _) | (with_reducible refine Kd.C_drewN ?_ _) | (with_reducible refine Kd.C_drew ?_))); (case side2 => exact (Kd.R_reads' HO131.out).2.1); (case side3 => repeat (first | exact (Kd.R_reads' HO135.out).2.2 | (with_reducible refine Kd.C_alloc ?_ _) | (with_reducible refine Kd.C_drewN ?_ _) | (with_reducible refine Kd.C_drew ?_))); (case side4 => exact (Kd.R_reads' HO135.out).2.1); rintro e w' ⟨rfl, ⟨nd, rfl⟩⟩; have CA14 := fun W => turnstilelaw08_num.calls t129 t140 W A14.out; try simp only [errW_none, errW_some] at CA14) | (go_at_call 12; (with_reducible refine (CA14 _).mono ?_); rintro e w' ⟨rfl, ⟨nd, rfl⟩⟩))
            go_ret
            exact ⟨by first | rfl | (simp [errW_none, errW_some] <;> rfl) | (simp [*, errW_none, errW_some] <;> rfl), by repeat (first | (with_reducible first | exact HB.out | apply below_alloc | apply pw_below_drewN | apply below_drew1) | exact HB.out)⟩
        · replace c13 := Bool.eq_false_iff.mpr c13
          subst c13
          have H1 : (some false) = some r := by rw [if_neg (show ¬ (false = true) by decide)] at H; exact H
          clear H
          have H := H1
          clear H1
          obtain rfl := Option.some.inj H
          go_enter Tryd.func9, Tryd.ntmps9
          go_wp2_with (first | ((with_reducible refine gate_callee (f := 19) rfl ?_); refine goesL_ (some 13) rfl rfl Tryd.func19 (by kernel_rfl) rfl #[.string a0] rfl (by (try simp only [List.map_toArray, List.map_cons, List.map_nil]); first | done | rfl | (simp only [List.length_drop, List.length_take]; rfl)) ?_; (with_reducible refine (pDecode.calls a0 t124 t125 _ A2.out).mono ?_); rintro e w34 ⟨rfl, hb⟩; refine ⟨_, rfl, ?_⟩; have n0_ := Aside0.mk (below_step (by repeat (first | (with_reducible first | exact HB.out | apply below_alloc | apply pw_below_drewN | apply below_drew1) | exact HB.out)) hb); clear HB; have HB := n0_; clear n0_; (try clear hb); (try clear hb2); (try clear hk); (try clear hi); (try simp only [errW_none, errW_some])) | ((with_reducible refine gate_callee (f := 24) rfl ?_); refine goesL_ (some 18) rfl rfl Tryd.func24 (by kernel_rfl) rfl #[.string a0] rfl (by (try simp only [List.map_toArray, List.map_cons, List.map_nil]); first | done | rfl | (simp only [List.length_drop, List.length_take]; rfl)) ?_; (with_reducible refine (rDecode.calls a0 t126 t127 _ A3.out).mono ?_); rintro e w35 ⟨rfl, hb⟩; refine ⟨_, rfl, ?_⟩; have n0_ := Aside0.mk (below_step (by repeat (first | (with_reducible first | exact HB.out | apply below_alloc | apply pw_below_drewN | apply below_drew1) | exact HB.out)) hb); clear HB; have HB := n0_; clear n0_; (try clear hb); (try clear hb2); (try clear hk); (try clear hi)) | ((with_reducible refine gate_callee (f := 25) rfl ?_); refine goesL_ (some 23) rfl rfl Tryd.func25 (by kernel_rfl) rfl #[.string a0] rfl (by (try simp only [List.map_toArray, List.map_cons, List.map_nil]); first | done | rfl | (simp only [List.length_drop, List.length_take]; rfl)) ?_; (with_reducible refine (pPairs.calls a0 t128 t129 _ ?side1 A4.out).mono ?_); (case side1 => first | exact hG | exact GInv.step hG (by repeat (first | (with_reducible first | exact HB.out | apply below_alloc | apply pw_below_drewN | apply below_drew1) | exact HB.out))); rintro e w36 ⟨v130, rfl, ho0, hb⟩; refine ⟨_, rfl, ?_⟩; have n0_ := Aside0.mk (Kd.R_lower ho0 (below_size (by repeat (first | (with_reducible first | exact HB.out | apply below_alloc | apply pw_below_drewN | apply below_drew1) | exact HB.out)))); have n1_ := Aside0.mk (below_step (by repeat (first | (with_reducible first | exact HB.out | apply below_alloc | apply pw_below_drewN | apply below_drew1) | exact HB.out)) hb); clear HB; have HO131 := n0_; have HB := n1_; clear n0_ n1_; (try clear hb); (try clear hb2); (try clear hk); (try clear hi); (try clear ho0); (try simp only [errW_none, errW_some])) | ((with_reducible refine gate_callee (f := 26) rfl ?_); refine goesL_ (some 28) rfl rfl Tryd.func26 (by kernel_rfl) rfl #[.string a0] rfl (by (try simp only [List.map_toArray, List.map_cons, List.map_nil]); first | done | rfl | (simp only [List.length_drop, List.length_take]; rfl)) ?_; (with_reducible refine (turnstileref08_Pairs.calls k a0 t132 t133 _ A5.out).mono ?_); rintro e w37 ⟨v134, rfl, ho0, hb⟩; refine ⟨_, rfl, ?_⟩; have n0_ := Aside0.mk (Kd.R_elder' (by (with_reducible repeat (first | apply Kd.R_alloc | apply Kd.R_drewN | apply Kd.R_drew)); exact HO131.out) (Kd.R_base ho0) hb); have n1_ := Aside0.mk (Kd.R_lower (Kd.R_new' ho0 (Kd.R_lt (by (with_reducible repeat (first | apply Kd.R_alloc | apply Kd.R_drewN | apply Kd.R_drew)); exact HO131.out))) (below_size (by repeat (first | (with_reducible first | exact HB.out | apply below_alloc | apply pw_below_drewN | apply below_drew1) | exact HB.out)))); have n2_ := Aside0.mk (below_step (by repeat (first | (with_reducible first | exact HB.out | apply below_alloc | apply pw_below_drewN | apply below_drew1) | exact HB.out)) hb); clear HO131; clear HB; have HO131 := n0_; have HO135 := n1_; have HB := n2_; clear n0_ n1_ n2_; (try clear hb); (try clear hb2); (try clear hk); (try clear hi); (try clear ho0); have CA7 := fun W => turnstilelaw08_num.calls t125 t136 W A7.out; try simp only [errW_none, errW_some] at CA7) | (go_at_call 12; (with_reducible refine (CA7 _).mono ?_); rintro e w' ⟨rfl, ⟨nd, rfl⟩⟩) | (go_at_call 23; (with_reducible refine (pEncode.calls a0 t137 _ A9.out).mono ?_); rintro e w38 ⟨rfl, hb⟩; have n0_ := Aside0.mk (Kd.R_below (by (with_reducible repeat (first | apply Kd.R_alloc | apply Kd.R_drewN | apply Kd.R_drew)); exact HO131.out) hb); have n1_ := Aside0.mk (Kd.R_below (by (with_reducible repeat (first | apply Kd.R_alloc | apply Kd.R_drewN | apply Kd.R_drew)); exact HO135.out) hb); have n2_ := Aside0.mk (below_step (by repeat (first | (with_reducible first | exact HB.out | apply below_alloc | apply pw_below_drewN | apply below_drew1) | exact HB.out)) hb); clear HO131; clear HO135; clear HB; have HO131 := n0_; have HO135 := n1_; have HB := n2_; clear n0_ n1_ n2_; (try clear hb); (try clear hb2); (try clear hk); (try clear hi)) | (go_at_call 27; (with_reducible refine (rEncode.calls a0 t138 _ A10.out).mono ?_); rintro e w39 ⟨rfl, hb⟩; have n0_ := Aside0.mk (Kd.R_below (by (with_reducible repeat (first | apply Kd.R_alloc | apply Kd.R_drewN | apply Kd.R_drew)); exact HO131.out) hb); have n1_ := Aside0.mk (Kd.R_below (by (with_reducible repeat (first | apply Kd.R_alloc | apply Kd.R_drewN | apply Kd.R_drew)); exact HO135.out) hb); have n2_ := Aside0.mk (below_step (by repeat (first | (with_reducible first | exact HB.out | apply below_alloc | apply pw_below_drewN | apply below_drew1) | exact HB.out)) hb); clear HO131; clear HO135; clear HB; have HO131 := n0_; have HO135 := n1_; have HB := n2_; clear n0_ n1_ n2_; (try clear hb); (try clear hb2); (try clear hk); (try clear hi); obtain ⟨Ao40, co40, eo40⟩ := Kd.R_slice HO131.out; subst eo40; obtain ⟨Ao41, co41, eo41⟩ := Kd.R_slice HO135.out; subst eo41) | (go_at_call 28; (with_reducible refine (turnstilelaw08_fields.calls k _ _ t128 _ _ t132 false _ ?side1 ?side2 ?side3 ?side4 A12.out).mono ?_); (case side1 => repeat (first | exact (Kd.R_reads' HO131.out).2.2 | (with_reducible refine Kd.C_alloc ?_ _) | (with_reducible refine Kd.C_drewN ?_ _) | (with_reducible refine Kd.C_drew ?_))); (case side2 => exact (Kd.R_reads' HO131.out).2.1); (case side3 => repeat (first | exact (Kd.R_reads' HO135.out).2.2 | (with_reducible refine Kd.C_alloc ?_ _) | (with_reducible refine Kd.C_drewN ?_ _) | (with_reducible refine Kd.C_drew ?_))); (case side4 => exact (Kd.R_reads' HO135.out).2.1); rintro e w' ⟨rfl, ⟨nd, rfl⟩⟩))
          go_ret
          exact ⟨by first | rfl | (simp [errW_none, errW_some] <;> rfl) | (simp [*, errW_none, errW_some] <;> rfl), by repeat (first | (with_reducible first | exact HB.out | apply below_alloc | apply pw_below_drewN | apply below_drew1) | exact HB.out)⟩
      · rw [if_neg c11] at H
        have c11b0 : (t137.toList == t138.toList) = false := beq_eq_false_iff_ne.mpr c11
        have c11b1 : (t137.toList != t138.toList) = true := bne_iff_ne.mpr c11
        obtain rfl := Option.some.inj H
        go_enter Tryd.func9, Tryd.ntmps9
        go_wp2_with (first | ((with_reducible refine gate_callee (f := 19) rfl ?_); refine goesL_ (some 13) rfl rfl Tryd.func19 (by kernel_rfl) rfl #[.string a0] rfl (by (try simp only [List.map_toArray, List.map_cons, List.map_nil]); first | done | rfl | (simp only [List.length_drop, List.length_take]; rfl)) ?_; (with_reducible refine (pDecode.calls a0 t124 t125 _ A2.out).mono ?_); rintro e w42 ⟨rfl, hb⟩; refine ⟨_, rfl, ?_⟩; have n0_ := Aside0.mk (below_step (by repeat (first | (with_reducible first | exact HB.out | apply below_alloc | apply pw_below_drewN | apply below_drew1) | exact HB.out)) hb); clear HB; have HB := n0_; clear n0_; (try clear hb); (try clear hb2); (try clear hk); (try clear hi); (try simp only [errW_none, errW_some])) | ((with_reducible refine gate_callee (f := 24) rfl ?_); refine goesL_ (some 18) rfl rfl Tryd.func24 (by kernel_rfl) rfl #[.string a0] rfl (by (try simp only [List.map_toArray, List.map_cons, List.map_nil]); first | done | rfl | (simp only [List.length_drop, List.length_take]; rfl)) ?_; (with_reducible refine (rDecode.calls a0 t126 t127 _ A3.out).mono ?_); rintro e w43 ⟨rfl, hb⟩; refine ⟨_, rfl, ?_⟩; have n0_ := Aside0.mk (below_step (by repeat (first | (with_reducible first | exact HB.out | apply below_alloc | apply pw_below_drewN | apply below_drew1) | exact HB.out)) hb); clear HB; have HB := n0_; clear n0_; (try clear hb); (try clear hb2); (try clear hk); (try clear hi)) | ((with_reducible refine gate_callee (f := 25) rfl ?_); refine goesL_ (some 23) rfl rfl Tryd.func25 (by kernel_rfl) rfl #[.string a0] rfl (by (try simp only [List.map_toArray, List.map_cons, List.map_nil]); first | done | rfl | (simp only [List.length_drop, List.length_take]; rfl)) ?_; (with_reducible refine (pPairs.calls a0 t128 t129 _ ?side1 A4.out).mono ?_); (case side1 => first | exact hG | exact GInv.step hG (by repeat (first | (with_reducible first | exact HB.out | apply below_alloc | apply pw_below_drewN | apply below_drew1) | exact HB.out))); rintro e w44 ⟨v130, rfl, ho0, hb⟩; refine ⟨_, rfl, ?_⟩; have n0_ := Aside0.mk (Kd.R_lower ho0 (below_size (by repeat (first | (with_reducible first | exact HB.out | apply below_alloc | apply pw_below_drewN | apply below_drew1) | exact HB.out)))); have n1_ := Aside0.mk (below_step (by repeat (first | (with_reducible first | exact HB.out | apply below_alloc | apply pw_below_drewN | apply below_drew1) | exact HB.out)) hb); clear HB; have HO131 := n0_; have HB := n1_; clear n0_ n1_; (try clear hb); (try clear hb2); (try clear hk); (try clear hi); (try clear ho0); (try simp only [errW_none, errW_some])) | ((with_reducible refine gate_callee (f := 26) rfl ?_); refine goesL_ (some 28) rfl rfl Tryd.func26 (by kernel_rfl) rfl #[.string a0] rfl (by (try simp only [List.map_toArray, List.map_cons, List.map_nil]); first | done | rfl | (simp only [List.length_drop, List.length_take]; rfl)) ?_; (with_reducible refine (turnstileref08_Pairs.calls k a0 t132 t133 _ A5.out).mono ?_); rintro e w45 ⟨v134, rfl, ho0, hb⟩; refine ⟨_, rfl, ?_⟩; have n0_ := Aside0.mk (Kd.R_elder' (by (with_reducible repeat (first | apply Kd.R_alloc | apply Kd.R_drewN | apply Kd.R_drew)); exact HO131.out) (Kd.R_base ho0) hb); have n1_ := Aside0.mk (Kd.R_lower (Kd.R_new' ho0 (Kd.R_lt (by (with_reducible repeat (first | apply Kd.R_alloc | apply Kd.R_drewN | apply Kd.R_drew)); exact HO131.out))) (below_size (by repeat (first | (with_reducible first | exact HB.out | apply below_alloc | apply pw_below_drewN | apply below_drew1) | exact HB.out)))); have n2_ := Aside0.mk (below_step (by repeat (first | (with_reducible first | exact HB.out | apply below_alloc | apply pw_below_drewN | apply below_drew1) | exact HB.out)) hb); clear HO131; clear HB; have HO131 := n0_; have HO135 := n1_; have HB := n2_; clear n0_ n1_ n2_; (try clear hb); (try clear hb2); (try clear hk); (try clear hi); (try clear ho0); have CA7 := fun W => turnstilelaw08_num.calls t125 t136 W A7.out; try simp only [errW_none, errW_some] at CA7) | (go_at_call 12; (with_reducible refine (CA7 _).mono ?_); rintro e w' ⟨rfl, ⟨nd, rfl⟩⟩) | (go_at_call 23; (with_reducible refine (pEncode.calls a0 t137 _ A9.out).mono ?_); rintro e w46 ⟨rfl, hb⟩; have n0_ := Aside0.mk (Kd.R_below (by (with_reducible repeat (first | apply Kd.R_alloc | apply Kd.R_drewN | apply Kd.R_drew)); exact HO131.out) hb); have n1_ := Aside0.mk (Kd.R_below (by (with_reducible repeat (first | apply Kd.R_alloc | apply Kd.R_drewN | apply Kd.R_drew)); exact HO135.out) hb); have n2_ := Aside0.mk (below_step (by repeat (first | (with_reducible first | exact HB.out | apply below_alloc | apply pw_below_drewN | apply below_drew1) | exact HB.out)) hb); clear HO131; clear HO135; clear HB; have HO131 := n0_; have HO135 := n1_; have HB := n2_; clear n0_ n1_ n2_; (try clear hb); (try clear hb2); (try clear hk); (try clear hi)) | (go_at_call 27; (with_reducible refine (rEncode.calls a0 t138 _ A10.out).mono ?_); rintro e w47 ⟨rfl, hb⟩; have n0_ := Aside0.mk (Kd.R_below (by (with_reducible repeat (first | apply Kd.R_alloc | apply Kd.R_drewN | apply Kd.R_drew)); exact HO131.out) hb); have n1_ := Aside0.mk (Kd.R_below (by (with_reducible repeat (first | apply Kd.R_alloc | apply Kd.R_drewN | apply Kd.R_drew)); exact HO135.out) hb); have n2_ := Aside0.mk (below_step (by repeat (first | (with_reducible first | exact HB.out | apply below_alloc | apply pw_below_drewN | apply below_drew1) | exact HB.out)) hb); clear HO131; clear HO135; clear HB; have HO131 := n0_; have HO135 := n1_; have HB := n2_; clear n0_ n1_ n2_; (try clear hb); (try clear hb2); (try clear hk); (try clear hi)))
        go_ret
        exact ⟨by first | rfl | (simp [errW_none, errW_some] <;> rfl) | (simp [*, errW_none, errW_some] <;> rfl), by repeat (first | (with_reducible first | exact HB.out | apply below_alloc | apply pw_below_drewN | apply below_drew1) | exact HB.out)⟩
    · rw [if_neg c8] at H
      have c8b0 : (t136 == t127) = false := beq_eq_false_iff_ne.mpr c8
      have c8b1 : (t136 != t127) = true := bne_iff_ne.mpr c8
      obtain rfl := Option.some.inj H
      go_enter Tryd.func9, Tryd.ntmps9
      go_wp2_with (first | ((with_reducible refine gate_callee (f := 19) rfl ?_); refine goesL_ (some 13) rfl rfl Tryd.func19 (by kernel_rfl) rfl #[.string a0] rfl (by (try simp only [List.map_toArray, List.map_cons, List.map_nil]); first | done | rfl | (simp only [List.length_drop, List.length_take]; rfl)) ?_; (with_reducible refine (pDecode.calls a0 t124 t125 _ A2.out).mono ?_); rintro e w48 ⟨rfl, hb⟩; refine ⟨_, rfl, ?_⟩; have n0_ := Aside0.mk (below_step (by repeat (first | (with_reducible first | exact HB.out | apply below_alloc | apply pw_below_drewN | apply below_drew1) | exact HB.out)) hb); clear HB; have HB := n0_; clear n0_; (try clear hb); (try clear hb2); (try clear hk); (try clear hi); (try simp only [errW_none, errW_some])) | ((with_reducible refine gate_callee (f := 24) rfl ?_); refine goesL_ (some 18) rfl rfl Tryd.func24 (by kernel_rfl) rfl #[.string a0] rfl (by (try simp only [List.map_toArray, List.map_cons, List.map_nil]); first | done | rfl | (simp only [List.length_drop, List.length_take]; rfl)) ?_; (with_reducible refine (rDecode.calls a0 t126 t127 _ A3.out).mono ?_); rintro e w49 ⟨rfl, hb⟩; refine ⟨_, rfl, ?_⟩; have n0_ := Aside0.mk (below_step (by repeat (first | (with_reducible first | exact HB.out | apply below_alloc | apply pw_below_drewN | apply below_drew1) | exact HB.out)) hb); clear HB; have HB := n0_; clear n0_; (try clear hb); (try clear hb2); (try clear hk); (try clear hi)) | ((with_reducible refine gate_callee (f := 25) rfl ?_); refine goesL_ (some 23) rfl rfl Tryd.func25 (by kernel_rfl) rfl #[.string a0] rfl (by (try simp only [List.map_toArray, List.map_cons, List.map_nil]); first | done | rfl | (simp only [List.length_drop, List.length_take]; rfl)) ?_; (with_reducible refine (pPairs.calls a0 t128 t129 _ ?side1 A4.out).mono ?_); (case side1 => first | exact hG | exact GInv.step hG (by repeat (first | (with_reducible first | exact HB.out | apply below_alloc | apply pw_below_drewN | apply below_drew1) | exact HB.out))); rintro e w50 ⟨v130, rfl, ho0, hb⟩; refine ⟨_, rfl, ?_⟩; have n0_ := Aside0.mk (Kd.R_lower ho0 (below_size (by repeat (first | (with_reducible first | exact HB.out | apply below_alloc | apply pw_below_drewN | apply below_drew1) | exact HB.out)))); have n1_ := Aside0.mk (below_step (by repeat (first | (with_reducible first | exact HB.out | apply below_alloc | apply pw_below_drewN | apply below_drew1) | exact HB.out)) hb); clear HB; have HO131 := n0_; have HB := n1_; clear n0_ n1_; (try clear hb); (try clear hb2); (try clear hk); (try clear hi); (try clear ho0); (try simp only [errW_none, errW_some])) | ((with_reducible refine gate_callee (f := 26) rfl ?_); refine goesL_ (some 28) rfl rfl Tryd.func26 (by kernel_rfl) rfl #[.string a0] rfl (by (try simp only [List.map_toArray, List.map_cons, List.map_nil]); first | done | rfl | (simp only [List.length_drop, List.length_take]; rfl)) ?_; (with_reducible refine (turnstileref08_Pairs.calls k a0 t132 t133 _ A5.out).mono ?_); rintro e w51 ⟨v134, rfl, ho0, hb⟩; refine ⟨_, rfl, ?_⟩; have n0_ := Aside0.mk (Kd.R_elder' (by (with_reducible repeat (first | apply Kd.R_alloc | apply Kd.R_drewN | apply Kd.R_drew)); exact HO131.out) (Kd.R_base ho0) hb); have n1_ := Aside0.mk (Kd.R_lower (Kd.R_new' ho0 (Kd.R_lt (by (with_reducible repeat (first | apply Kd.R_alloc | apply Kd.R_drewN | apply Kd.R_drew)); exact HO131.out))) (below_size (by repeat (first | (with_reducible first | exact HB.out | apply below_alloc | apply pw_below_drewN | apply below_drew1) | exact HB.out)))); have n2_ := Aside0.mk (below_step (by repeat (first | (with_reducible first | exact HB.out | apply below_alloc | apply pw_below_drewN | apply below_drew1) | exact HB.out)) hb); clear HO131; clear HB; have HO131 := n0_; have HO135 := n1_; have HB := n2_; clear n0_ n1_ n2_; (try clear hb); (try clear hb2); (try clear hk); (try clear hi); (try clear ho0); have CA7 := fun W => turnstilelaw08_num.calls t125 t136 W A7.out; try simp only [errW_none, errW_some] at CA7) | (go_at_call 12; (with_reducible refine (CA7 _).mono ?_); rintro e w' ⟨rfl, ⟨nd, rfl⟩⟩))
      go_ret
      exact ⟨by first | rfl | (simp [errW_none, errW_some] <;> rfl) | (simp [*, errW_none, errW_some] <;> rfl), by repeat (first | (with_reducible first | exact HB.out | apply below_alloc | apply pw_below_drewN | apply below_drew1) | exact HB.out)⟩
  · rw [if_neg c6] at H
    have c6b0 : (t124.toList == t126.toList) = false := beq_eq_false_iff_ne.mpr c6
    have c6b1 : (t124.toList != t126.toList) = true := bne_iff_ne.mpr c6
    obtain rfl := Option.some.inj H
    go_enter Tryd.func9, Tryd.ntmps9
    go_wp2_with (first | ((with_reducible refine gate_callee (f := 19) rfl ?_); refine goesL_ (some 13) rfl rfl Tryd.func19 (by kernel_rfl) rfl #[.string a0] rfl (by (try simp only [List.map_toArray, List.map_cons, List.map_nil]); first | done | rfl | (simp only [List.length_drop, List.length_take]; rfl)) ?_; (with_reducible refine (pDecode.calls a0 t124 t125 _ A2.out).mono ?_); rintro e w52 ⟨rfl, hb⟩; refine ⟨_, rfl, ?_⟩; have n0_ := Aside0.mk (below_step (by repeat (first | (with_reducible first | exact HB.out | apply below_alloc | apply pw_below_drewN | apply below_drew1) | exact HB.out)) hb); clear HB; have HB := n0_; clear n0_; (try clear hb); (try clear hb2); (try clear hk); (try clear hi); (try simp only [errW_none, errW_some])) | ((with_reducible refine gate_callee (f := 24) rfl ?_); refine goesL_ (some 18) rfl rfl Tryd.func24 (by kernel_rfl) rfl #[.string a0] rfl (by (try simp only [List.map_toArray, List.map_cons, List.map_nil]); first | done | rfl | (simp only [List.length_drop, List.length_take]; rfl)) ?_; (with_reducible refine (rDecode.calls a0 t126 t127 _ A3.out).mono ?_); rintro e w53 ⟨rfl, hb⟩; refine ⟨_, rfl, ?_⟩; have n0_ := Aside0.mk (below_step (by repeat (first | (with_reducible first | exact HB.out | apply below_alloc | apply pw_below_drewN | apply below_drew1) | exact HB.out)) hb); clear HB; have HB := n0_; clear n0_; (try clear hb); (try clear hb2); (try clear hk); (try clear hi)) | ((with_reducible refine gate_callee (f := 25) rfl ?_); refine goesL_ (some 23) rfl rfl Tryd.func25 (by kernel_rfl) rfl #[.string a0] rfl (by (try simp only [List.map_toArray, List.map_cons, List.map_nil]); first | done | rfl | (simp only [List.length_drop, List.length_take]; rfl)) ?_; (with_reducible refine (pPairs.calls a0 t128 t129 _ ?side1 A4.out).mono ?_); (case side1 => first | exact hG | exact GInv.step hG (by repeat (first | (with_reducible first | exact HB.out | apply below_alloc | apply pw_below_drewN | apply below_drew1) | exact HB.out))); rintro e w54 ⟨v130, rfl, ho0, hb⟩; refine ⟨_, rfl, ?_⟩; have n0_ := Aside0.mk (Kd.R_lower ho0 (below_size (by repeat (first | (with_reducible first | exact HB.out | apply below_alloc | apply pw_below_drewN | apply below_drew1) | exact HB.out)))); have n1_ := Aside0.mk (below_step (by repeat (first | (with_reducible first | exact HB.out | apply below_alloc | apply pw_below_drewN | apply below_drew1) | exact HB.out)) hb); clear HB; have HO131 := n0_; have HB := n1_; clear n0_ n1_; (try clear hb); (try clear hb2); (try clear hk); (try clear hi); (try clear ho0); (try simp only [errW_none, errW_some])) | ((with_reducible refine gate_callee (f := 26) rfl ?_); refine goesL_ (some 28) rfl rfl Tryd.func26 (by kernel_rfl) rfl #[.string a0] rfl (by (try simp only [List.map_toArray, List.map_cons, List.map_nil]); first | done | rfl | (simp only [List.length_drop, List.length_take]; rfl)) ?_; (with_reducible refine (turnstileref08_Pairs.calls k a0 t132 t133 _ A5.out).mono ?_); rintro e w55 ⟨v134, rfl, ho0, hb⟩; refine ⟨_, rfl, ?_⟩; have n0_ := Aside0.mk (Kd.R_elder' (by (with_reducible repeat (first | apply Kd.R_alloc | apply Kd.R_drewN | apply Kd.R_drew)); exact HO131.out) (Kd.R_base ho0) hb); have n1_ := Aside0.mk (Kd.R_lower (Kd.R_new' ho0 (Kd.R_lt (by (with_reducible repeat (first | apply Kd.R_alloc | apply Kd.R_drewN | apply Kd.R_drew)); exact HO131.out))) (below_size (by repeat (first | (with_reducible first | exact HB.out | apply below_alloc | apply pw_below_drewN | apply below_drew1) | exact HB.out)))); have n2_ := Aside0.mk (below_step (by repeat (first | (with_reducible first | exact HB.out | apply below_alloc | apply pw_below_drewN | apply below_drew1) | exact HB.out)) hb); clear HO131; clear HB; have HO131 := n0_; have HO135 := n1_; have HB := n2_; clear n0_ n1_ n2_; (try clear hb); (try clear hb2); (try clear hk); (try clear hi); (try clear ho0)))
    go_ret
    exact ⟨by first | rfl | (simp [errW_none, errW_some] <;> rfl) | (simp [*, errW_none, errW_some] <;> rfl), by repeat (first | (with_reducible first | exact HB.out | apply below_alloc | apply pw_below_drewN | apply below_drew1) | exact HB.out)⟩

end Go.Proofs.YthobmfnmenbkeaaDoor.XC
end
/- The law of the codes, as printed, answers true. Plain. -/
section
set_option linter.unusedVariables false
set_option linter.unusedSimpArgs false
namespace Go.Proofs.YthobmfnmenbkeaaDoor.Pl
open Go.RowKit Go.Proofs.YthobmfnmenbkeaaDoor Go.Proofs.YthobmfnmenbkeaaDoor.Tg Go.Proofs.YthobmfnmenbkeaaDoor.Gv Go.Proofs.YthobmfnmenbkeaaDoor.RF Go.Proofs.YthobmfnmenbkeaaDoorW.PrintWords Go.Proofs.YthobmfnmenbkeaaDoorW.PrintMore

theorem cut_loopC (s : ByteArray) (c : UInt8) (hs : s.size ≤ 140737488355328) : ∀ (d i : Nat), s.size - i = d → i ≤ s.size →
    Ev (fun k => XC.turnstileref08_cut.l0 k s c.toNat i) (txt (s.data.toList.take i ++ (cutAt c (s.data.toList.drop i)).1), txt (cutAt c (s.data.toList.drop i)).2.1, (cutAt c (s.data.toList.drop i)).2.2)
  | 0, i, hd, hi => by
    obtain rfl : i = s.size := by omega
    refine Ev.one fun k => ?_
    simp only [XC.turnstileref08_cut.l0]
    rw [if_neg (by omega), List.drop_of_length_le (by simp), List.take_of_length_le (by simp)]
    simp only [cutAt, List.append_nil, txt_self]
    first | rfl | done
  | d + 1, i, hd, hi => by
    have hlt : i < s.size := by omega
    rw [drop_at s i hlt]
    by_cases hc : s[i] = c
    · subst hc
      refine Ev.one fun k => ?_
      simp only [XC.turnstileref08_cut.l0]
      rw [if_pos (by omega), if_pos (by omega), bt_nat s i hlt, if_pos rfl, if_pos (by omega), w64s hlt hs, if_pos (by omega), if_pos (by omega)]
      rw [cut_hit, Int.toNat_natCast, Int.toNat_natCast, ext_txt s 0 i, ext_txt s (i + 1) s.size, List.drop_zero, List.append_nil, show s.data.toList.take s.size = s.data.toList from List.take_of_length_le (by simp)]
    · refine Ev.step (f := fun k => XC.turnstileref08_cut.l0 k s c.toNat ((i + 1 : Nat) : Int)) (fun k => ?_) ?_
      · simp only [XC.turnstileref08_cut.l0]
        rw [if_pos (by omega), if_pos (by omega), bt_nat s i hlt, if_neg (fun h => hc (u8_eq.1 h)), w64s hlt hs]
      · have := cut_loopC s c hs d (i + 1) (by omega) (by omega)
        rw [cutAt, if_neg hc]
        rw [take_snoc s i hlt] at this
        simpa using this
theorem cut_evC (l : List UInt8) (c : UInt8) (hs : l.length ≤ 140737488355328) : Ev (fun k => XC.turnstileref08_cut.f k (txt l) c.toNat) (txt (cutAt c l).1, txt (cutAt c l).2.1, (cutAt c l).2.2) := by
  have := cut_loopC (txt l) c (by rw [txt_size]; exact hs) (txt l).size 0 (by omega) (by omega)
  simpa [XC.turnstileref08_cut.f, txt_data] using this

theorem form_loop (s : ByteArray) (hs : s.size ≤ 1048576) : ∀ (d i : Nat), s.size - i = d → i ≤ s.size →
    Ev (fun k => XC.turnstileref08_form.l0 k s (ns (plus (s.data.toList.take i))) i) (txt (dec0 (plus s.data.toList)))
  | 0, i, hd, hi => by
    obtain rfl : i = s.size := by omega
    refine Ev.one fun k => ?_
    simp only [XC.turnstileref08_form.l0]
    rw [if_neg (by omega), List.take_of_length_le (by simp), ns_txt]
    unfold rDecode.f dec0
    rw [if_pos (by rw [txt_size, plus_len, len]; omega), txt_data]
    cases decoded (plus s.data.toList) <;> rfl
  | d + 1, i, hd, hi => by
    have hlt : i < s.size := by omega
    have hlen : (ns (plus (s.data.toList.take i))).length < 140737488355328 := by simp [ns, plus]; omega
    have e : ns (plus (s.data.toList.take i)) ++ [((if s[i] = 43 then (32 : UInt8) else s[i]).toNat : Int)] = ns (plus (s.data.toList.take (i + 1))) := by
      rw [take_snoc s i hlt]; simp [ns, plus]
    refine Ev.step (f := fun k => XC.turnstileref08_form.l0 k s (ns (plus (s.data.toList.take (i + 1)))) ((i + 1 : Nat) : Int)) (fun k => ?_) (form_loop s hs d (i + 1) (by omega) (by omega))
    rw [← e]
    simp only [XC.turnstileref08_form.l0]
    rw [if_pos (by omega), if_pos (by omega), bt_nat s i hlt]
    by_cases h1 : s[i] = 43
    · rw [if_pos (by rw [h1]; rfl), if_pos hlen, w64s hlt (by omega), if_pos h1]; rfl
    · rw [if_neg (show ¬ ((s[i].toNat : Int) = 43) from fun h => h1 (u8_eq.1 (show (s[i].toNat : Int) = ((43 : UInt8).toNat : Int) from h))), if_pos hlen, w64s hlt (by omega), if_neg h1]
theorem form_ev (l : List UInt8) (hs : l.length ≤ 1048576) : Ev (fun k => XC.turnstileref08_form.f k (txt l)) (txt (dec0 (plus l))) := by
  have := form_loop (txt l) (by rw [txt_size]; exact hs) (txt l).size 0 (by omega) (by omega)
  simpa [XC.turnstileref08_form.f, ns, plus, txt_data] using this

theorem cut_plus : ∀ l : List UInt8, cutAt 61 (plus l) = (plus (cutAt 61 l).1, plus (cutAt 61 l).2.1, (cutAt 61 l).2.2)
  | [] => rfl
  | x :: r => by
    have ih := cut_plus r
    by_cases h : x = 61
    · subst h
      simp [plus, cutAt]
    · have h2 : ¬ (if x = 43 then (32 : UInt8) else x) = 61 := by split <;> simp_all
      have e : plus (x :: r) = (if x = 43 then (32 : UInt8) else x) :: plus r := rfl
      rw [e]
      simp only [cutAt, if_neg h, if_neg h2, ih]
      rfl
theorem cuts_cutAt (c : UInt8) : ∀ l : List UInt8, cuts c l = (cutAt c l).1 :: (if (cutAt c l).2.2 = true then cuts c (cutAt c l).2.1 else [])
  | [] => rfl
  | x :: r => by
    have ih := cuts_cutAt c r
    by_cases h : x = c
    · subst h; simp [cuts, cutAt]
    · simp only [cuts, cutAt, if_neg h]
      rw [ih]

def resP (s : List UInt8) : List XC.S83 × Int := if (ps (cuts 38 s)).length ≤ 64 then ((ps (cuts 38 s)).map field, 0) else ([], 2)
theorem ps_app (a b : List (List UInt8)) : ps (a ++ b) = ps a ++ ps b := by simp [ps]
theorem cutAt_shorter (c : UInt8) : ∀ l : List UInt8, (cutAt c l).2.2 = true → (cutAt c l).2.1.length < l.length
  | [], h => by cases h
  | x :: r, h => by
    by_cases hx : x = c
    · subst hx; simp [cutAt]
    · simp only [cutAt, if_neg hx] at h ⊢
      have := cutAt_shorter c r h
      simp; omega
theorem pairs_loop (s : List UInt8) : ∀ (n : Nat) (rest : List UInt8), rest.length ≤ n → rest.length ≤ 1048576 → ∀ pre, pre ++ cuts 38 rest = cuts 38 s → (ps pre).length ≤ 64 →
    Ev (fun k => XC.turnstileref08_Pairs.l0 k ((ps pre).map field) (txt rest) true) (resP s) := by
  intro n
  induction n with
  | zero => 
    intro rest hn hz pre hp hl
    obtain rfl : rest = [] := List.length_eq_zero_iff.1 (by omega)
    exact step [] (by simp) (fun b hb => by simp at hb) pre hp hl
  | succ n ih =>
    intro rest hn hz pre hp hl
    exact step rest hz (fun b hb hbz p hp hl => ih b (by omega) hbz p hp hl) pre hp hl
where
  step (rest : List UInt8) (hz : rest.length ≤ 1048576)
      (ih : ∀ b : List UInt8, b.length < rest.length → b.length ≤ 1048576 → ∀ p, p ++ cuts 38 b = cuts 38 s → (ps p).length ≤ 64 → Ev (fun k => XC.turnstileref08_Pairs.l0 k ((ps p).map field) (txt b) true) (resP s))
      (pre : List (List UInt8)) (hp : pre ++ cuts 38 rest = cuts 38 s) (hl : (ps pre).length ≤ 64) : Ev (fun k => XC.turnstileref08_Pairs.l0 k ((ps pre).map field) (txt rest) true) (resP s) := by
    rw [cuts_cutAt 38 rest] at hp
    have hcl := cutAt_len 38 rest
    have hsh := cutAt_shorter 38 rest
    have hce := cut_evC rest 38 (by omega)
    generalize (cutAt 38 rest).1 = a at *
    generalize (cutAt 38 rest).2.1 = b at *
    generalize (cutAt 38 rest).2.2 = m at *
    refine Ev.step (fun k => by rw [XC.turnstileref08_Pairs.l0]) ?_
    simp only [if_true]
    refine Ev.bind hce ?_
    simp only [toList_txt]
    -- what follows, with whatever rows stand by now
    have next : ∀ p, ps p = ps pre ++ ps [a] → p = pre ++ [a] → (ps p).length ≤ 64 → Ev (fun k => XC.turnstileref08_Pairs.l0 k ((ps p).map field) (txt b) m) (resP s) := by
      intro p _ e hpl
      cases m with
      | true => exact ih b (hsh rfl) (by omega) p (by rw [e, ← hp]; simp) hpl
      | false =>
        refine Ev.one fun k => ?_
        simp only [XC.turnstileref08_Pairs.l0]
        rw [if_neg (by decide)]
        have e2 : cuts 38 s = p := by rw [← hp, e]; simp
        unfold resP
        rw [e2, if_pos hpl]
    by_cases ha : a = []
    · subst ha
      simp only [if_true]
      have h0 : ps (pre ++ [[]]) = ps pre := ps_nil pre
      have := next (pre ++ [[]]) (by rw [ps_app]) rfl (by rw [h0]; exact hl)
      rw [h0] at this
      exact this
    · simp only [if_neg ha, List.length_map]
      have h1 := ps_one pre ha
      by_cases h64 : (ps pre).length = 64
      · simp only [if_pos (show (((ps pre).length : Nat) : Int) = 64 by omega)]
        have : ¬ (ps (cuts 38 s)).length ≤ 64 := by
          rw [← hp, show pre ++ a :: (if m = true then cuts 38 b else []) = (pre ++ [a]) ++ (if m = true then cuts 38 b else []) by simp, ps_app, h1]
          simp; omega
        unfold resP
        rw [if_neg this]
        exact Ev.now _
      · simp only [if_neg (show ¬ (((ps pre).length : Nat) : Int) = 64 by omega)]
        have hc2 := cutAt_len 61 a
        refine Ev.bind (cut_evC a 61 (by omega)) ?_
        refine Ev.bind (form_ev (cutAt 61 a).1 (by omega)) ?_
        refine Ev.bind (form_ev (cutAt 61 a).2.1 (by omega)) ?_
        simp only [if_pos (show (ps pre).length < 4398046511104 by omega)]
        have hf : (ps pre).map field ++ [(⟨txt (dec0 (plus (cutAt 61 a).1)), txt (dec0 (plus (cutAt 61 a).2.1))⟩ : XC.S83)] = (ps (pre ++ [a])).map field := by
          rw [h1, List.map_append]
          unfold field pairN pairV
          simp [cut_plus]
        rw [hf]
        exact next (pre ++ [a]) (by rw [ps_app]) rfl (by rw [h1]; simp; omega)
theorem pairs_ev (s : ByteArray) (hs : s.size ≤ 1048576) : Ev (fun k => XC.turnstileref08_Pairs.f k s) ((rowsAll s.data.toList).map field, errAll s.data.toList) := by
  unfold XC.turnstileref08_Pairs.f rQuery.f
  rw [if_pos (by omega)]
  simp only [Option.bind_some]
  have hl : s.data.toList.length ≤ 1048576 := by rw [Array.length_toList]; exact hs
  unfold rowsAll errAll
  cases hq : isQuery s.data.toList with
  | false =>
    simp only [if_neg (show ¬ (false = true) by decide)]
    exact Ev.now _
  | true =>
    simp only [if_true]
    have := pairs_loop s.data.toList _ s.data.toList (Nat.le_refl _) hl [] rfl (by simp [ps])
    rw [txt_self] at this
    have e : resP s.data.toList = ((rowsP s.data.toList).map field, if (ps (cuts 38 s.data.toList)).length ≤ 64 then 0 else 2) := by
      unfold resP rowsP
      split <;> rfl
    rw [e] at this
    exact this
theorem fields_loop (l : List XC.S83) (hl : l.length ≤ 140737488355328) : ∀ (d i : Nat), l.length - i = d → i ≤ l.length → Ev (fun k => XC.turnstilelaw08_fields.l0 k l l i) true
  | 0, i, hd, hi => by
    refine Ev.one fun k => ?_
    simp only [XC.turnstilelaw08_fields.l0]
    rw [if_neg (by omega)]
  | d + 1, i, hd, hi => by
    have hlt : i < l.length := by omega
    refine Ev.step (f := fun k => XC.turnstilelaw08_fields.l0 k l l ((i + 1 : Nat) : Int)) (fun k => ?_) (fields_loop l hl d (i + 1) (by omega) (by omega))
    simp only [XC.turnstilelaw08_fields.l0]
    rw [if_pos (by omega), if_pos (by omega), if_pos (by omega), if_neg (by simp), w64s hlt hl]
theorem fields_ev (l : List XC.S83) (hl : l.length ≤ 140737488355328) : Ev (fun k => XC.turnstilelaw08_fields.f k l l) true := by
  unfold XC.turnstilelaw08_fields.f
  simp only [if_true]
  exact fields_loop l hl _ 0 rfl (Nat.zero_le _)
theorem num_errOC (n : Int) : XC.turnstilelaw08_num.f (errO n) = some n := by
  unfold XC.turnstilelaw08_num.f errO
  by_cases h : n = 0
  · simp [h]
  · simp [h]
theorem rows_len (s : List UInt8) : (rowsAll s).length ≤ 64 := by
  unfold rowsAll rowsP
  split
  · split
    · assumption
    · simp
  · simp
theorem codes_pure (s : ByteArray) (hs : s.size ≤ 1048576) : ∃ k, XC.turnstilelaw08_TargetCodes.f k s = some true := by
  refine Ev.rounds (g := fun k => XC.turnstilelaw08_TargetCodes.f k s) ?_
  have h1 : pDecode.f s = some ((match decoded s.data.toList with | some d => (txt d, none) | none => (⟨#[]⟩, some 23)) : ByteArray × Option Int) := by unfold pDecode.f; rw [if_pos (by omega)]; try (cases decoded s.data.toList <;> rfl)
  have h2 : rDecode.f s = some ((match decoded s.data.toList with | some d => (txt d, 0) | none => (⟨#[]⟩, 23)) : ByteArray × Int) := by unfold rDecode.f; rw [if_pos (by omega)]; try (cases decoded s.data.toList <;> rfl)
  have h3 : pPairs.f s = some ((rowsAll s.data.toList).map field, errO (errAll s.data.toList)) := by unfold pPairs.f; rw [if_pos hs]
  have h4 : pEncode.f s = some (txt (encode s.data.toList)) := by unfold pEncode.f; rw [if_pos (by omega)]
  have h5 : rEncode.f s = some (txt (encode s.data.toList)) := by unfold rEncode.f; rw [if_pos (by omega)]
  unfold XC.turnstilelaw08_TargetCodes.f
  rw [h1, h2, h3, h4, h5]
  simp only [Option.bind_some]
  refine Ev.bind (pairs_ev s hs) ?_
  have hf := fields_ev ((rowsAll s.data.toList).map field) (by rw [List.length_map]; have := rows_len s.data.toList; omega)
  have tail : Ev (fun k => (XC.turnstilelaw08_fields.f k ((rowsAll s.data.toList).map field) ((rowsAll s.data.toList).map field)).bind fun t139 => (if t139 = true then ((XC.turnstilelaw08_num.f (errO (errAll s.data.toList))).bind fun t140 => (if t140 = errAll s.data.toList then ((works.f).bind fun t141 => (some t141)) else (some false))) else (some false))) true := by
    refine Ev.bind hf ?_
    simp only [if_true, num_errOC, Option.bind_some, works.f]
    exact Ev.now _
  cases decoded s.data.toList with
  | some d =>
    have n0 : XC.turnstilelaw08_num.f none = some 0 := rfl
    simp only [if_true, n0, Option.bind_some]
    exact tail
  | none =>
    have n1 : XC.turnstilelaw08_num.f (some 23) = some 23 := rfl
    simp only [if_true, n1, Option.bind_some]
    exact tail
end Go.Proofs.YthobmfnmenbkeaaDoor.Pl
end
section
set_option linter.unusedVariables false
namespace Go.Proofs.YthobmfnmenbkeaaDoor.targetCodes
open Go.RowKit Go.ChangeShapes Go.WideShapes Go.ChangeAt Tg

theorem walk (s : ByteArray) (w : World) (hs : s.size ≤ 1048576) (hr : Rdy w) : Calls Tryd.prog 9 #[.string s] w (PreIs w) := by
  obtain ⟨k, hk⟩ := Pl.codes_pure s hs
  exact (XC.turnstilelaw08_TargetCodes.calls k s true w ⟨⟨hr⟩⟩ hk).mono fun _ _ h => h

set_option maxRecDepth 100000 in
theorem contract (H : Type) (enc : TypeId × Value → H) (W : World) (base : Nat) (args : Array Value) (ds gs : List (DataW H)) (before : List MemPlace)
    (hval : ∀ (j : Nat) t v, Tryd.f9.params[j]? = some t → args[j]? = some v → Value.okWide Tryd.prog W .any base t v)
    (hW : DataW.Whole enc Tryd.prog Tryd.f9.params.toList Rows.targetCodesSpec.vars false W args.toList ds gs before) (hk : Rows.uptoSmall H (ds ++ gs) = true) (hL : laidMet Tryd.prog tables W) (hsh : W.ShapedOpen Tryd.prog) :
    Calls Tryd.prog 9 args W fun e W' => ∃ v, e = .returned v ∧ Rows.targetCodesSpec.post enc Tryd.prog Tryd.f9 false true false false W args v W' := by
  have hW' := hW
  obtain ⟨p, q, hA0, hV, rfl, hfz, hnd⟩ := hW
  have hA : DataW.TrodAll enc Tryd.prog W 0 (fun _ => true) true Tryd.f9.params.toList args.toList ds p := hA0
  rw [Tryd.params9] at hA hval
  obtain ⟨v0, d0, rfl, rfl, h0⟩ := trodAll_one hA
  obtain ⟨rfl, rfl⟩ := trodVars_none hV
  obtain ⟨s, rfl, rfl, rfl, hs⟩ := Go.ChangeMaps.open_string Tryd.underlying9 (hval 0 9 v0 rfl rfl) h0
  simp only [List.append_nil] at hW'
  have hb := bound hk
  simp only [List.append_nil, Rows.uptoBulkAll, Rows.uptoBulk, len] at hb
  refine (walk s W (by omega) (rdy_of hsh hL)).mono fun e W' ⟨he, hg⟩ => ?_
  subst he
  exact ⟨_, rfl, _, _, _, [], [], [], hW', trodAll_mk1 (shut_bool Tryd.underlying4 _), trodAll_mk1 (Go.ChangeMaps.shut_string Tryd.underlying9 hs), rfl, hg.frame _, fun h => by cases h⟩

theorem reads (os : Os) {H : Type} (enc : TypeId × Value → H) : ∃ places, DataW.whole enc Tryd.prog ((start os).forCall (fun _ _ => 0) ⟨#[], #[.string ⟨#[]⟩], []⟩).memory Tryd.f9.params.toList Rows.targetCodesSpec.vars false #[Value.string ⟨#[]⟩].toList 8 = some ([.lit (.string [])], [], places) :=
  ⟨[], by kernel_rfl⟩

set_option maxRecDepth 100000 in
theorem liftedUpto (os : Os) (started : os.Started) (H : Type) (enc : TypeId × Value → H) (F : Stop.Interp) :
    ReturnsInHanded {} Tryd.checked os 9 .any ((Rows.OpenSpec.upto Rows.targetCodesSpec).preRow enc Tryd.prog Tryd.f9 Rows.targetCodesUptoRow.domain false Rows.targetCodesUptoRow.laid) (((Rows.OpenSpec.upto Rows.targetCodesSpec).at F).post enc Tryd.prog Tryd.f9 false true false false) := by
  obtain ⟨places, hx⟩ := reads os enc
  refine returnsInHanded_of_row (C := Tryd.checked) (s := Rows.OpenSpec.upto Rows.targetCodesSpec) own started (by kernel_rfl) Tryd.func9
    (witness_row_shaped (enc := enc) (C := Tryd.checked) (start os) #[.string ⟨#[]⟩] (World.laidAll_os _ _ _) (start_shaped os _) (by kernel_rfl)
      (OpenSpec.preRow_of_cond 8 hx (by kernel_rfl) (fun k hk => by cases hk; kernel_rfl) (by kernel_rfl) (start_laid os _))) ?_
  intro W base args ds gs before hval hW _ hk _ hL hsh _
  exact contract H enc W base args ds gs before hval hW (hk _ rfl) hL hsh

theorem saidUpto : Rows.TargetCodesUptoSaid :=
  OpenClaim.holds_of_cond 9 Tryd.f9 rfl rfl rfl rfl rfl rfl rfl ⟨rfl, rfl, rfl, rfl, rfl⟩ rfl rfl rfl rfl rfl (by kernel_rfl) Tryd.func9 (by kernel_rfl)
    (of_decide_eq_true (by kernel_rfl)) (by unfold Func.isWrapper; first | (rw [if_pos (by decide +kernel)]; kernel_rfl) | (rw [if_neg (by decide +kernel)]; exact ⟨rfl, rfl⟩))
    (fun os started H enc _ F => by rw [OpenClaim.pre_eq_preRow]; exact liftedUpto os started H enc F)

theorem plain (f : FuncId) (fn : Func) (hf : Tryd.pinned.checked.prog.funcNamed "turnstile/turnstilelaw08.TargetCodes" = some f) (hfn : Tryd.pinned.checked.prog.funcs[f]? = some fn) :
    true = Tryd.pinned.checked.prog.looks [] ∧ ∀ (j : Nat) t, fn.params[j]? = some t → Tryd.pinned.checked.prog.wantsStandIn t = false := by
  obtain rfl : f = 9 := Option.some.inj ((show Tryd.prog.funcNamed "turnstile/turnstilelaw08.TargetCodes" = some 9 by kernel_rfl).symm.trans hf) |>.symm
  obtain rfl : fn = Tryd.f9 := (Option.some.inj (Tryd.func9.symm.trans hfn)).symm
  refine ⟨by kernel_rfl, fun j t ht => ?_⟩
  rw [Tryd.params9] at ht
  match j, ht with
  | 0, ht => obtain rfl : (9 : TypeId) = t := by simpa using ht
             exact (show Tryd.prog.wantsStandIn 9 = false by kernel_rfl)
  | j + 1, ht => simp at ht

end Go.Proofs.YthobmfnmenbkeaaDoor.targetCodes
namespace Go.Proofs.YthobmfnmenbkeaaDoor
/-- the card of the second form -/
theorem targetCodesUpto_holds : Rows.TargetCodesUptoCardSaid :=
  Claim7.holds_tied_plain_at .later [] _ _ _ _ targetCodes.saidUpto (fun _ h => by cases h) (by kernel_rfl) (fun _ h => by cases h) targetCodesUpto_row_tie rfl ⟨rfl, rfl⟩ (by kernel_rfl) rfl targetCodes.plain (by kernel_rfl)
end Go.Proofs.YthobmfnmenbkeaaDoor
end
