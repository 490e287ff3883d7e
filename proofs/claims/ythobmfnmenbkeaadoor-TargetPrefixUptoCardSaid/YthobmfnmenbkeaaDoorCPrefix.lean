/- Proved: TargetPrefix answers true for every path, place and choice, where what it reads is of bulk at most 1048576: the law's card in its second form. -/
import Derived.Test.YthobmfnmenbkeaaDoorW14
import Derived.Test.YthobmfnmenbkeaaDoorRow
set_option linter.unusedVariables false
namespace Go.Proofs.YthobmfnmenbkeaaDoor.targetPrefix
open Go.RowKit Go.ChangeShapes Go.WideShapes Go.ChangeAt Tg

theorem walk (s : ByteArray) (k : Int) (tw : Bool) (w : World) (hs : s.size ≤ 1048576) (hr : Rdy w) (hk1 : -9223372036854775808 ≤ k) (hk2 : k ≤ 9223372036854775807) :
    Calls Tryd.prog 6 #[.string s, .int .i64 k, .bool tw] w (PreIs w) := by
  cases h : normal s.data.toList with
  | none => exact prefix_none s k tw w hs hr h
  | some p =>
    by_cases hl : 20000 < p.length
    · exact prefix_big s k tw w hs hr p h hl
    · exact prefix_main s k tw w hs hr hk1 hk2 p h (by omega)

set_option maxRecDepth 100000 in
theorem contract (H : Type) (enc : TypeId × Value → H) (W : World) (base : Nat) (args : Array Value) (ds gs : List (DataW H)) (before : List MemPlace)
    (hval : ∀ (j : Nat) t v, Tryd.f6.params[j]? = some t → args[j]? = some v → Value.okWide Tryd.prog W .any base t v)
    (hW : DataW.Whole enc Tryd.prog Tryd.f6.params.toList Rows.targetPrefixSpec.vars false W args.toList ds gs before) (hk : Rows.uptoSmall H (ds ++ gs) = true) (hsh : W.ShapedOpen Tryd.prog) :
    Calls Tryd.prog 6 args W fun e W' => ∃ v, e = .returned v ∧ Rows.targetPrefixSpec.post enc Tryd.prog Tryd.f6 false true false false W args v W' := by
  have hW' := hW
  obtain ⟨p, q, hA0, hV, rfl, hfz, hnd⟩ := hW
  have hA : DataW.TrodAll enc Tryd.prog W 0 (fun _ => true) true Tryd.f6.params.toList args.toList ds p := hA0
  rw [Tryd.params6] at hA hval
  obtain ⟨v0, v1, v2, d0, d1, d2, p0, p1, p2, rfl, rfl, rfl, h0, h1, h2⟩ := trodAll_three hA
  obtain ⟨rfl, rfl⟩ := trodVars_none hV
  obtain ⟨s, rfl, rfl, rfl, hs⟩ := Go.ChangeMaps.open_string Tryd.underlying9 (hval 0 9 v0 rfl rfl) h0
  obtain ⟨k, rfl, rfl, rfl, wk⟩ := open_int Tryd.underlying3 (hval 1 3 v1 rfl rfl) h1
  obtain ⟨tw, rfl, rfl, rfl⟩ := open_bool Tryd.underlying4 (hval 2 4 v2 rfl rfl) h2
  simp only [List.append_nil] at hW'
  have hb := bound hk
  simp only [List.append_nil, Rows.uptoBulkAll, Rows.uptoBulk, len] at hb
  have hkk : -9223372036854775808 ≤ k ∧ k ≤ 9223372036854775807 := by simpa [Lit.wf, IntKind.min, IntKind.max, IntKind.signed, IntKind.bits] using wk
  refine (walk s k tw W (by omega) (rdy_of hsh) hkk.1 hkk.2).mono fun e W' ⟨he, hg⟩ => ?_
  subst he
  exact ⟨_, rfl, _, _, _, [], [], [], hW', trodAll_mk1 (shut_bool Tryd.underlying4 _), trodAll_mk3 (Go.ChangeMaps.shut_string Tryd.underlying9 hs) (shut_int Tryd.underlying3 wk) (shut_bool Tryd.underlying4 _), rfl, hg.frame _, fun h => by cases h⟩

theorem reads (os : Os) {H : Type} (enc : TypeId × Value → H) : ∃ places, DataW.whole enc Tryd.prog ((start os).forCall (fun _ _ => 0) ⟨#[], #[.string ⟨#[]⟩, .int .i64 0, .bool false], []⟩).memory Tryd.f6.params.toList Rows.targetPrefixSpec.vars false #[Value.string ⟨#[]⟩, .int .i64 0, .bool false].toList 8 = some ([.lit (.string []), .lit (.int .i64 0), .lit (.bool false)], [], places) :=
  ⟨[], by kernel_rfl⟩

set_option maxRecDepth 100000 in
theorem liftedUpto (os : Os) (started : os.Started) (H : Type) (enc : TypeId × Value → H) (F : Stop.Interp) :
    ReturnsInHanded {} Tryd.checked os 6 .any ((Rows.OpenSpec.upto Rows.targetPrefixSpec).preRow enc Tryd.prog Tryd.f6 Rows.targetPrefixUptoRow.domain false Rows.targetPrefixUptoRow.laid) (((Rows.OpenSpec.upto Rows.targetPrefixSpec).at F).post enc Tryd.prog Tryd.f6 false true false false) := by
  obtain ⟨places, hx⟩ := reads os enc
  refine returnsInHanded_of_row (C := Tryd.checked) (s := Rows.OpenSpec.upto Rows.targetPrefixSpec) own started (by kernel_rfl) Tryd.func6
    (witness_row_shaped (enc := enc) (C := Tryd.checked) (start os) #[.string ⟨#[]⟩, .int .i64 0, .bool false] (World.laidAll_os _ _ _) (start_shaped os _) (by kernel_rfl)
      (OpenSpec.preRow_of_cond 8 hx (by kernel_rfl) (fun k hk => by cases hk; kernel_rfl) (by kernel_rfl) (start_laid os _))) ?_
  intro W base args ds gs before hval hW _ hk _ hL hsh _
  exact contract H enc W base args ds gs before hval hW (hk _ rfl) hsh

theorem saidUpto : Rows.TargetPrefixUptoSaid :=
  OpenClaim.holds_of_cond 6 Tryd.f6 rfl rfl rfl rfl rfl rfl rfl ⟨rfl, rfl, rfl, rfl, rfl⟩ rfl rfl rfl rfl rfl (by kernel_rfl) Tryd.func6 (by kernel_rfl)
    (of_decide_eq_true (by kernel_rfl)) (by unfold Func.isWrapper; first | (rw [if_pos (by decide +kernel)]; kernel_rfl) | (rw [if_neg (by decide +kernel)]; exact ⟨rfl, rfl⟩))
    (fun os started H enc _ F => by rw [OpenClaim.pre_eq_preRow]; exact liftedUpto os started H enc F)

theorem plain (f : FuncId) (fn : Func) (hf : Tryd.pinned.checked.prog.funcNamed "turnstile/turnstilelaw08.TargetPrefix" = some f) (hfn : Tryd.pinned.checked.prog.funcs[f]? = some fn) :
    true = Tryd.pinned.checked.prog.looks [] ∧ ∀ (j : Nat) t, fn.params[j]? = some t → Tryd.pinned.checked.prog.wantsStandIn t = false := by
  obtain rfl : f = 6 := Option.some.inj ((show Tryd.prog.funcNamed "turnstile/turnstilelaw08.TargetPrefix" = some 6 by kernel_rfl).symm.trans hf) |>.symm
  obtain rfl : fn = Tryd.f6 := (Option.some.inj (Tryd.func6.symm.trans hfn)).symm
  refine ⟨by kernel_rfl, fun j t ht => ?_⟩
  rw [Tryd.params6] at ht
  match j, ht with
  | 0, ht => obtain rfl : (9 : TypeId) = t := by simpa using ht
             exact (show Tryd.prog.wantsStandIn 9 = false by kernel_rfl)
  | 1, ht => obtain rfl : (3 : TypeId) = t := by simpa using ht
             exact (show Tryd.prog.wantsStandIn 3 = false by kernel_rfl)
  | 2, ht => obtain rfl : (4 : TypeId) = t := by simpa using ht
             exact (show Tryd.prog.wantsStandIn 4 = false by kernel_rfl)
  | j + 3, ht => simp at ht

end Go.Proofs.YthobmfnmenbkeaaDoor.targetPrefix
namespace Go.Proofs.YthobmfnmenbkeaaDoor
/-- the card of the second form -/
theorem targetPrefixUpto_holds : Rows.TargetPrefixUptoCardSaid :=
  Claim7.holds_tied_plain_at .later [] _ _ _ _ targetPrefix.saidUpto (fun _ h => by cases h) (by kernel_rfl) (fun _ h => by cases h) targetPrefixUpto_row_tie rfl ⟨rfl, rfl⟩ (by kernel_rfl) rfl targetPrefix.plain (by kernel_rfl)
end Go.Proofs.YthobmfnmenbkeaaDoor
