/- The reference's functions that gather bytes with codes, walked: meant. -/
import Derived.Test.YthobmfnmenbkeaaDoorR1
import Derived.StillTailTactics
set_option linter.unusedVariables false
set_option linter.unusedSimpArgs false
namespace Go.Proofs.YthobmfnmenbkeaaDoor
open Go.RowKit Tg

theorem great_hi : ∀ v : UInt8, ∀ h : (IntKind.i64.wrap ((v.toNat : Int) / 16)).toNat < 16, ((({ data := #[48, 49, 50, 51, 52, 53, 54, 55, 56, 57, 65, 66, 67, 68, 69, 70] } : ByteArray)[(IntKind.i64.wrap ((v.toNat : Int) / 16)).toNat]'h).toNat : Int) = (up (v / 16)).toNat := all_bytes _ (by decide +kernel)
theorem great_lo : ∀ v : UInt8, ∀ h : (((v.toNat : Int).tmod 16)).toNat < 16, ((({ data := #[48, 49, 50, 51, 52, 53, 54, 55, 56, 57, 65, 66, 67, 68, 69, 70] } : ByteArray)[((v.toNat : Int).tmod 16).toNat]'h).toNat : Int) = (up (v % 16)).toNat := all_bytes _ (by decide +kernel)
theorem tmod_rng : ∀ v : UInt8, 0 ≤ (v.toNat : Int).tmod 16 ∧ (v.toNat : Int).tmod 16 < 16 := all_bytes _ (by decide +kernel)
theorem cell_three_new (w : World) (x y z : Value) (t : TypeId) : ∀ j u, [x, y, z][j]? = some u → (w.alloc (.cells #[x, y, z] t)).cell? ((⟨w.heap.size, 0, none⟩ : Addr).add j) = some u := by
  intro j u hj
  match j, hj with
  | 0, hj => simp at hj; subst hj; simp [Addr.add]
  | 1, hj => simp at hj; subst hj; simp [Addr.add]
  | 2, hj => simp at hj; subst hj; simp [Addr.add]
/-- behind what was taken first: the rest in the order of the text, where that is forced -/
theorem wpAny_tail {P : Program} {md : Region.Mode} {ops : Array Oper} {Q' : Exit → Act → World → Prop} {n k : Nat} {listed : Array Bool} {a : Act} {w : World} (hn : n = (ops.toList.drop k).length)
    (hB : Region.seqB md ops n k listed = true) (h : wpList P ops Q' (ops.toList.drop k) a w) : wpAny P md ops Q' n listed a w := by
  subst hn
  exact wpAny_of_seq _ k listed a w (fun j => by simp [List.getElem?_drop]) hB h

set_option maxRecDepth 100000 in
set_option maxHeartbeats 4000000 in
theorem rmeant_calls (s : ByteArray) (w : World) (hs : s.size ≤ 4294967280) : Calls Tryd.prog 49 #[.string s] w fun e w' => e = .returned (.string (txt (meant s.data.toList))) ∧ Below w.heap.size w w' := by
  go_enter Tryd.func49, Tryd.ntmps49
  go_wp2_with fail
  go_loopw [3, 4] (fun ov i wr => ∃ (k : Nat) (pre : List UInt8), k ≤ s.size ∧ i = .int .i64 k ∧ pre.length ≤ k ∧ meant s.data.toList = pre ++ meant (s.data.toList.drop k) ∧ wr.ownsRow w.heap.size 5 1 ov pre.length (bytesV pre) ∧ Below w.heap.size w wr) (fun _ i _ => s.size - (intOf i).toNat)
  case atStart => exact ⟨0, [], Nat.zero_le _, rfl, Nat.zero_le _, by simp, World.ownsRow_nil _ _ _ _, Below.refl _ _⟩
  case round =>
    obtain ⟨k, pre, hk, rfl, hpl, hno, hown, hbw⟩ := hrel
    have HNO := Lib.hid hno
    clear hno
    have hz := hbw.size
    have hs' : s.size ≤ 140737488355328 := by omega
    obtain ⟨i0, hi, hz0, hz1, hz2⟩ := info_parts info5
    by_cases hlt : k < s.size
    · cases hc : code (s.data.toList.drop k) with
      | none =>
        have HM := Lib.hid (mean_none s k hlt hc)
        have hci := codei_none hc
        clear hc
        go_wp2_with fail
        refine (rcode_calls _ _ _ hs' hlt).mono ?_
        rw [hci]
        rintro e w' ⟨rfl, ⟨n, rfl⟩⟩
        go_wp2_with (at_builtin; refine wpList_append_own _ rfl _ _ 64 rfl w.heap.size 5 i0 (.int .u8 0) 1 1 Tryd.underlying64 hi hz0 hz1 hz2 rfl (by decide) _ _ _ rfl (hown.alloc _) ⟨wr.heap.size, 0, none⟩ 1 1 [.int .u8 s[k].toNat] rfl rfl (cell_one_new _ _ _) ?c2 ?c3 ?c4 ?c5 ?c6)
        case c2 => simp [Value.oneCell']
        case c3 => unfold maxLen; omega
        case c4 => omega
        case c5 => rw [World.size_alloc]; simp; omega
        case c6 =>
          intro v' w1 hown' hgrow hnil
          go_wp2_with fail
          have hbw1 := ((below_dr hbw ⟨⟨n, rfl⟩⟩).alloc hz _).grown hgrow (by rw [World.size_alloc]; simp; omega) (fun k e => own_base hown k e)
          exact ⟨⟨k + 1, pre ++ [s[k]], by omega, by go_num, by simp; omega, by rw [HNO.out, HM.out]; simp, by simpa [bytesV] using hown', hbw1⟩, by simp [intOf]; omega⟩
      | some v =>
        obtain ⟨h2, hm⟩ := mean_some s k hlt hc
        have HM := Lib.hid hm
        have hci : codei (s.data.toList.drop k) = v.toNat := by unfold codei; rw [hc]
        have hv := v.toNat_lt
        clear hc hm
        go_wp2_with fail
        refine (rcode_calls _ _ _ hs' hlt).mono ?_
        rw [hci]
        rintro e w' ⟨rfl, ⟨n, rfl⟩⟩
        go_wp2_with fail
        refine (rUnreserved_calls v _).mono ?_
        cases hu : unres v with
        | true =>
          rintro e w' ⟨rfl, rfl⟩
          go_wp2_with (at_builtin; refine wpList_append_own _ rfl _ _ 64 rfl w.heap.size 5 i0 (.int .u8 0) 1 1 Tryd.underlying64 hi hz0 hz1 hz2 rfl (by decide) _ _ _ rfl (hown.alloc _) ⟨wr.heap.size, 0, none⟩ 1 1 [.int .u8 v.toNat] rfl rfl (cell_one_new _ _ _) ?c2 ?c3 ?c4 ?c5 ?c6)
          case c2 => simp [Value.oneCell']
          case c3 => unfold maxLen; omega
          case c4 => omega
          case c5 => rw [World.size_alloc]; simp; omega
          case c6 =>
            intro v' w1 hown' hgrow hnil
            go_wp2_with fail
            have hbw1 := ((below_dr hbw ⟨⟨n, rfl⟩⟩).alloc hz _).grown hgrow (by rw [World.size_alloc]; simp; omega) (fun k e => own_base hown k e)
            exact ⟨⟨k + 3, pre ++ [v], by omega, by go_num, by simp; omega, by rw [HNO.out, HM.out, hu]; simp, by simpa [bytesV] using hown', hbw1⟩, by simp [intOf]; omega⟩
        | false =>
          rintro e w' ⟨rfl, rfl⟩
          go_wp2_with fail
          refine wp_region_any (by kernel_rfl) ?_
          change wpAny _ _ _ _ _ _ _ (World.drew _)
          refine wpAny_take (i := 0) (v := ?v0) rfl (by kernel_rfl) (by kernel_rfl) (by kernel_rfl) (fun _ _ _ h => h) (Or.inl ⟨by rfl, ?hy0⟩) ?rest0
          case hy0 => intro w; go_simp; (try with_reducible rfl); (try (first | rw [if_pos (by omega)] | rw [if_neg (by omega)])); (try go_simp); (try with_reducible rfl)
          refine wpAny_take (i := 1) (v := ?v1) rfl (by kernel_rfl) (by kernel_rfl) (by kernel_rfl) (fun _ _ _ h => h) (Or.inl ⟨by rfl, ?hy1⟩) ?rest1
          case hy1 => intro w; go_simp; (try with_reducible rfl); (try (first | rw [if_pos (by omega)] | rw [if_neg (by omega)])); (try go_simp); (try with_reducible rfl)
          refine wpAny_take (i := 2) (v := ?v2) rfl (by kernel_rfl) (by kernel_rfl) (by kernel_rfl) (fun _ _ _ h => h) (Or.inl ⟨by rfl, ?hy2⟩) ?rest2
          case hy2 => intro w; go_simp; (try with_reducible rfl); (try (first | rw [if_pos (by omega)] | rw [if_neg (by omega)])); (try go_simp); (try with_reducible rfl)
          refine wpAny_take (i := 3) (v := .int .u8 (up (v / 16)).toNat) rfl (by kernel_rfl) (by kernel_rfl) (by kernel_rfl) (fun _ _ _ h => h) (Or.inl ⟨by rfl, ?hy3⟩) ?rest3
          case hy3 =>
            intro w; go_simp
            rw [dif_pos (by rw [IntWalk.i64_in _ (by omega)]; omega)]
            rw [great_hi v]
            rfl
          refine wpAny_take (i := 4) (v := ?v4) rfl (by kernel_rfl) (by kernel_rfl) (by kernel_rfl) (fun _ _ _ h => h) (Or.inl ⟨by rfl, ?hy4⟩) ?rest4
          case hy4 => intro w; go_simp; (try with_reducible rfl); (try (first | rw [if_pos (by omega)] | rw [if_neg (by omega)])); (try go_simp); (try with_reducible rfl)
          refine wpAny_take (i := 5) (v := ?v5) rfl (by kernel_rfl) (by kernel_rfl) (by kernel_rfl) (fun _ _ _ h => h) (Or.inl ⟨by rfl, ?hy5⟩) ?rest5
          case hy5 => intro w; go_simp; (try with_reducible rfl); (try (first | rw [if_pos (by omega)] | rw [if_neg (by omega)])); (try go_simp); (try with_reducible rfl)
          refine wpAny_take (i := 6) (v := .int .u8 (up (v % 16)).toNat) rfl (by kernel_rfl) (by kernel_rfl) (by kernel_rfl) (fun _ _ _ h => h) (Or.inl ⟨by rfl, ?hy6⟩) ?rest6
          case hy6 =>
            intro w; go_simp
            rw [dif_pos (tmod_rng v)]
            rw [great_lo v]
            rfl
          refine wpAny_tail (k := 7) (by kernel_rfl) (by kernel_rfl) ?_
          simp only [List.drop_succ_cons, List.drop_zero]
          have hbx := below_dr (below_dr hbw ⟨⟨n, rfl⟩⟩) ⟨⟨1, rfl⟩⟩
          have hox : ((wr.drewN n).drew).ownsRow w.heap.size 5 1 _ pre.length (bytesV pre) := hown
          change Below w.heap.size w ((wr.drewN n).drew) at hbx
          generalize (wr.drewN n).drew = wx at hbx hox ⊢
          have hzx := hbx.size
          go_wp2_with (at_builtin; refine wpList_append_own _ rfl _ _ 64 rfl w.heap.size 5 i0 (.int .u8 0) 1 1 Tryd.underlying64 hi hz0 hz1 hz2 rfl (by decide) _ _ _ rfl (hox.alloc _) ⟨wx.heap.size, 0, none⟩ 3 3 [.int .u8 37, .int .u8 (up (v / 16)).toNat, .int .u8 (up (v % 16)).toNat] rfl rfl (cell_three_new _ _ _ _ _) ?c2 ?c3 ?c4 ?c5 ?c6)
          case c2 => simp [Value.oneCell']
          case c3 => unfold maxLen; omega
          case c4 => omega
          case c5 => rw [World.size_alloc]; omega
          case c6 =>
            intro v' w1 hown' hgrow hnil
            go_wp2_with fail
            have hbw1 := (hbx.alloc hzx _).grown hgrow (by rw [World.size_alloc]; omega) (fun k e => own_base hown k e)
            exact ⟨⟨k + 3, pre ++ coded v, by omega, by go_num, by simp [coded]; omega, by rw [HNO.out, HM.out, hu]; simp, by simpa [bytesV, coded] using hown', hbw1⟩, by simp [intOf]; omega⟩
    · have hcv := str_of_row hown
      go_wp2_with fail
      go_ret
      exact ⟨ret_tuple (by rw [HNO.out, List.drop_of_length_le (by simp; omega), meant_nil]; simp), hbw⟩
end Go.Proofs.YthobmfnmenbkeaaDoor
