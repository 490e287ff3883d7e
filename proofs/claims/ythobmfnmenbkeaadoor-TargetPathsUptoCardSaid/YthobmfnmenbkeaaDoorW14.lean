/- The statement 'TargetPrefix', walked. -/
import Derived.Test.YthobmfnmenbkeaaDoorW13
import Derived.Test.YthobmfnmenbkeaaDoorLaws2
set_option linter.unusedVariables false
set_option linter.unusedSimpArgs false
namespace Go.Proofs.YthobmfnmenbkeaaDoor
open Go.RowKit Tg

theorem Below.trans2 {B : Nat} {w w1 w2 : World} (h1 : Below B w w1) (hb : B ≤ w1.heap.size) (h2 : Below w1.heap.size w1 w2) : Below B w w2 :=
  h1.trans ⟨h2.os, h2.tape, h2.output, h2.size, fun i hi => h2.block i (by omega)⟩
def PreIs (w : World) (e : Ending) (w' : World) : Prop := e = .returned (.bool true) ∧ Below w.heap.size w w'

set_option maxRecDepth 100000 in
set_option maxHeartbeats 1000000 in
theorem prefix_none (s : ByteArray) (k : Int) (tw : Bool) (w : World) (hs : s.size ≤ 1048576) (hr : Rdy w) (hn : normal s.data.toList = none) :
    Calls Tryd.prog 6 #[.string s, .int .i64 k, .bool tw] w (PreIs w) := by
  have HN := Lib.hid (show textOr (normal s.data.toList) 23 = .tuple #[.string ⟨#[]⟩, .iface 56 (.int .i64 23)] by rw [hn]; rfl)
  clear hn
  go_enter Tryd.func6, Tryd.ntmps6
  go_wp2_with fail
  refine (normal_calls _ _ (by omega) hr).mono ?_
  rw [HN.out]
  rintro e w1 ⟨rfl, hb⟩
  have hr1 := hr.below hb
  go_wp2_with fail
  refine (works_calls _ hr1).mono ?_
  rintro e w2 ⟨rfl, hb2⟩
  go_wp2_with fail
  go_ret
  exact ⟨rfl, Below.trans2 hb hb.size hb2⟩

set_option maxRecDepth 100000 in
set_option maxHeartbeats 1000000 in
theorem prefix_big (s : ByteArray) (k : Int) (tw : Bool) (w : World) (hs : s.size ≤ 1048576) (hr : Rdy w) (p : List UInt8) (hn : normal s.data.toList = some p) (hl : 20000 < p.length) :
    Calls Tryd.prog 6 #[.string s, .int .i64 k, .bool tw] w (PreIs w) := by
  have HN := Lib.hid (show textOr (normal s.data.toList) 23 = .tuple #[.string (txt p), .nilIface] by rw [hn]; rfl)
  have hpl := normal_len hn
  rw [len] at hpl
  clear hn
  have hq := (txt_size p)
  generalize txt p = q at HN hq
  go_enter Tryd.func6, Tryd.ntmps6
  go_wp2_with fail
  refine (normal_calls _ _ (by omega) hr).mono ?_
  rw [HN.out]
  rintro e w1 ⟨rfl, hb⟩
  have hr1 := hr.below hb
  go_wp2_with (first | (go_at_call 13; refine (works_calls _ hr1).mono ?_; rintro e w2 ⟨rfl, hb2⟩))
  go_ret
  exact ⟨rfl, Below.trans2 hb hb.size hb2⟩

theorem start_at (k : Int) (L : Nat) (h0 : 0 < L) (hl : L ≤ 20000) : ∃ j : Nat, j < L ∧ (wrap64 (k.tmod L + L)).tmod L = j := by
  have h1 : (k.tmod L).natAbs < L := by
    have := Int.natAbs_tmod k L
    rw [this]
    exact Nat.mod_lt _ (by simpa using h0)
  have e : wrap64 (k.tmod L + L) = k.tmod L + L := by unfold wrap64; omega
  rw [e]
  have h2 : 0 ≤ k.tmod L + L := by omega
  refine ⟨((k.tmod L + L).tmod L).toNat, ?_, ?_⟩
  · have := Int.tmod_lt_of_pos (k.tmod L + L) (b := (L : Int)) (by omega)
    have := Int.tmod_nonneg (a := k.tmod L + L) (L : Int) h2
    omega
  · have := Int.tmod_nonneg (a := k.tmod L + L) (L : Int) h2
    omega
theorem laid_list (q : ByteArray) (j : Nat) (m : Array UInt8) : (q.extract 0 j ++ ⟨m⟩ ++ q.extract j q.size).data.toList = q.data.toList.take j ++ m.toList ++ q.data.toList.drop j := by
  have h : q.data.size = q.size := rfl
  simp only [ByteArray.data_append, ByteArray.data_extract, Array.toList_append, Array.toList_extract, List.extract_eq_take_drop, List.drop_zero, Nat.sub_zero]
  rw [List.take_of_length_le (l := List.drop j q.data.toList) (by simp [h])]
theorem laid_size (q : ByteArray) (j : Nat) (hj : j < q.size) (m : Array UInt8) : (q.extract 0 j ++ ⟨m⟩ ++ q.extract j q.size).size = q.size + m.size := by
  have e := congrArg List.length (laid_list q j m)
  simp only [List.length_append, List.length_take, List.length_drop, Array.length_toList] at e
  have h : q.data.size = q.size := rfl
  have h2 : ∀ b : ByteArray, b.data.size = b.size := fun _ => rfl
  rw [h2, h] at e
  omega
theorem part_at (q : ByteArray) (j : Nat) (hj : j < q.size) (hc : ((q[j].toNat : Int) == 47) = true) : q.data.toList = q.data.toList.take j ++ 47 :: q.data.toList.drop (j + 1) := by
  have h47 : q[j] = 47 := by
    have h := eq_of_beq hc
    exact UInt8.toNat_inj.1 (by have : ((47 : UInt8).toNat) = 47 := rfl; omega)
  have := List.drop_eq_getElem_cons (i := j) (l := q.data.toList) (by simpa using hj)
  conv => lhs; rw [← List.take_append_drop j q.data.toList]
  rw [this]
  congr 2
theorem laid_one {s p : List UInt8} (hn : normal s = some p) (q : ByteArray) (hq : q.data.toList = p) (j : Nat) (hj : j < q.size) (hc : ((q[j].toNat : Int) == 47) = true) :
    normal (q.extract 0 j ++ ⟨#[47, 46]⟩ ++ q.extract j q.size).data.toList = some p := by
  subst hq
  have e := part_at q j hj hc
  rw [laid_list, e]
  have hd : (List.take j q.data.toList ++ 47 :: List.drop (j + 1) q.data.toList).drop j = 47 :: List.drop (j + 1) q.data.toList := by rw [List.drop_left' (by simp; omega)]
  have ht : (List.take j q.data.toList ++ 47 :: List.drop (j + 1) q.data.toList).take j = List.take j q.data.toList := by rw [List.take_left' (by simp; omega)]
  rw [hd, ht]
  exact normal_dot (by rw [← e]; exact hn)
theorem laid_two {s p : List UInt8} (hn : normal s = some p) (q : ByteArray) (hq : q.data.toList = p) (j : Nat) (hj : j < q.size) (hc : ((q[j].toNat : Int) == 47) = true) :
    normal (q.extract 0 j ++ ⟨#[47, 120, 47, 37, 50, 69, 46]⟩ ++ q.extract j q.size).data.toList = some p := by
  subst hq
  have e := part_at q j hj hc
  rw [laid_list, e]
  have hd : (List.take j q.data.toList ++ 47 :: List.drop (j + 1) q.data.toList).drop j = 47 :: List.drop (j + 1) q.data.toList := by rw [List.drop_left' (by simp; omega)]
  have ht : (List.take j q.data.toList ++ 47 :: List.drop (j + 1) q.data.toList).take j = List.take j q.data.toList := by rw [List.take_left' (by simp; omega)]
  rw [hd, ht]
  exact normal_dots (by rw [← e]; exact hn)
theorem glue_head {out : List (List UInt8)} (h : out ≠ []) : ∃ r, glue out = 47 :: r := by
  cases out with
  | nil => exact absurd rfl h
  | cons a r => exact ⟨_, rfl⟩

set_option maxRecDepth 100000 in
set_option maxHeartbeats 4000000 in
theorem prefix_main (s : ByteArray) (k : Int) (tw : Bool) (w : World) (hs : s.size ≤ 1048576) (hr : Rdy w) (hk1 : -9223372036854775808 ≤ k) (hk2 : k ≤ 9223372036854775807) (p : List UInt8) (hn : normal s.data.toList = some p) (hl : p.length ≤ 20000) :
    Calls Tryd.prog 6 #[.string s, .int .i64 k, .bool tw] w (PreIs w) := by
  obtain ⟨out, hg, hne, -⟩ := normal_facts hn
  obtain ⟨r, hgr⟩ := glue_head hne
  have hp0 : p = 47 :: r := hg.trans hgr
  have HN := Lib.hid (show textOr (normal s.data.toList) 23 = .tuple #[.string (txt p), .nilIface] by rw [hn]; rfl)
  have HNN := Lib.hid hn
  have hpl := normal_len hn
  rw [len] at hpl
  have hq := txt_size p
  have hqd := Lib.hid (txt_data p)
  have h0 : 0 < (txt p).size := by rw [hq, hp0]; simp
  have h0e : ((txt p)[0]).toNat = 47 := by
    have : (txt p)[0] = p[0]'(by rw [← hq]; exact h0) := rfl
    rw [this]; simp [hp0]
  rw [← hq] at hl hpl
  have HQ := Lib.hid hq
  clear hq
  generalize txt p = q at HN HQ hqd h0 h0e hl hpl
  have hb0 : (((q[0]).toNat : Int) == 47) = true := by rw [h0e]; rfl
  have he := nonempty_of h0
  have he2 := ne_of_nonempty he
  clear hn hg hgr hp0 h0e
  go_enter Tryd.func6, Tryd.ntmps6
  go_wp2_with fail
  refine (normal_calls _ _ (by omega) hr).mono ?_
  rw [HN.out]
  rintro e w1 ⟨rfl, hb⟩
  have hr1 := hr.below hb
  go_wp2_with fail
  obtain ⟨j0, hj0, ej0⟩ := start_at k q.size h0 hl
  rw [ej0]
  have hzero : ∀ j : Nat, ∀ h : j < q.size, ¬ ((q[j].toNat : Int) == 47) = true → 0 < j := by
    intro j h hne
    cases j with
    | zero => exact absurd hb0 hne
    | succ j => omega
  clear hb0
  go_loop [1] (fun i => ∃ j : Nat, j < q.size ∧ i = .int .i64 j) (fun i => (intOf i).toNat)
  case atStart => exact ⟨j0, by omega, rfl⟩
  case round =>
    obtain ⟨j, hj, rfl⟩ := hrel
    cases hc : ((q[j].toNat : Int) == 47) with
    | false =>
      have := hzero j hj (by rw [hc]; simp)
      go_wp2_with fail
      go_round
      case rel => exact ⟨j - 1, by omega, by congr 1; omega⟩
      case measure => simp [intOf]; omega
    | true =>
      cases tw with
      | false =>
        have HL := Lib.hid (show textOr (normal (q.extract 0 j ++ ⟨#[47, 46]⟩ ++ q.extract j q.size).data.toList) 23 = .tuple #[.string q, .nilIface] by
          rw [laid_one HNN.out q hqd.out j hj hc, ← hqd.out]; rfl)
        have hsz := laid_size q j hj #[47, 46]
        go_wp2_with fail
        refine wp_region_any (by kernel_rfl) ?_
        change wpAny _ _ _ _ _ _ _ (World.drew _)
        refine wpAny_take (i := 0) (v := ?v0false) rfl (by kernel_rfl) (by kernel_rfl) (by kernel_rfl) (fun _ _ _ h => h) (Or.inl ⟨by rfl, ?hy0false⟩) ?rest0false
        case hy0false => intro w; go_simp; (try with_reducible rfl); try (first | rw [if_pos (by omega)] | rw [if_neg (by omega)]); (try go_simp); (try with_reducible rfl)
        refine wpAny_take (i := 1) (v := ?v1false) rfl (by kernel_rfl) (by kernel_rfl) (by kernel_rfl) (fun _ _ _ h => h) (Or.inl ⟨by rfl, ?hy1false⟩) ?rest1false
        case hy1false => intro w; go_simp; (try with_reducible rfl); try (first | rw [if_pos (by omega)] | rw [if_neg (by omega)]); (try go_simp); (try with_reducible rfl)
        refine wpAny_take (i := 2) (v := ?v2false) rfl (by kernel_rfl) (by kernel_rfl) (by kernel_rfl) (fun _ _ _ h => h) (Or.inl ⟨by rfl, ?hy2false⟩) ?rest2false
        case hy2false => intro w; go_simp; (try with_reducible rfl); try (first | rw [if_pos (by omega)] | rw [if_neg (by omega)]); (try go_simp); (try with_reducible rfl)
        refine wpAny_take (i := 3) (v := ?v3false) rfl (by kernel_rfl) (by kernel_rfl) (by kernel_rfl) (fun _ _ _ h => h) (Or.inl ⟨by rfl, ?hy3false⟩) ?rest3false
        case hy3false => intro w; go_simp; (try with_reducible rfl); try (first | rw [if_pos (by omega)] | rw [if_neg (by omega)]); (try go_simp); (try with_reducible rfl)
        refine wpAny_take (i := 4) (v := ?v4false) rfl (by kernel_rfl) (by kernel_rfl) (by kernel_rfl) (fun _ _ _ h => h) (Or.inl ⟨by rfl, ?hy4false⟩) ?rest4false
        case hy4false => intro w; go_simp; (try with_reducible rfl); try (first | rw [if_pos (by omega)] | rw [if_neg (by omega)]); (try go_simp); (try with_reducible rfl)
        refine wpAny_take (i := 5) (v := ?v5false) rfl (by kernel_rfl) (by kernel_rfl) (by kernel_rfl) (fun _ _ _ h => h) (Or.inl ⟨by rfl, ?hy5false⟩) ?rest5false
        case hy5false => intro w; go_simp; (try with_reducible rfl); try (first | rw [if_pos (by omega)] | rw [if_neg (by omega)]); (try go_simp); (try with_reducible rfl)
        refine wpAny_take (i := 6) (v := ?v6false) rfl (by kernel_rfl) (by kernel_rfl) (by kernel_rfl) (fun _ _ _ h => h) (Or.inl ⟨by rfl, ?hy6false⟩) ?rest6false
        case hy6false => intro w; go_simp; (try with_reducible rfl); try (first | rw [if_pos (by omega)] | rw [if_neg (by omega)]); (try go_simp); (try with_reducible rfl)
        refine wpAny_take (i := 7) (v := ?v7false) rfl (by kernel_rfl) (by kernel_rfl) (by kernel_rfl) (fun _ _ _ h => h) (Or.inl ⟨by rfl, ?hy7false⟩) ?rest7false
        case hy7false => intro w; go_simp; (try with_reducible rfl); try (first | rw [if_pos (by omega)] | rw [if_neg (by omega)]); (try go_simp); (try with_reducible rfl)
        refine wpAny_take (i := 8) (v := ?v8false) rfl (by kernel_rfl) (by kernel_rfl) (by kernel_rfl) (fun _ _ _ h => h) (Or.inl ⟨by rfl, ?hy8false⟩) ?rest8false
        case hy8false => intro w; go_simp; (try with_reducible rfl); try (first | rw [if_pos (by omega)] | rw [if_neg (by omega)]); (try go_simp); (try with_reducible rfl)
        refine wpAny_ready (rs := [9]) (by kernel_rfl) (by simp) ?_
        refine AllReady.cons rfl (fun K hK => ?_) AllReady.nil
        go_simp
        refine (normal_calls _ _ (by rw [hsz]; simp; omega) (hr1.below (below_dr (Below.refl w1.heap.size w1) ⟨⟨1, rfl⟩⟩))).mono ?_
        rw [HL.out]
        rintro e w3 ⟨rfl, hb3⟩
        go_simp
        refine hK _ _ ?_
        clear hK K
        refine wpAny_take (i := 10) (v := ?v10false) rfl (by kernel_rfl) (by kernel_rfl) (by kernel_rfl) (fun _ _ _ h => h) (Or.inl ⟨by rfl, ?hy10false⟩) ?rest10false
        case hy10false => intro w; go_simp; (try with_reducible rfl)
        refine wpAny_take (i := 11) (v := ?v11false) rfl (by kernel_rfl) (by kernel_rfl) (by kernel_rfl) (fun _ _ _ h => h) (Or.inl ⟨by rfl, ?hy11false⟩) ?rest11false
        case hy11false => intro w; go_simp; (try with_reducible rfl)
        refine wpAny_take (i := 12) (v := ?v12false) rfl (by kernel_rfl) (by kernel_rfl) (by kernel_rfl) (fun _ _ _ h => h) (Or.inl ⟨by rfl, ?hy12false⟩) ?rest12false
        case hy12false => intro w; go_simp; (try with_reducible rfl)
        refine wpAny_take (i := 13) (v := ?v13false) rfl (by kernel_rfl) (by kernel_rfl) (by kernel_rfl) (fun _ _ _ h => h) (Or.inl ⟨by rfl, ?hy13false⟩) ?rest13false
        case hy13false => intro w; go_simp; (try with_reducible rfl)
        refine wpAny_take (i := 14) (v := ?v14false) rfl (by kernel_rfl) (by kernel_rfl) (by kernel_rfl) (fun _ _ _ h => h) (Or.inl ⟨by rfl, ?hy14false⟩) ?rest14false
        case hy14false => intro w; go_simp; (try with_reducible rfl)
        refine wpAny_done (by kernel_rfl) ?_ _
        have hb4 : Below w1.heap.size w1 w3 := Below.trans2 (below_dr (Below.refl w1.heap.size w1) ⟨⟨1, rfl⟩⟩) (Nat.le_refl _) hb3
        have hr3 := hr1.below hb4
        clear HL hb3
        go_wp2_with (first | (go_at_call 13; refine (works_calls _ hr3).mono ?_; rintro e w4 ⟨rfl, hb5⟩))
        go_ret
        exact ⟨rfl, Below.trans2 (Below.trans2 hb hb.size hb4) (Nat.le_trans hb.size hb4.size) hb5⟩
      | true =>
        have HL := Lib.hid (show textOr (normal (q.extract 0 j ++ ⟨#[47, 120, 47, 37, 50, 69, 46]⟩ ++ q.extract j q.size).data.toList) 23 = .tuple #[.string q, .nilIface] by
          rw [laid_two HNN.out q hqd.out j hj hc, ← hqd.out]; rfl)
        have hsz := laid_size q j hj #[47, 120, 47, 37, 50, 69, 46]
        go_wp2_with fail
        refine wp_region_any (by kernel_rfl) ?_
        change wpAny _ _ _ _ _ _ _ (World.drew _)
        refine wpAny_take (i := 0) (v := ?v0true) rfl (by kernel_rfl) (by kernel_rfl) (by kernel_rfl) (fun _ _ _ h => h) (Or.inl ⟨by rfl, ?hy0true⟩) ?rest0true
        case hy0true => intro w; go_simp; (try with_reducible rfl); try (first | rw [if_pos (by omega)] | rw [if_neg (by omega)]); (try go_simp); (try with_reducible rfl)
        refine wpAny_take (i := 1) (v := ?v1true) rfl (by kernel_rfl) (by kernel_rfl) (by kernel_rfl) (fun _ _ _ h => h) (Or.inl ⟨by rfl, ?hy1true⟩) ?rest1true
        case hy1true => intro w; go_simp; (try with_reducible rfl); try (first | rw [if_pos (by omega)] | rw [if_neg (by omega)]); (try go_simp); (try with_reducible rfl)
        refine wpAny_take (i := 2) (v := ?v2true) rfl (by kernel_rfl) (by kernel_rfl) (by kernel_rfl) (fun _ _ _ h => h) (Or.inl ⟨by rfl, ?hy2true⟩) ?rest2true
        case hy2true => intro w; go_simp; (try with_reducible rfl); try (first | rw [if_pos (by omega)] | rw [if_neg (by omega)]); (try go_simp); (try with_reducible rfl)
        refine wpAny_take (i := 3) (v := ?v3true) rfl (by kernel_rfl) (by kernel_rfl) (by kernel_rfl) (fun _ _ _ h => h) (Or.inl ⟨by rfl, ?hy3true⟩) ?rest3true
        case hy3true => intro w; go_simp; (try with_reducible rfl); try (first | rw [if_pos (by omega)] | rw [if_neg (by omega)]); (try go_simp); (try with_reducible rfl)
        refine wpAny_take (i := 4) (v := ?v4true) rfl (by kernel_rfl) (by kernel_rfl) (by kernel_rfl) (fun _ _ _ h => h) (Or.inl ⟨by rfl, ?hy4true⟩) ?rest4true
        case hy4true => intro w; go_simp; (try with_reducible rfl); try (first | rw [if_pos (by omega)] | rw [if_neg (by omega)]); (try go_simp); (try with_reducible rfl)
        refine wpAny_take (i := 5) (v := ?v5true) rfl (by kernel_rfl) (by kernel_rfl) (by kernel_rfl) (fun _ _ _ h => h) (Or.inl ⟨by rfl, ?hy5true⟩) ?rest5true
        case hy5true => intro w; go_simp; (try with_reducible rfl); try (first | rw [if_pos (by omega)] | rw [if_neg (by omega)]); (try go_simp); (try with_reducible rfl)
        refine wpAny_take (i := 6) (v := ?v6true) rfl (by kernel_rfl) (by kernel_rfl) (by kernel_rfl) (fun _ _ _ h => h) (Or.inl ⟨by rfl, ?hy6true⟩) ?rest6true
        case hy6true => intro w; go_simp; (try with_reducible rfl); try (first | rw [if_pos (by omega)] | rw [if_neg (by omega)]); (try go_simp); (try with_reducible rfl)
        refine wpAny_take (i := 7) (v := ?v7true) rfl (by kernel_rfl) (by kernel_rfl) (by kernel_rfl) (fun _ _ _ h => h) (Or.inl ⟨by rfl, ?hy7true⟩) ?rest7true
        case hy7true => intro w; go_simp; (try with_reducible rfl); try (first | rw [if_pos (by omega)] | rw [if_neg (by omega)]); (try go_simp); (try with_reducible rfl)
        refine wpAny_take (i := 8) (v := ?v8true) rfl (by kernel_rfl) (by kernel_rfl) (by kernel_rfl) (fun _ _ _ h => h) (Or.inl ⟨by rfl, ?hy8true⟩) ?rest8true
        case hy8true => intro w; go_simp; (try with_reducible rfl); try (first | rw [if_pos (by omega)] | rw [if_neg (by omega)]); (try go_simp); (try with_reducible rfl)
        refine wpAny_ready (rs := [9]) (by kernel_rfl) (by simp) ?_
        refine AllReady.cons rfl (fun K hK => ?_) AllReady.nil
        go_simp
        refine (normal_calls _ _ (by rw [hsz]; simp; omega) (hr1.below (below_dr (Below.refl w1.heap.size w1) ⟨⟨1, rfl⟩⟩))).mono ?_
        rw [HL.out]
        rintro e w3 ⟨rfl, hb3⟩
        go_simp
        refine hK _ _ ?_
        clear hK K
        refine wpAny_take (i := 10) (v := ?v10true) rfl (by kernel_rfl) (by kernel_rfl) (by kernel_rfl) (fun _ _ _ h => h) (Or.inl ⟨by rfl, ?hy10true⟩) ?rest10true
        case hy10true => intro w; go_simp; (try with_reducible rfl)
        refine wpAny_take (i := 11) (v := ?v11true) rfl (by kernel_rfl) (by kernel_rfl) (by kernel_rfl) (fun _ _ _ h => h) (Or.inl ⟨by rfl, ?hy11true⟩) ?rest11true
        case hy11true => intro w; go_simp; (try with_reducible rfl)
        refine wpAny_take (i := 12) (v := ?v12true) rfl (by kernel_rfl) (by kernel_rfl) (by kernel_rfl) (fun _ _ _ h => h) (Or.inl ⟨by rfl, ?hy12true⟩) ?rest12true
        case hy12true => intro w; go_simp; (try with_reducible rfl)
        refine wpAny_take (i := 13) (v := ?v13true) rfl (by kernel_rfl) (by kernel_rfl) (by kernel_rfl) (fun _ _ _ h => h) (Or.inl ⟨by rfl, ?hy13true⟩) ?rest13true
        case hy13true => intro w; go_simp; (try with_reducible rfl)
        refine wpAny_take (i := 14) (v := ?v14true) rfl (by kernel_rfl) (by kernel_rfl) (by kernel_rfl) (fun _ _ _ h => h) (Or.inl ⟨by rfl, ?hy14true⟩) ?rest14true
        case hy14true => intro w; go_simp; (try with_reducible rfl)
        refine wpAny_done (by kernel_rfl) ?_ _
        have hb4 : Below w1.heap.size w1 w3 := Below.trans2 (below_dr (Below.refl w1.heap.size w1) ⟨⟨1, rfl⟩⟩) (Nat.le_refl _) hb3
        have hr3 := hr1.below hb4
        clear HL hb3
        go_wp2_with (first | (go_at_call 13; refine (works_calls _ hr3).mono ?_; rintro e w4 ⟨rfl, hb5⟩))
        go_ret
        exact ⟨rfl, Below.trans2 (Below.trans2 hb hb.size hb4) (Nat.le_trans hb.size hb4.size) hb5⟩
end Go.Proofs.YthobmfnmenbkeaaDoor
