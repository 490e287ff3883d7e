/- The statement 'TargetMeant', walked. -/
import Derived.Test.YthobmfnmenbkeaaDoorW14
import Derived.Test.YthobmfnmenbkeaaDoorSeg
set_option linter.unusedVariables false
set_option linter.unusedSimpArgs false
namespace Go.Proofs.YthobmfnmenbkeaaDoor
open Go.RowKit Tg

theorem StrsAt.parts {w : World} {v : Value} {xs : List (List UInt8)} (h : StrsAt w v xs) : ∃ o cap, v = .slice o xs.length cap ∧ ∀ j (h : j < xs.length), ∃ b, o = some ⟨b, 0, none⟩ ∧ w.cell? ⟨b, j, none⟩ = some (.string (txt xs[j])) := by
  rcases h with ⟨rfl, rfl⟩ | ⟨b, cap, rfl, h2, h3⟩
  · exact ⟨none, 0, rfl, fun j h => absurd h (by simp)⟩
  · exact ⟨some ⟨b, 0, none⟩, cap, rfl, fun j h => ⟨b, rfl, h3 j h⟩⟩

set_option maxRecDepth 100000 in
theorem same_calls (va vb : Value) (xs : List (List UInt8)) (w : World) (hl : xs.length ≤ 4294967296) (ha : StrsAt w va xs) (hb : StrsAt w vb xs) : Calls Tryd.prog 18 #[va, vb] w fun e w' => e = .returned (.bool true) ∧ Dr w w' := by
  obtain ⟨oa, ca, rfl, fa⟩ := ha.parts
  obtain ⟨ob, cb, rfl, fb⟩ := hb.parts
  clear ha hb
  have FA := Lib.hid fa
  have FB := Lib.hid fb
  clear fa fb
  go_enter Tryd.func18, Tryd.ntmps18
  go_wp2_with fail
  go_loopw [5] (fun i wr => ∃ k : Nat, k ≤ xs.length ∧ i = .int .i64 k ∧ Dr w wr) (fun i _ => xs.length - (intOf i).toNat)
  case atStart => exact ⟨0, Nat.zero_le _, rfl, ⟨⟨0, rfl⟩⟩⟩
  case round =>
    obtain ⟨k, hk, rfl, ⟨m, rfl⟩⟩ := hrel
    by_cases hlt : k < xs.length
    · obtain ⟨b, e1, h1⟩ := FA.out k hlt
      obtain ⟨c, e2, h2⟩ := FB.out k hlt
      clear FA FB
      subst e1 e2
      go_wp2_with fail
      go_quiet (fail)
      go_wp2_with fail
      exact ⟨⟨k + 1, by omega, by go_num, ⟨⟨_, rfl⟩⟩⟩, by simp [intOf]; omega⟩
    · go_wp2_with fail
      go_ret
      exact ⟨rfl, ⟨⟨m, rfl⟩⟩⟩

theorem extract_list (q : ByteArray) (a k : Nat) : (q.extract a k).data.toList = (q.data.toList.take k).drop a := by
  simp only [ByteArray.data_extract, Array.toList_extract, List.extract_eq_take_drop, List.drop_take]
theorem at_list {q : ByteArray} {p : List UInt8} (h : q.data.toList = p) {k : Nat} (hk : k < q.size) : p[k]? = some q[k] := by
  subst h
  rw [List.getElem?_eq_getElem (by simpa using hk)]; rfl
theorem byte_of_beq {a b : UInt8} (h : ((a.toNat : Int) == b.toNat) = true) : a = b := UInt8.toNat_inj.1 (by have := eq_of_beq h; omega)
theorem ne_of_beq {a b : UInt8} (h : ((a.toNat : Int) == b.toNat) = false) : a ≠ b := fun e => by subst e; simp at h
theorem neq_of {x y : Int} {r : Bool} (h : (x == y) = r) : (x != y) = !r := by rw [bne, h]
theorem segsOut_len (l : List UInt8) : (segsOut l).2.length ≤ 64 := by
  unfold segsOut
  split
  · simp
  · split
    · simp
    · simp; omega

set_option maxRecDepth 100000 in
set_option maxHeartbeats 1000000 in
theorem tmeant_none (s : ByteArray) (w : World) (hs : s.size ≤ 1048576) (hr : Rdy w) (hn : normal s.data.toList = none) : Calls Tryd.prog 5 #[.string s] w (PreIs w) := by
  have HN := Lib.hid (show textOr (normal s.data.toList) 23 = .tuple #[.string ⟨#[]⟩, .iface 56 (.int .i64 23)] by rw [hn]; rfl)
  clear hn
  go_enter Tryd.func5, Tryd.ntmps5
  go_wp2_with fail
  refine (normal_calls _ _ (by omega) hr).mono ?_
  rw [HN.out]
  rintro e w1 ⟨rfl, hb⟩
  have hr1 := hr.below hb
  go_wp2_with fail
  refine (works_calls _ hr1).mono ?_
  rintro e w2 ⟨rfl, hb2⟩
  go_wp2_with fail
  go_ret
  exact ⟨rfl, Below.trans2 hb hb.size hb2⟩

set_option maxRecDepth 100000 in
set_option maxHeartbeats 4000000 in
theorem tmeant_main (s : ByteArray) (w : World) (hs : s.size ≤ 1048576) (hr : Rdy w) (p : List UInt8) (hn : normal s.data.toList = some p) : Calls Tryd.prog 5 #[.string s] w (PreIs w) := by
  obtain ⟨out, hg, hne, hnd, hns, hcn⟩ := normal_facts hn
  have SEG := Lib.hid (seg_start hg hne hnd hns)
  have CAN := Lib.hid hcn
  obtain ⟨r, hgr⟩ := glue_head hne
  have hp0 : p = 47 :: r := hg.trans hgr
  have HN := Lib.hid (show textOr (normal s.data.toList) 23 = .tuple #[.string (txt p), .nilIface] by rw [hn]; rfl)
  have HN2 := Lib.hid (show textOr (normal (txt p).data.toList) 23 = .tuple #[.string (txt p), .nilIface] by rw [txt_data, normal_idem hn]; rfl)
  have HS := Lib.hid (show segsOut (txt p).data.toList = segsOut s.data.toList by rw [txt_data]; unfold segsOut; rw [normal_idem hn, hn])
  have hpl := normal_len hn
  rw [len] at hpl
  have hq := txt_size p
  rw [← hq] at hpl
  have hqd := Lib.hid (txt_data p)
  have h0 : 0 < (txt p).size := by rw [hq, hp0]; simp
  have h0e : ((txt p)[0]).toNat = 47 := by
    have : (txt p)[0] = p[0]'(by rw [← hq]; exact h0) := rfl
    rw [this]; simp [hp0]
  have HQ := Lib.hid hq
  clear hq
  generalize txt p = q at HN HN2 HS HQ hqd h0 h0e hpl
  have hb0 : (((q[0]).toNat : Int) == 47) = true := by rw [h0e]; rfl
  have hb0n := neq_of hb0
  have he := nonempty_of h0
  have he2 := ne_of_nonempty he
  have hxl := segsOut_len s.data.toList
  clear hn hg hgr hp0 h0e hnd hns hcn hne
  go_enter Tryd.func5, Tryd.ntmps5
  go_wp2_with fail
  refine (normal_calls _ _ (by omega) hr).mono ?_
  rw [HN.out]
  rintro e w1 ⟨rfl, hb1⟩
  have hr1 := hr.below hb1
  go_wp2_with fail
  refine (normal_calls _ _ (by omega) hr1).mono ?_
  rw [HN2.out]
  rintro e w2 ⟨rfl, hb2⟩
  have hr2 := hr1.below hb2
  have hc2 := Below.trans2 hb1 hb1.size hb2
  clear hb1 hb2 hr1
  go_wp2_with fail
  refine (segments_calls _ _ (by omega) hr2).mono ?_
  rintro e w3 ⟨v1, rfl, hs1, hb3⟩
  have hr3 := hr2.below hb3
  have hc3 := Below.trans2 hc2 hc2.size hb3
  clear hb3 hc2 hr2
  go_wp2_with fail
  refine (segments_calls _ _ (by omega) hr3).mono ?_
  rintro e w4 ⟨v2, rfl, hs2, hb4⟩
  rw [HS.out] at hs2 ⊢
  have hs3 := hs1.below hb4
  have hr4 := hr3.below hb4
  have hc4 := Below.trans2 hc3 hc3.size hb4
  clear hb4 hc3 hr3 hs1
  generalize (segsOut s.data.toList).1 = n at *
  generalize (segsOut s.data.toList).2 = xs at *
  go_wp2_with (first | (go_at_call 18; refine (same_calls _ _ xs _ (by omega) hs3 hs2).mono ?_; rintro e w' ⟨rfl, ⟨m, rfl⟩⟩) | (go_at_call 12; refine (num_calls _ _).mono ?_; rintro e w' ⟨rfl, rfl⟩))
  have hr5 := hr4.below (below_dr (Below.refl w4.heap.size w4) ⟨⟨m, rfl⟩⟩)
  have hc5 := Below.trans2 hc4 hc4.size (below_dr (Below.refl w4.heap.size w4) ⟨⟨m, rfl⟩⟩)
  clear hs2 hs3 hr4 hc4
  generalize w4.drewN m = w5 at *
  go_loop [11, 12] (fun a i => ∃ ka k : Nat, a = .int .i64 ka ∧ i = .int .i64 k ∧ (k ≤ q.size ∧ SegAt p ka k ∨ k = q.size + 1)) (fun a i => q.size + 1 - (intOf i).toNat)
  case atStart => exact ⟨1, 1, rfl, rfl, .inl ⟨by omega, SEG.out⟩⟩
  case round =>
    obtain ⟨ka, k, rfl, rfl, hcase⟩ := hrel
    by_cases hk : k ≤ q.size
    · have hseg : SegAt p ka k := by
        rcases hcase with h | h
        · exact h.2
        · omega
      clear hcase
      have hak : ka ≤ k := by obtain ⟨x, xs, h1, h2, h3, h4, h5, h6, h7⟩ := hseg; exact h5
      have HSG := Lib.hid hseg
      clear hseg
      by_cases hlt : k < q.size
      · have hgk := Lib.hid (at_list hqd.out hlt)
        have hlp := Lib.hid (show k < p.length by rw [← HQ.out]; exact hlt)
        cases hcc : ((q[k].toNat : Int) == 47) with
        | false =>
          have hcn := neq_of hcc
          go_wp2_with fail
          go_round
          case rel => exact ⟨ka, k + 1, rfl, by go_num, .inl ⟨by omega, seg_step HSG.out hlp.out (by rw [hgk.out]; intro e; exact ne_of_beq (b := 47) hcc (Option.some.inj e))⟩⟩
          case measure => simp [intOf]; omega
        | true =>
          have hcn := neq_of hcc
          have hse := Lib.hid (seg_end HSG.out (Nat.le_of_lt hlp.out) (fun _ => by rw [hgk.out, byte_of_beq (b := 47) hcc]))
          have e1 : ((q.extract ka k).toList == [46]) = false := str_not (by rw [extract_list, hqd.out]; exact hse.out.1.1)
          have e2 : ((q.extract ka k).toList == [46, 46]) = false := str_not (by rw [extract_list, hqd.out]; exact hse.out.1.2)
          go_wp2_with fail
          go_round
          case rel => exact ⟨k + 1, k + 1, by go_num, by go_num, .inl ⟨by omega, hse.out.2 hlp.out⟩⟩
          case measure => simp [intOf]; omega
      · have hse := Lib.hid (seg_end HSG.out (by rw [← HQ.out]; exact hk) (fun h => absurd (HQ.out ▸ h) hlt))
        have e1 : ((q.extract ka k).toList == [46]) = false := str_not (by rw [extract_list, hqd.out]; exact hse.out.1.1)
        have e2 : ((q.extract ka k).toList == [46, 46]) = false := str_not (by rw [extract_list, hqd.out]; exact hse.out.1.2)
        go_wp2_with fail
        go_round
        case rel => exact ⟨k + 1, k + 1, by go_num, by go_num, .inr (by omega)⟩
        case measure => simp [intOf]; omega
    · clear hcase
      go_wp2_with fail
      go_loopw [13] (fun i wr => ∃ k : Nat, k ≤ q.size ∧ i = .int .i64 k ∧ Below w5.heap.size w5 wr) (fun i _ => q.size - (intOf i).toNat)
      case atStart => exact ⟨0, Nat.zero_le _, rfl, Below.refl _ _⟩
      case round =>
        obtain ⟨k, hk, rfl, hbw⟩ := hrel
        have hrw := hr5.below hbw
        by_cases hlt : k + 2 < q.size
        · cases hcc : ((q[k].toNat : Int) == 37) with
          | false =>
            have hcn := neq_of hcc
            go_wp2_with fail
            exact ⟨⟨k + 1, by omega, by go_num, hbw⟩, by simp [intOf]; omega⟩
          | true =>
            have hcn := neq_of hcc
            obtain ⟨v, hv1, hv2, hv3, hv4⟩ := code_at CAN.out (i := k) (by rw [at_list hqd.out (by omega), byte_of_beq (b := 37) hcc])
            have HD := Lib.hid (show textOr (decoded (q.extract k (k + 3)).data.toList) 23 = .tuple #[.string ⟨#[v]⟩, .nilIface] by rw [extract_list, hqd.out, hv1, decoded_up]; rfl)
            have hu := up_lo v
            rw [at_list hqd.out (by omega)] at hv3 hv4
            have hu1 : (q[k + 1].toNat : Int) < 97 := by rw [Option.some.inj hv3]; have := UInt8.lt_iff_toNat_lt.1 hu.1; simp at this; omega
            have hu2 : (q[k + 2].toNat : Int) < 97 := by rw [Option.some.inj hv4]; have := UInt8.lt_iff_toNat_lt.1 hu.2; simp at this; omega
            clear hv1 hv3 hv4 hu
            have hsz : (q.extract k (k + 3)).size ≤ 140737488355328 := by simp; omega
            go_wp2_with (first | (go_at_call 19; refine (decode_calls _ _ hsz).mono ?_; rw [HD.out]; rintro e w6 ⟨rfl, hb6⟩) | (go_at_call 20; refine (rUnreserved_calls v _).mono ?_; rintro e w' ⟨rfl, rfl⟩))
            exact ⟨⟨k + 1, by omega, by go_num, Below.trans2 hbw hbw.size hb6⟩, by simp [intOf]; omega⟩
        · go_wp2_with (first | (go_at_call 13; refine (works_calls _ hrw).mono ?_; rintro e w6 ⟨rfl, hb6⟩))
          go_ret
          exact ⟨rfl, Below.trans2 (Below.trans2 hc5 hc5.size hbw) (Nat.le_trans hc5.size hbw.size) hb6⟩
end Go.Proofs.YthobmfnmenbkeaaDoor
