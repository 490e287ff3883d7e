/- The program's 'Parse' at every target, what is asked of its letters given. -/
import Derived.Test.YthobmfnmenbkeaaDoorW10
set_option linter.unusedVariables false
set_option linter.unusedSimpArgs false
namespace Go.Proofs.YthobmfnmenbkeaaDoor
open Go.RowKit Tg

set_option maxRecDepth 100000 in
set_option maxHeartbeats 1000000 in
theorem parse_star (s : ByteArray) (w : World) (h1 : s.data.toList = [42]) : Calls Tryd.prog 10 #[.string s] w fun e w' => e = .returned (parseV (parse s.data.toList)) ∧ Below w.heap.size w w' := by
  have HP := Lib.hid (show parse s.data.toList = (0, ⟨3, [], [], [], false⟩) by rw [h1]; decide)
  have hs : s.size = 1 := by rw [← len, h1]; rfl
  have hs2 : (s.size : Int) ≤ 65536 := by omega
  have e1 := str_is h1
  have HS := Lib.hid hs
  clear h1 hs
  go_enter Tryd.func10, Tryd.ntmps10
  go_wp2_with fail
  refine bodyPost_ret (v := parseV (0, ⟨3, [], [], [], false⟩)) ?h1 rfl ?h3
  case h1 => simp [results, Tryd.results10, go_sem, parseV, tgtV, zeroT, errV]
  case h3 =>
    refine ⟨by rw [HP.out], ?_⟩
    repeat (first | (with_reducible refine Below.setCell ?_ (by simp) _) | (with_reducible refine bel_drewN ?_ _) | (with_reducible refine Below.alloc ?_ (by simp) _) | (with_reducible exact Below.refl _ _))

theorem parse_calls (s : ByteArray) (w : World) (hr : Rdy w) (hL : 7 ≤ s.size → s.size ≤ 65536 → LowOn (s.extract 0 7)) (hA : 7 ≤ s.size → s.size ≤ 65536 → AnyOn (s.extract 7 s.size)) :
    Calls Tryd.prog 10 #[.string s] w fun e w' => e = .returned (parseV (parse s.data.toList)) ∧ Below w.heap.size w w' := by
  by_cases hl : s.size ≤ 65536
  · by_cases h1 : s.data.toList = [42]
    · exact parse_star s w h1
    · by_cases h7 : s.size < 7
      · exact parse_plain s w hr hl h1 h7
      · by_cases hn : lower (s.data.toList.take 7) = http
        · exact parse_host s w hr hl h1 (by omega) (hL (by omega) hl) (hA (by omega) hl) hn
        · exact parse_other s w hr hl h1 (by omega) (hL (by omega) hl) hn
  · exact parse_long s w (by omega)

theorem parse_ascii (s : ByteArray) (w : World) (hr : Rdy w) (ha : ∀ c ∈ s.data.toList, c.toNat < 128) : Calls Tryd.prog 10 #[.string s] w fun e w' => e = .returned (parseV (parse s.data.toList)) ∧ Below w.heap.size w w' := by
  refine parse_calls s w hr (fun _ h => lowOn_ascii _ (by simp; omega) fun c hc => ha c ?_) (fun _ h => anyOn_ascii _ (by simp; omega) fun c hc => ha c ?_)
  · rw [Lib.extract_from_zero] at hc; exact List.mem_of_mem_take hc
  · rw [Lib.extract_to_end] at hc; exact List.mem_of_mem_drop hc
end Go.Proofs.YthobmfnmenbkeaaDoor
