/- What the rows of this family share: the world of the witness, the facts that the listed variables and the world's shape give. -/
import Derived.RangeFuncNested
import Derived.RangeFuncBound
import Derived.RangeFuncCalls
import Derived.RangeFuncLeaves
import Derived.RangeFuncWrites
import Derived.Shelf.Abstract
import Derived.Shelf.RegionOpen
import Derived.WalkKit
import Derived.OwnWalkIn
import Derived.TacticsInMore
import Derived.LoopNIn
import Derived.LoopIn
import Derived.Test.YthobmfnmenbkeaaDoorZC1
import Derived.RangeFuncBox
import Derived.Maps.AppendAt
import Derived.Test.YthobmfnmenbkeaaDoorCards
import Derived.Test.YthobmfnmenbkeaaDoorTie
import Derived.ProofKit
import Derived.OpenShut
import Derived.Deep.DeepHandedRow
import Derived.ShutString
import Derived.Lay
import Derived.PinnedBridge
import Derived.Lib.LaidU8
import Derived.Lib.LaidCaseMet
/- A range over a function whose iterator keeps a state of its own in one cell (a captured variable): the law of the statement, over the kit's base law for it. -/
section
set_option linter.unusedVariables false
namespace Go.Proofs.YthobmfnmenbkeaaDoor.RF
open Go.RowKit

variable {F : Fence} {n : Nat} {P : Program}

/-- the iterator's contract: its rounds keep Kp; what is asked of J and Jx is that they abide the iterator's own writes into the cell of block bs -/
def SeqSet {α : Type} (F : Fence) (n : Nat) (P : Program) (g : Nat) (lb : Array Value) (encs : α → Array Value) (bs : Nat) (Kp : World → World → Prop) (S Sp : List α → Prop) (N : Nat) (W : World) : Prop :=
  ∀ (l : Nat) (J Jx : List α → World → Prop), (∀ pre W1 v, J pre W1 → J pre (W1.setCell ⟨bs, 0, none⟩ v)) → (∀ pre A B, J pre A → A.grownBy B none → J pre B) → (∀ pre A B, Jx pre A → A.grownBy B none → Jx pre B) →
    (∀ pre x W1, J pre W1 → pre.length < N → YieldAt F (n - 1) P l (encs x) W1 fun e W' =>
      (e = .returned (.bool true) ∧ J (pre ++ [x]) W' ∧ Kp W1 W') ∨ (e = .returned (.bool false) ∧ Jx (pre ++ [x]) W')) →
    J [] W →
    CallsIn F n P g (#[.func (.yield l) #[] #[]] ++ lb) W fun e W' => (∃ v, e = .returned v) ∧ ((∃ xs, S xs ∧ J xs W') ∨ (∃ pre, Sp pre ∧ Jx pre W'))

theorem wpIn_rangeFunc_set {α : Type} {g : Operand} {ps : Array Tmp} {assign body : Code} {Q : Exit → Act → World → Prop} {a : Act} {w : World}
    (hro : F.round = none) (h1 : 1 ≤ n) {gf : Nat} {lb : Array Value} (hg : a.eval g = .func (.func gf) #[] lb) (hFg : F.fn gf) (eg : ∀ args w, (callFunc gf args).run P w = .ok (.enter gf args) w)
    {encs : α → Array Value} {bs : Nat} (hbs : bs < w.heap.size) {Kp : World → World → Prop} {S Sp : List α → Prop} {N : Nat}
    (hseq : ∀ W, Below w.heap.size w W → SeqSet F (n - 1) P gf lb encs bs Kp S Sp N W)
    (hKt : ∀ {A B C : World}, Kp A B → Kp B C → Kp A C) (hKb : ∀ (W : World) (l : Nat) (o : Obj), w.heap.size ≤ l → Kp W (W.putObj l o)) (hps : ∀ x, (encs x).size = ps.size)
    (I : List α → World → Prop) (Ix : Code → List α → World → Prop) (hI : OwnFrom w.heap.size I) (hIx : ∀ c, OwnFrom w.heap.size (Ix c))
    (hIs : ∀ pre W v, I pre W → I pre (W.setCell ⟨bs, 0, none⟩ v)) (h0 : I [] w) (a₁ : α → Act)
    (hassign : ∀ (l : Nat) (x : α) (W : World) (K : Act → World → Prop), K (a₁ x) W →
      assign.wpIn (F.inRound l) (n - 1 - 1) P (Exit.then K (fun _ _ _ => False)) { tmps := (ps.zip (encs x)).foldl (fun t (p, v) => t.setIfInBounds p v) a.tmps, defers := [] } W)
    (hbody : ∀ (l : Nat) (pre : List α) (x : α) (W : World), I pre W → pre.length < N → body.wpIn (F.inRound l) (n - 1 - 1) P (ownPostK Kp I Ix (pre ++ [x]) W) (a₁ x) W)
    (hdone : ∀ (D : Nat) (xs : List α) (W : World), w.heap.size ≤ D → S xs → I xs W → W.heap[D]? = some (.deferred (some [])) → Q .normal { a with defers := { target := .collected D, args := #[] } :: a.defers } W)
    (hstop : ∀ (D : Nat) (c : Code) (pre : List α) (W : World), w.heap.size ≤ D → Sp pre → Ix c pre W → W.heap[D]? = some (.deferred (some [])) → c.wpIn F n P Q { a with defers := { target := .collected D, args := #[] } :: a.defers } W) :
    (Code.rangeFunc g ps assign body).wpIn F n P Q a w := by
  refine wpIn_rangeFunc ?_
  intro fn hfn
  rw [hro]
  obtain ⟨rec, hrec⟩ : ∃ rec : LoopState → Option Code → Loop, rec = fun st pe => { state := st, pending := pe, fn, tmps := a.tmps, params := ps, assign, body, defers := w.heap.size } := ⟨_, rfl⟩
  obtain ⟨W1, hW1⟩ : ∃ W1, (w.alloc (.deferred (some []))).alloc (.loop (rec .ready none)) = W1 := ⟨_, rfl⟩
  have hL1 : W1.heap[w.heap.size + 1]? = some (.loop (rec .ready none)) := by
    rw [← hW1]; have := World.alloc_heap_new (w.alloc (.deferred (some []))) (.loop (rec .ready none)); rwa [World.size_alloc] at this
  have hK1 : W1.heap[w.heap.size]? = some (.deferred (some [])) := by
    rw [← hW1]; exact (Below.heap_alloc _ _ _ (by simp)).trans (World.alloc_heap_new w _)
  have hI1 : I [] W1 := by rw [← hW1]; exact hI.alloc _ (hI.alloc _ h0)
  have hb1 : Below w.heap.size w W1 := by
    rw [← hW1]; exact ((Below.refl _ w).alloc (Nat.le_refl _) _).alloc (by simp) _
  have setL : ∀ (W : World) (v : Value) (k : Nat), w.heap.size ≤ k → (W.setCell ⟨bs, 0, none⟩ v).heap[k]? = W.heap[k]? := fun W v k hk => Below.heap_setCell W _ v k (by show k ≠ bs; omega)
  refine ⟨w.heap.size + 1, [{ target := .collected w.heap.size, args := #[] }], W1, { target := .fn (.func gf) lb, args := #[.func (.yield (w.heap.size + 1)) #[] #[]] }, W1, gf,
    #[.func (.yield (w.heap.size + 1)) #[] #[]] ++ lb, W1, ?_, ?_, ?_, ?_, fun _ => h1, ?_⟩
  · rw [← hW1, hrec]; exact run_enterLoop_outer _ _ _ _ _
  · simp only [resolve, hg]
    simp [go_sem]
  · intro f' hf'; simp [Target.leads] at hf'; subst hf'; exact hFg
  · simp [invoke, go_sem, eg]
  · refine (hseq W1 hb1 (w.heap.size + 1)
      (fun pre W => I pre W ∧ W.heap[w.heap.size + 1]? = some (.loop (rec .ready none)) ∧ W.heap[w.heap.size]? = some (.deferred (some [])))
      (fun pre W => ∃ c, Ix c pre W ∧ W.heap[w.heap.size + 1]? = some (.loop (rec .done (some c))) ∧ W.heap[w.heap.size]? = some (.deferred (some [])))
      (fun pre W v hs => ⟨hIs pre W v hs.1, (setL W v _ (by omega)).trans hs.2.1, (setL W v _ (by omega)).trans hs.2.2⟩)
      (fun pre A B hs hg' => ⟨hI pre A B none hs.1 hg' (fun r e => by cases e), (grownBy_keeps hg' (fun r e => by cases e) hs.2.1 rfl).trans hs.2.1, (grownBy_keeps hg' (fun r e => by cases e) hs.2.2 rfl).trans hs.2.2⟩)
      (fun pre A B hs hg' => by
        obtain ⟨c, hc, hl, hk⟩ := hs
        exact ⟨c, hIx c pre A B none hc hg' (fun r e => by cases e), (grownBy_keeps hg' (fun r e => by cases e) hl rfl).trans hl, (grownBy_keeps hg' (fun r e => by cases e) hk rfl).trans hk⟩)
      ?_ ⟨hI1, hL1, hK1⟩).mono ?_
    · rintro pre x W ⟨hi, hl, hk⟩ hlen
      have hlt : w.heap.size + 1 < W.heap.size := (Array.getElem?_eq_some_iff.1 hl).1
      have hy := run_yield (P := P) (args := encs x) hl (by rw [hrec]; exact hps x)
      rw [hrec] at hy
      refine ⟨fn, _, assign, body, hy, roundIn_of_wpIn hfn (hassign _ x W _ ⟨_, run_beginRound hl (by rw [hrec]), ?_⟩)⟩
      have hl2 : (W.putObj (w.heap.size + 1) (.loop { rec .ready none with state := .busy })).heap[w.heap.size + 1]? = some (.loop { rec .ready none with state := .busy }) := World.putObj_heap_same hlt
      have hk2 : (W.putObj (w.heap.size + 1) (.loop { rec .ready none with state := .busy })).heap[w.heap.size]? = some (.deferred (some [])) := (World.putObj_heap_other (by omega)).trans hk
      have hw2 : Kp W (W.putObj (w.heap.size + 1) (.loop { rec .ready none with state := .busy })) := hKb _ _ _ (by omega)
      refine wpIn_mono (hbody _ pre x _ (hI.putObj _ hi (by omega) hl rfl) hlen) ?_
      have fin : ∀ (jump : Option Code) (W3 : World), KeepsOthers (W.putObj (w.heap.size + 1) (.loop { rec .ready none with state := .busy })) W3 →
          (Instr.endRound (w.heap.size + 1) jump).run P W3 = .ok (.bool jump.isNone) (W3.putObj (w.heap.size + 1) (.loop (rec (if jump.isNone then .ready else .done) jump))) ∧
          W3.heap[w.heap.size + 1]? = some (.loop { rec .ready none with state := .busy }) ∧
          (W3.putObj (w.heap.size + 1) (.loop (rec (if jump.isNone then .ready else .done) jump))).heap[w.heap.size + 1]? = some (.loop (rec (if jump.isNone then .ready else .done) jump)) ∧
          (W3.putObj (w.heap.size + 1) (.loop (rec (if jump.isNone then .ready else .done) jump))).heap[w.heap.size]? = some (.deferred (some [])) := fun jump W3 hk3 => by
        have hl3 := hk3.same _ _ hl2 rfl
        have := run_endRound (P := P) jump hl3
        rw [hrec] at this ⊢
        exact ⟨this, by rw [hrec] at hl3; exact hl3, World.putObj_heap_same (Array.getElem?_eq_some_iff.1 hl3).1, (World.putObj_heap_other (by omega)).trans (hk3.same _ _ hk2 rfl)⟩
      rintro e a3 W3 hp
      cases e with
      | normal =>
        obtain ⟨hk3, hkp3, hi3⟩ := hp
        obtain ⟨hr, hl3, hl4, hk4⟩ := fin none W3 hk3
        exact ⟨_, _, hr, .inl ⟨rfl, ⟨hI.putObj _ hi3 (by omega) hl3 rfl, hl4, hk4⟩, hKt (hKt hw2 hkp3) (hKb _ _ _ (by omega))⟩⟩
      | ret =>
        obtain ⟨hk3, hi3⟩ := hp
        obtain ⟨hr, hl3, hl4, hk4⟩ := fin (some .ret) W3 hk3
        exact ⟨_, _, hr, .inr ⟨rfl, .ret, (hIx _).putObj _ hi3 (by omega) hl3 rfl, hl4, hk4⟩⟩
      | exit id =>
        obtain ⟨hk3, hi3⟩ := hp
        obtain ⟨hr, hl3, hl4, hk4⟩ := fin (some (.exit id)) W3 hk3
        exact ⟨_, _, hr, .inr ⟨rfl, .exit id, (hIx _).putObj _ hi3 (by omega) hl3 rfl, hl4, hk4⟩⟩
      | goto t =>
        obtain ⟨hk3, hi3⟩ := hp
        obtain ⟨hr, hl3, hl4, hk4⟩ := fin (some (.goto t)) W3 hk3
        exact ⟨_, _, hr, .inr ⟨rfl, .goto t, (hIx _).putObj _ hi3 (by omega) hl3 rfl, hl4, hk4⟩⟩
      | panic ch => exact hp.elim
      | outgrown => exact hp.elim
    · rintro e W2 ⟨⟨v, rfl⟩, (⟨xs, hS, hi, hl, hk⟩ | ⟨pre, hSp, c, hi, hl, hk⟩)⟩
      · exact ⟨none, _, by have := run_endLoop (P := P) hl (by rw [hrec]; simp); rw [hrec] at this; exact this, hdone _ xs _ (Nat.le_refl _) hS (hI.putObj _ hi (by omega) hl rfl) ((World.putObj_heap_other (by omega)).trans hk)⟩
      · exact ⟨some c, _, by have := run_endLoop (P := P) hl (by rw [hrec]; simp); rw [hrec] at this; exact this, hstop _ c pre _ (Nat.le_refl _) hSp ((hIx c).putObj _ hi (by omega) hl rfl) ((World.putObj_heap_other (by omega)).trans hk)⟩
end Go.Proofs.YthobmfnmenbkeaaDoor.RF
end
/- strings.SplitSeq at a separator of one byte, '&': its iterator's contract. -/
section
set_option linter.unusedVariables false
set_option linter.unusedSimpArgs false
namespace Go.Proofs.YthobmfnmenbkeaaDoor.RF
open Go.RowKit Go.Shelf Go.Proofs.YthobmfnmenbkeaaDoor Go.Proofs.YthobmfnmenbkeaaDoor.Tg

theorem cuts_at (c : UInt8) : ∀ l : List UInt8, (Lib.indexByte l c = -1 ∧ cuts c l = [l]) ∨ ∃ i : Nat, Lib.indexByte l c = (i : Int) ∧ i < l.length ∧ cuts c l = l.take i :: cuts c (l.drop (i + 1))
  | [] => .inl ⟨rfl, rfl⟩
  | x :: r => by
    by_cases h : x = c
    · subst h
      exact .inr ⟨0, by simp [Lib.indexByte], Nat.zero_lt_succ _, by simp [cuts]⟩
    · have hb : (x == c) = false := by simpa using h
      rcases cuts_at c r with ⟨h1, h2⟩ | ⟨i, h1, h2, h3⟩
      · refine .inl ⟨by simp [Lib.indexByte, hb, h1], ?_⟩
        simp only [cuts, if_neg h, h2]
      · refine .inr ⟨i + 1, ?_, by simpa using h2, ?_⟩
        · simp only [Lib.indexByte, hb, h1]
          rw [if_neg (by decide), if_neg (by simp only [beq_iff_eq]; omega)]
          omega
        · simp only [cuts, if_neg h, h3]
          simp
theorem cuts_ne (c : UInt8) (l : List UInt8) : cuts c l ≠ [] := by
  rcases cuts_at c l with ⟨_, h⟩ | ⟨i, _, _, h⟩ <;> rw [h] <;> simp

theorem ext_txt' (l : List UInt8) (a b : Nat) : (txt l).extract a b = txt ((l.take b).drop a) := by
  apply ByteArray.ext
  apply Array.ext'
  rw [extract_list, txt_data, txt_data]

/-- a text of a bounded length -/
abbrev Sm := { x : List UInt8 // x.length ≤ 1048576 }
def vals (l : List Sm) : List (List UInt8) := l.map (·.1)
theorem vals_one (l : List Sm) (x : Sm) : vals (l ++ [x]) = vals l ++ [x.1] := by simp [vals]

/-- three boxes lie as they lay -/
def Kept3 (b1 b2 b3 : Nat) (W W' : World) : Prop :=
  (W'.cell? ⟨b1, 0, none⟩ = W.cell? ⟨b1, 0, none⟩ ∧ W'.cell? ⟨b2, 0, none⟩ = W.cell? ⟨b2, 0, none⟩ ∧ W'.cell? ⟨b3, 0, none⟩ = W.cell? ⟨b3, 0, none⟩) ∧ W'.frozen? ⟨b2, 0, none⟩ = W.frozen? ⟨b2, 0, none⟩
theorem Kept3.trans {b1 b2 b3 : Nat} {A B C : World} (h : Kept3 b1 b2 b3 A B) (k : Kept3 b1 b2 b3 B C) : Kept3 b1 b2 b3 A C :=
  ⟨⟨k.1.1.trans h.1.1, k.1.2.1.trans h.1.2.1, k.1.2.2.trans h.1.2.2⟩, k.2.trans h.2⟩

/-- how much of the text is left -/
def left (bs : Nat) (W : World) : Nat := match W.cell? ⟨bs, 0, none⟩ with | some (.string q) => q.size | _ => 0
theorem left_eq {bs : Nat} {W : World} {q : ByteArray} (h : W.cell? ⟨bs, 0, none⟩ = some (.string q)) : left bs W = q.size := by unfold left; rw [h]

attribute [local go_sem] Oper.semAt_some
set_option maxRecDepth 100000 in
set_option maxHeartbeats 4000000 in
theorem split_stops (n : Nat) (hn : 1 ≤ n) (b1 bs b3 : Nat) (h12 : b1 ≠ bs) (h32 : b3 ≠ bs) (s : List UInt8) (hs : s.length ≤ 1048576) (W : World)
    (c1 : W.cell? ⟨b1, 0, none⟩ = some (.string ⟨#[38]⟩)) (c2 : W.cell? ⟨bs, 0, none⟩ = some (.string (txt s))) (c3 : W.cell? ⟨b3, 0, none⟩ = some (.int .i64 0)) (f2 : W.frozen? ⟨bs, 0, none⟩ = false) :
    SeqSet Fence.wide n Tryd.prog 94 #[.pointer (some ⟨b1, 0, none⟩), .pointer (some ⟨bs, 0, none⟩), .pointer (some ⟨b3, 0, none⟩)] (fun x : Sm => #[Value.string (txt x.1)]) bs (Kept3 b1 bs b3) (fun xs => vals xs = cuts 38 s) (fun pre => vals pre <+: cuts 38 s) (cuts 38 s).length W := fun l J Jx hset hg hgx hY h0 => by
  refine callsIn_of_wp Tryd.func94 rfl trivial ?_ rfl
  simp only [Tryd.ntmps94, List.size_toArray, List.length_cons, List.length_nil, Nat.reduceAdd, Nat.reduceSub, Array.replicate_succ, Array.replicate_zero, List.push_toArray, List.append_toArray, List.nil_append, List.cons_append]
  gi_wp2
  gi_loopw [7, 8] (fun _ _ wr => ∃ (pre : List Sm) (rest : List UInt8), vals pre ++ cuts 38 rest = cuts 38 s ∧ rest.length ≤ 1048576 ∧ J pre wr ∧ wr.cell? ⟨b1, 0, none⟩ = some (.string ⟨#[38]⟩) ∧ wr.cell? ⟨bs, 0, none⟩ = some (.string (txt rest)) ∧ wr.cell? ⟨b3, 0, none⟩ = some (.int .i64 0) ∧ wr.frozen? ⟨bs, 0, none⟩ = false)
    (fun _ _ wr => left bs wr)
  case atStart => exact ⟨[], s, rfl, hs, h0, c1, c2, c3, f2⟩
  case round =>
    obtain ⟨pre, rest, hp, hl, hJ, d1, d2, d3, g2⟩ := hrel
    have hsz : (txt rest).size = rest.length := txt_size rest
    rcases cuts_at 38 rest with ⟨hi, hc⟩ | ⟨i, hi, hlt, hc⟩
    · rw [hc] at hp
      have hlen : pre.length < (cuts 38 s).length := by rw [← hp]; simp [vals]
      obtain ⟨fn, tmps, assign, body, hy, hR⟩ := hY pre ⟨rest, hl⟩ wr hJ hlen
      have hI := Tryd.strings_Index_one (txt rest) 38 wr
      rw [txt_data, hi] at hI
      gi_wp2_with (refine ⟨trivial, ?_⟩; gi_at_call 92; refine (callsIn_wide.2 hI).mono ?_; rintro e w' ⟨rfl, rfl⟩)
      refine hR.mono ?_
      rintro e W3 (⟨rfl, hJ3, hk3⟩ | ⟨rfl, hJx3⟩)
      · gi_wp2
        go_end0
        exact ⟨⟨_, rfl⟩, .inl ⟨_, by rw [vals_one, hp], hJ3⟩⟩
      · gi_wp2
        go_end0
        exact ⟨⟨_, rfl⟩, .inr ⟨_, by rw [vals_one, hp]; exact List.prefix_refl _, hJx3⟩⟩
    · rw [hc] at hp
      have hlen : pre.length < (cuts 38 s).length := by rw [← hp]; simp [vals]
      obtain ⟨fn, tmps, assign, body, hy, hR⟩ := hY pre ⟨rest.take i, by simp; omega⟩ wr hJ hlen
      have hI := Tryd.strings_Index_one (txt rest) 38 wr
      rw [txt_data, hi] at hI
      have hx : (txt rest).extract 0 i = txt (rest.take i) := by rw [ext_txt', List.drop_zero]
      have hx2 : (txt rest).extract (i + 1) rest.length = txt (rest.drop (i + 1)) := by rw [ext_txt', List.take_length]
      gi_wp2_with (refine ⟨trivial, ?_⟩; gi_at_call 92; refine (callsIn_wide.2 hI).mono ?_; rintro e w' ⟨rfl, rfl⟩)
      refine hR.mono ?_
      rintro e W3 (⟨rfl, hJ3, hk3⟩ | ⟨rfl, hJx3⟩)
      · have k1 := hk3.1.1.trans d1
        have k2 := hk3.1.2.1.trans d2
        have k3 := hk3.1.2.2.trans d3
        have k4 := hk3.2.trans g2
        have hm := left_eq d2
        clear hk3 hI d1 d2 d3 g2 hJ hy hR
        gi_wp2
        go_roundw
        case rel =>
          refine ⟨pre ++ [⟨rest.take i, by simp; omega⟩], rest.drop (i + 1), by rw [← hp, vals_one]; simp, by simp; omega, hset _ _ _ hJ3, (World.cell?_setCell_other _ _ _ _ (fun e => h12 (Addr.mk.inj e).1.symm)).trans k1, World.cell?_setCell_same _ _ _ k2, (World.cell?_setCell_other _ _ _ _ (fun e => h32 (Addr.mk.inj e).1.symm)).trans k3, (World.frozen?_setCell ..).trans k4⟩
        case measure =>
          rw [hm, left_eq (World.cell?_setCell_same _ _ _ k2), txt_size, txt_size, List.length_drop]
          omega
      · gi_wp2
        refine bodyPost_ret (results_none rfl _ _ _) rfl ?_
        exact ⟨⟨_, rfl⟩, .inr ⟨_, by rw [← hp, vals_one]; exact ⟨cuts 38 (rest.drop (i + 1)), by simp⟩, hJx3⟩⟩
end Go.Proofs.YthobmfnmenbkeaaDoor.RF
end
/- strings.SplitSeq: what it hands back. -/
section
set_option linter.unusedVariables false
set_option linter.unusedSimpArgs false
namespace Go.Proofs.YthobmfnmenbkeaaDoor.RF
open Go.RowKit Go.Shelf Go.Proofs.YthobmfnmenbkeaaDoor Go.Proofs.YthobmfnmenbkeaaDoor.Tg

/-- three boxes of the iterator's own -/
structure Boxes (W : World) (n₀ b1 bs b3 : Nat) (s : List UInt8) : Prop where
  n12 : b1 ≠ bs
  n32 : b3 ≠ bs
  lo1 : n₀ ≤ b1
  lo2 : n₀ ≤ bs
  lo3 : n₀ ≤ b3
  c1 : Boxed W b1 9 (.string ⟨#[38]⟩)
  c2 : Boxed W bs 9 (.string (txt s))
  c3 : Boxed W b3 3 (.int .i64 0)

theorem splitSeq_calls (s : List UInt8) (w : World) : Calls Tryd.prog 74 #[.string (txt s), .string ⟨#[38]⟩, .int .i64 0] w fun e w' => ∃ b1 bs b3, e = .returned (.func (.func 94) #[] #[.pointer (some ⟨b1, 0, none⟩), .pointer (some ⟨bs, 0, none⟩), .pointer (some ⟨b3, 0, none⟩)]) ∧ Boxes w' w.heap.size b1 bs b3 s ∧ Below w.heap.size w w' := by
  go_enter Tryd.func74, Tryd.ntmps74
  go_wp2
  go_ret
  have h1 := Boxed.new w 9 (.string (txt s))
  have h2 := Boxed.new (w.alloc (.cells #[.string (txt s)] 9)) 9 (.string ⟨#[38]⟩)
  have h3 := Boxed.new ((w.alloc (.cells #[.string (txt s)] 9)).alloc (.cells #[.string ⟨#[38]⟩] 9)) 3 (.int .i64 0)
  simp only [World.size_alloc] at h2 h3
  exact ⟨w.heap.size + 1, w.heap.size, w.heap.size + 1 + 1, rfl, ⟨by omega, by omega, by omega, Nat.le_refl _, by omega, h2.alloc _, (h1.alloc _).alloc _, h3⟩, (((Below.refl _ w).alloc (Nat.le_refl _) _).alloc (by simp) _).alloc (by simp; omega) _⟩
theorem SplitSeq_calls (s : List UInt8) (w : World) : Calls Tryd.prog 51 #[.string (txt s), .string ⟨#[38]⟩] w fun e w' => ∃ b1 bs b3, e = .returned (.func (.func 94) #[] #[.pointer (some ⟨b1, 0, none⟩), .pointer (some ⟨bs, 0, none⟩), .pointer (some ⟨b3, 0, none⟩)]) ∧ Boxes w' w.heap.size b1 bs b3 s ∧ Below w.heap.size w w' := by
  go_enter Tryd.func51, Tryd.ntmps51
  go_wp2_with (go_at_call 74; refine (splitSeq_calls s _).mono ?_; rintro e w' ⟨b1, bs, b3, rfl, hB, hb⟩)
  go_ret
  exact ⟨b1, bs, b3, rfl, hB, hb⟩
end Go.Proofs.YthobmfnmenbkeaaDoor.RF
end
/- strings.ReplaceAll at '+' and ' ', strings.Cut at '=', the program's Decode with its error left aside: as Pairs calls them. -/
section
set_option linter.unusedVariables false
set_option linter.unusedSimpArgs false
namespace Go.Proofs.YthobmfnmenbkeaaDoor.RF
open Go.RowKit Go.Shelf Go.Proofs.YthobmfnmenbkeaaDoor Go.Proofs.YthobmfnmenbkeaaDoor.Tg

/-- plus for a blank -/
def plus (l : List UInt8) : List UInt8 := l.map fun c => if c = 43 then 32 else c
def dec0 (l : List UInt8) : List UInt8 := (decoded l).getD []
theorem plus_free {l : List UInt8} (h : (43 : UInt8) ∉ l) : plus l = l := by
  unfold plus
  conv => rhs; rw [← List.map_id l]
  refine List.map_congr_left fun c hc => ?_
  have : ¬ c = 43 := fun e => h (by rw [← e]; exact hc)
  rw [if_neg this]; rfl
theorem idx1 (c : UInt8) : ∀ l : List UInt8, (Lib.index l [c] = -1 ∧ c ∉ l) ∨ ∃ i : Nat, Lib.index l [c] = (i : Int) ∧ i < l.length ∧ c ∉ l.take i ∧ l = l.take i ++ c :: l.drop (i + 1)
  | [] => .inl ⟨by simp [Lib.index], by simp⟩
  | x :: r => by
    by_cases h : x = c
    · subst h
      refine .inr ⟨0, ?_, Nat.zero_lt_succ _, by simp, by simp⟩
      rw [Lib.index]; simp [List.isPrefixOf]
    · have hb : ([c].isPrefixOf (x :: r)) = false := by simp [List.isPrefixOf, Ne.symm h]
      rcases idx1 c r with ⟨h1, h2⟩ | ⟨i, h1, h2, h3, h4⟩
      · refine .inl ⟨?_, by simp [h2, Ne.symm h]⟩
        rw [Lib.index, hb, h1]; rfl
      · refine .inr ⟨i + 1, ?_, by simpa using h2, by simp [h3, Ne.symm h], ?_⟩
        · rw [Lib.index, hb, h1]
          simp
        · rw [List.take_succ_cons, List.drop_succ_cons, List.cons_append, ← h4]
theorem replaceK_plus : ∀ (n : Nat) (l : List UInt8), l.length ≤ n → Lib.replaceK [43] [32] (Lib.count l [43]) l = plus l := by
  intro n
  induction n with
  | zero =>
    intro l hl
    obtain rfl : l = [] := List.length_eq_zero_iff.1 (by omega)
    rw [Lib.count_miss (by simp [Lib.index])]
    rfl
  | succ n ih =>
    intro l hl
    rcases idx1 43 l with ⟨h1, h2⟩ | ⟨i, h1, h2, h3, h4⟩
    · rw [Lib.count_miss h1, plus_free h2]; rfl
    · rw [Lib.count_hit (by simp) h1, Nat.add_comm, Lib.replaceK_hit _ _ _ _ i h1, show [(43 : UInt8)].length = 1 from rfl, ih _ (by simp; omega)]
      conv => rhs; rw [h4]
      unfold plus
      rw [List.map_append, List.map_cons, show List.map (fun c : UInt8 => if c = 43 then 32 else c) (l.take i) = l.take i from plus_free h3]
      simp
theorem replaceAll_plus (l : List UInt8) : Lib.replaceAll l [43] [32] = plus l := by
  unfold Lib.replaceAll Lib.replace Lib.replaceNum
  rw [if_neg (by decide), if_pos (by left; decide)]
  exact replaceK_plus _ l (Nat.le_refl _)

theorem plus_calls (x : List UInt8) (w : World) (hx : x.length ≤ 1048576) (hr : ∃ m, w.cell? ⟨1, 0, none⟩ = some (.int .i64 m)) :
    Calls Tryd.prog 52 #[.string (txt x), .string ⟨#[43]⟩, .string ⟨#[32]⟩] w fun e w' => e = .returned (.string (txt (plus x))) ∧ Below w.heap.size w w' := by
  obtain ⟨m, hm⟩ := hr
  have hc := Lib.countB_le ⟨#[43]⟩ (by decide) _ (txt x) (Nat.le_refl _)
  rw [txt_size] at hc
  refine (Tryd.strings_ReplaceAll (txt x) ⟨#[43]⟩ ⟨#[32]⟩ m w (by rw [txt_size]; omega) hm (by decide) (by rw [txt_size, show (⟨#[32]⟩ : ByteArray).size = 1 from rfl]; omega)).mono fun e w' ⟨h1, h2⟩ => ⟨?_, h2⟩
  rw [h1, txt_data, show (⟨#[43]⟩ : ByteArray).data.toList = [43] from rfl, show (⟨#[32]⟩ : ByteArray).data.toList = [32] from rfl, replaceAll_plus]; first | rfl | done
theorem cut61_calls (x : List UInt8) (w : World) (hx : x.length ≤ 1048576) (hr : ∃ m, w.cell? ⟨1, 0, none⟩ = some (.int .i64 m)) :
    Calls Tryd.prog 32 #[.string (txt x), .string ⟨#[61]⟩] w fun e w' => e = .returned (.tuple #[.string (txt (cutAt 61 x).1), .string (txt (cutAt 61 x).2.1), .bool (cutAt 61 x).2.2]) ∧ Below w.heap.size w w' := by
  obtain ⟨m, hm⟩ := hr
  refine (Tryd.strings_Cut (txt x) ⟨#[61]⟩ m w (by rw [txt_size]; omega) hm).mono fun e w' ⟨h1, n, h2⟩ => ⟨?_, ?_⟩
  · rw [h1, txt_data, show (⟨#[61]⟩ : ByteArray).data.toList = [61] from rfl, cut_cutAt]; first | rfl | done
  · subst h2; exact bel_drewN (Below.refl _ w) n
theorem dec_calls (x : List UInt8) (w : World) (hx : x.length ≤ 1048577) : Calls Tryd.prog 19 #[.string (txt x)] w fun e w' => (∃ u, e = .returned (.tuple #[.string (txt (dec0 x)), u])) ∧ Below w.heap.size w w' := by
  refine (decode_calls (txt x) w (by rw [txt_size]; omega)).mono fun e w' ⟨h1, h2⟩ => ⟨?_, h2⟩
  rw [h1, txt_data]
  unfold dec0
  cases decoded x with
  | none => exact ⟨_, rfl⟩
  | some d => exact ⟨_, rfl⟩
theorem plus_len (x : List UInt8) : (plus x).length = x.length := by simp [plus]
end Go.Proofs.YthobmfnmenbkeaaDoor.RF
end
/- target.Pairs, walked. -/
section
set_option linter.unusedVariables false
set_option linter.unusedSimpArgs false
namespace Go.Proofs.YthobmfnmenbkeaaDoor.RF
open Go.RowKit Go.Shelf Go.Proofs.YthobmfnmenbkeaaDoor Go.Proofs.YthobmfnmenbkeaaDoor.Tg

def pairN (x : List UInt8) : List UInt8 := dec0 (cutAt 61 (plus x)).1
def pairV (x : List UInt8) : List UInt8 := dec0 (cutAt 61 (plus x)).2.1
/-- the pieces that are told -/
def ps (pre : List (List UInt8)) : List (List UInt8) := pre.filter fun x => !x.isEmpty
def cellsP (l : List (List UInt8)) : List Value := l.flatMap fun x => [.string (txt (pairN x)), .string (txt (pairV x))]
theorem ps_nil (pre : List (List UInt8)) : ps (pre ++ [[]]) = ps pre := by simp [ps]
theorem ps_one (pre : List (List UInt8)) {x : List UInt8} (h : x ≠ []) : ps (pre ++ [x]) = ps pre ++ [x] := by
  cases x with
  | nil => exact absurd rfl h
  | cons c r => simp [ps]
theorem cellsP_one (l : List (List UInt8)) (x : List UInt8) : cellsP (l ++ [x]) = cellsP l ++ [.string (txt (pairN x)), .string (txt (pairV x))] := by simp [cellsP]

/-- what Pairs answers of a query -/
def rowsP (s : List UInt8) : List (List UInt8) := if (ps (cuts 38 s)).length ≤ 64 then ps (cuts 38 s) else []
def errP (s : List UInt8) : Value := if (ps (cuts 38 s)).length ≤ 64 then .nilIface else .iface 56 (.int .i64 2)
def PostP (s : List UInt8) (w : World) (e : Ending) (w' : World) : Prop := ∃ v0, e = .returned (.tuple #[v0, errP s]) ∧ w'.ownsRow w.heap.size 83 2 v0 (rowsP s).length (cellsP (rowsP s)) ∧ Below w.heap.size w w'
theorem own_below {w w1 : World} {base : Nat} {e : TypeId} {size n : Nat} {v : Value} {xs : List Value} (h : w.ownsRow base e size v n xs) (hb : Below w.heap.size w w1) : w1.ownsRow base e size v n xs := by
  obtain ⟨h1, h2⟩ := h
  refine ⟨h1, ?_⟩
  rcases h2 with h2 | ⟨g, cap, cur, e1, hg, hh, r⟩
  · exact .inl h2
  · exact .inr ⟨g, cap, cur, e1, hg, (hb.block g (Array.getElem?_eq_some_iff.1 hh).1).trans hh, r⟩
theorem below_then {A B C : World} (h : Below A.heap.size A B) (k : Below B.heap.size B C) : Below A.heap.size A C := h.trans (k.mono h.size)
theorem keepsOthers_of_below {A B : World} (h : Below A.heap.size A B) : KeepsOthers A B := ⟨h.size, fun k o hk _ => (h.block k (Array.getElem?_eq_some_iff.1 hk).1).trans hk⟩
theorem infoP : (Tryd.prog.info? 83).map (fun i => (i.zero, i.size, i.bytes)) = some (some (.agg #[.string ⟨#[]⟩, .string ⟨#[]⟩]), 2, 32) := by kernel_rfl
theorem cell_two_new (w : World) (x y : Value) (t : TypeId) : ∀ j u, [x, y][j]? = some u → (w.alloc (.cells #[x, y] t)).cell? ((⟨w.heap.size, 0, none⟩ : Addr).add j) = some u := by
  intro j u h
  match j, h with
  | 0, h => simp at h; subst h; simp [go_sem, Addr.add]
  | 1, h => simp at h; subst h; simp [go_sem, Addr.add]
  | j + 2, h => simp at h

/-- between two rounds -/
def InvP (w : World) (r2 r3 Bl b1 bs b3 : Nat) (pre : List Sm) (W : World) : Prop :=
  (∃ v, Boxed W Bl 50 v ∧ W.ownsRow w.heap.size 83 2 v (ps (vals pre)).length (cellsP (ps (vals pre))) ∧ (ps (vals pre)).length ≤ 64) ∧
    (Boxed W r2 50 (.slice none 0 0) ∧ Boxed W r3 25 .nilIface) ∧ (∃ q1 q2 q3, Boxed W b1 9 q1 ∧ Boxed W bs 9 q2 ∧ Boxed W b3 3 q3) ∧ Below w.heap.size w W
/-- a round has left by a return -/
def OutP (w : World) (r2 r3 : Nat) (c : Code) (pre : List Sm) (W : World) : Prop :=
  c = .ret ∧ 64 < (ps (vals pre)).length ∧ Boxed W r2 50 (.slice none 0 0) ∧ Boxed W r3 25 (.iface 56 (.int .i64 2)) ∧ Below w.heap.size w W

theorem boxed_own {β : Type} (f : β → Nat × TypeId × Value) : Own (fun (s : β) W => Boxed W (f s).1 (f s).2.1 (f s).2.2) := by
  intro s A B row hs hg hr
  refine hs.kept hg (fun e => ?_)
  obtain ⟨o, ho, hc⟩ := hr _ e.symm
  rw [show A.heap[(f s).1]? = _ from hs] at ho; cases ho; cases hc
theorem keep_box {A B : World} {row : Option Nat} {b : Nat} {t : TypeId} {v : Value} (h : Boxed A b t v) (hg : A.grownBy B row) (hr : ∀ r, row = some r → ∃ o : Obj, A.heap[r]? = some o ∧ o.isCells = false) : Boxed B b t v := boxed_own (β := Unit) (fun _ => (b, t, v)) () A B row h hg hr
theorem InvP.own (w : World) (r2 r3 Bl b1 bs b3 B : Nat) (hB : w.heap.size ≤ B) : OwnFrom B (InvP w r2 r3 Bl b1 bs b3) := by
  rintro pre X Y row ⟨⟨v, hv, ho, hl⟩, ⟨h2, h3⟩, ⟨q1, q2, q3, k1, k2, k3⟩, hb⟩ hg hr
  have hr' := fun r e => (hr r e).2
  obtain ⟨v', hv', ho', hl'⟩ := holdsRow_own w.heap.size Bl 50 83 2 (fun pre => (ps (vals pre)).length) (fun pre => cellsP (ps (vals pre))) (fun pre _ => (ps (vals pre)).length ≤ 64) pre X Y row ⟨v, hv, ho, hl⟩ hg hr'
  exact ⟨⟨v', hv', ho', hl'⟩, ⟨keep_box h2 hg hr', keep_box h3 hg hr'⟩, ⟨q1, q2, q3, keep_box k1 hg hr', keep_box k2 hg hr', keep_box k3 hg hr'⟩, hb.grown hg hb.size (fun k e => Nat.le_trans hB (hr k e).1)⟩
theorem OutP.own (w : World) (r2 r3 B : Nat) (hB : w.heap.size ≤ B) (c : Code) : OwnFrom B (OutP w r2 r3 c) := by
  rintro pre X Y row ⟨hc, hl, h2, h3, hb⟩ hg hr
  have hr' := fun r e => (hr r e).2
  exact ⟨hc, hl, keep_box h2 hg hr', keep_box h3 hg hr', hb.grown hg hb.size (fun k e => Nat.le_trans hB (hr k e).1)⟩
theorem InvP.set {w : World} {r2 r3 Bl b1 bs b3 : Nat} (hB : w.heap.size ≤ bs) (n1 : Bl ≠ bs) (n2 : r2 ≠ bs) (n3 : r3 ≠ bs) (n4 : b1 ≠ bs) (n5 : b3 ≠ bs) (pre : List Sm) (W : World) (u : Value) (h : InvP w r2 r3 Bl b1 bs b3 pre W) :
    InvP w r2 r3 Bl b1 bs b3 pre (W.setCell ⟨bs, 0, none⟩ u) := by
  obtain ⟨⟨v, hv, ho, hl⟩, ⟨h2, h3⟩, ⟨q1, q2, q3, k1, k2, k3⟩, hb⟩ := h
  have hg := grownBy_setCell' W bs u
  have ne : ∀ {b : Nat}, b ≠ bs → some b ≠ some bs := fun h e => h (Option.some.inj e)
  exact ⟨⟨v, hv.kept hg (ne n1), ho.kept hg (.inr (k2.not_row (by decide) ho).symm), hl⟩, ⟨h2.kept hg (ne n2), h3.kept hg (ne n3)⟩, ⟨q1, u, q3, k1.kept hg (ne n4), k2.set u, k3.kept hg (ne n5)⟩, hb.setCell (p := ⟨bs, 0, none⟩) hB u⟩

attribute [local go_sem] Oper.semAt_some
set_option maxRecDepth 100000 in
set_option maxHeartbeats 8000000 in
theorem pairs_yes (s : List UInt8) (w : World) (hs : s.length ≤ 1048576) (hr : Rdy w) (hq : isQuery s = true) : Calls Tryd.prog 25 #[.string (txt s)] w (PostP s w) := by
  have hQ : ∀ W, Calls Tryd.prog 34 #[.string (txt s)] W fun e w' => e = .returned (.bool true) ∧ W = w' := fun W => by
    have := isQuery_calls (txt s) W (by rw [txt_size]; omega)
    rwa [txt_data, hq] at this
  refine (callsIn_wide (n := 5)).1 ?_
  refine callsIn_of_wp_marks Tryd.func25 rfl trivial ?_ rfl
  simp only [Tryd.ntmps25, List.size_toArray, List.length_nil, List.length_cons, Nat.reduceAdd, Nat.reduceSub, Array.replicate_succ, Array.replicate_zero, List.push_toArray, List.append_toArray, List.nil_append, List.cons_append]
  gi_wp2_with (first | (refine ⟨trivial, ?_⟩; gi_at_call 34; refine (callsIn_wide.2 (hQ _)).mono ?_; rintro e w' ⟨rfl, rfl⟩) | (refine ⟨trivial, ?_⟩; gi_at_call 51; refine (callsIn_wide.2 (SplitSeq_calls s _)).mono ?_; rintro e wL ⟨b1, bs, b3, rfl, hB, hb⟩))
  have z3 : (((w.alloc (.cells #[.slice none 0 0] 50)).alloc (.cells #[.nilIface] 25)).alloc (.cells #[.slice none 0 0] 50)).heap.size = w.heap.size + 3 := by simp
  have bW : Below w.heap.size w wL := by
    have h0 : Below w.heap.size w (((w.alloc (.cells #[.slice none 0 0] 50)).alloc (.cells #[.nilIface] 25)).alloc (.cells #[.slice none 0 0] 50)) := (((Below.refl _ w).alloc (Nat.le_refl _) _).alloc (by simp) _).alloc (by simp; omega) _
    exact h0.trans (hb.mono (by rw [z3]; omega))
  have e1 := (Boxed.new w 50 (.slice none 0 0)).alloc (.cells #[.nilIface] 25) |>.alloc (.cells #[.slice none 0 0] 50)
  have e2 := (Boxed.new (w.alloc (.cells #[.slice none 0 0] 50)) 25 .nilIface).alloc (.cells #[.slice none 0 0] 50)
  have e3 := Boxed.new ((w.alloc (.cells #[.slice none 0 0] 50)).alloc (.cells #[.nilIface] 25)) 50 (.slice none 0 0)
  simp only [World.size_alloc] at e2 e3
  have kb : ∀ {b : Nat} {t : TypeId} {v : Value}, Boxed (((w.alloc (.cells #[.slice none 0 0] 50)).alloc (.cells #[.nilIface] 25)).alloc (.cells #[.slice none 0 0] 50)) b t v → Boxed wL b t v := fun h => (hb.block _ h.lt).trans h
  replace e1 := kb e1
  replace e2 := kb e2
  replace e3 := kb e3
  rw [z3] at hB
  obtain ⟨n12, n32, lo1, lo2, lo3, c1, c2, c3⟩ := hB
  have lts := c2.lt
  have lt1 := c1.lt
  have lt3 := c3.lt
  clear kb hb
  refine wpIn_rangeFunc_set rfl (by omega) (gf := 94) (lb := #[.pointer (some ⟨b1, 0, none⟩), .pointer (some ⟨bs, 0, none⟩), .pointer (some ⟨b3, 0, none⟩)]) rfl trivial (enters_of Tryd.func94 (by kernel_rfl) rfl) (encs := fun x : Sm => #[Value.string (txt x.1)]) (bs := bs) lts
    (Kp := Kept3 b1 bs b3) (S := fun xs => vals xs = cuts 38 s) (Sp := fun pre => vals pre <+: cuts 38 s) (N := (cuts 38 s).length)
    (fun W hW => split_stops 4 (by omega) b1 bs b3 n12 n32 s (by omega) W ((hW.cell (p := ⟨b1, 0, none⟩) lt1).trans c1.cell) ((hW.cell (p := ⟨bs, 0, none⟩) lts).trans c2.cell) ((hW.cell (p := ⟨b3, 0, none⟩) lt3).trans c3.cell) ((hW.frozen (p := ⟨bs, 0, none⟩) lts).trans c2.frozen))
    Kept3.trans ?kb (fun _ => rfl) (InvP w w.heap.size (w.heap.size + 1) (w.heap.size + 1 + 1) b1 bs b3) (OutP w w.heap.size (w.heap.size + 1)) (InvP.own w _ _ _ _ _ _ _ bW.size) (OutP.own w _ _ _ bW.size)
    (InvP.set (by omega) (by omega) (by omega) (by omega) n12 n32) ⟨⟨_, e3, World.ownsRow_nil .., by simp [ps, vals]⟩, ⟨e1, e2⟩, ⟨_, _, _, c1, c2, c3⟩, bW⟩
    (fun x => { tmps := #[.string (txt s), undef, .pointer (some ⟨w.heap.size, 0, none⟩), .pointer (some ⟨w.heap.size + 1, 0, none⟩), .pointer (some ⟨w.heap.size + 1 + 1, 0, none⟩), .string (txt x.1), undef, undef, undef, .string (txt s), .bool true, .bool false, undef, .string (txt s), .func (.func 94) #[] #[.pointer (some ⟨b1, 0, none⟩), .pointer (some ⟨bs, 0, none⟩), .pointer (some ⟨b3, 0, none⟩)], .string (txt x.1), undef, undef, undef, undef, undef, undef, undef, undef, undef, undef, undef, undef, undef, undef, undef, undef, undef, undef, undef, undef, undef, undef, undef, undef, undef, undef, undef, undef, undef, undef], defers := [] }) ?assign ?body ?done ?stop
  case kb =>
    intro W l o hl
    have h : ∀ {b : Nat}, b < wL.heap.size → (W.putObj l o).heap[b]? = W.heap[b]? := fun hb => World.putObj_heap_other (by omega)
    exact ⟨⟨World.cell?_of_block (h lt1), World.cell?_of_block (h lts), World.cell?_of_block (h lt3)⟩, World.frozen?_of_block (h lts)⟩
  case assign =>
    intro l x W K hK
    gi_wp2
    exact hK
  case body =>
    rintro l pre ⟨x, hxs⟩ W ⟨⟨v, hv, ho, hl⟩, ⟨h2, h3⟩, ⟨q1, q2, q3, k1, k2, k3⟩, hbw⟩ _
    have hvc := hv.cell
    have hvf := hv.frozen
    dsimp only
    by_cases hx : x = []
    · subst hx
      rw [show (txt ([] : List UInt8)) = ⟨#[]⟩ from rfl]
      gi_wp2
      exact ⟨KeepsOthers.refl _, ⟨⟨rfl, rfl, rfl⟩, rfl⟩, ⟨v, hv, by rw [vals_one, ps_nil]; exact ho, by rw [vals_one, ps_nil]; exact hl⟩, ⟨h2, h3⟩, ⟨q1, q2, q3, k1, k2, k3⟩, hbw⟩
    · have hone : ps (vals (pre ++ [⟨x, hxs⟩])) = ps (vals pre) ++ [x] := by rw [vals_one, ps_one _ hx]
      obtain ⟨A, cp, rfl⟩ : ∃ A cp, v = .slice A (ps (vals pre)).length cp := by
        rcases ho.2 with ⟨e1, e2⟩ | ⟨g, cap, cur, e1, _⟩
        · exact ⟨none, 0, by rw [e1, e2]⟩
        · exact ⟨_, _, e1⟩
      have hxn : x.isEmpty = false := by cases x with
        | nil => exact absurd rfl hx
        | cons c r => rfl
      by_cases h64 : (ps (vals pre)).length = 64
      · have e64 : (((ps (vals pre)).length : Int) == 64) = true := by simp [h64]
        have c2' := h2.cell
        have c3' := h3.cell
        have f2' := h2.frozen
        have f3' := h3.frozen
        gi_wp2
        exact ⟨(KeepsOthers.setCell _ _ _).trans (KeepsOthers.setCell _ _ _), rfl, by rw [hone]; simp; omega, (h2.set _).kept (grownBy_setCell' _ (w.heap.size + 1) _) (by simp), (h3.kept (grownBy_setCell' W w.heap.size _) (by simp)).set _, (hbw.setCell (p := ⟨w.heap.size, 0, none⟩) (Nat.le_refl _) _).setCell (p := ⟨w.heap.size + 1, 0, none⟩) (Nat.le_succ _) _⟩
      · have e64 : (((ps (vals pre)).length : Int) == 64) = false := by simp; omega
        have hM : ∀ W', Below W.heap.size W W' → ∃ m, W'.cell? ⟨1, 0, none⟩ = some (.int .i64 m) := fun W' h => ((hr.below hbw).below h).out
        have hP := plus_calls x W hxs (hM W (Below.refl _ _))
        have hC : ∀ W', Below W.heap.size W W' → _ := fun W' h => cut61_calls (plus x) W' (by rw [plus_len]; exact hxs) (hM W' h)
        have hD1 : ∀ W', _ := fun W' => dec_calls (cutAt 61 (plus x)).1 W' (by have := (cutAt_len 61 (plus x)).1; rw [plus_len] at this; omega)
        have hD2 : ∀ W', _ := fun W' => dec_calls (cutAt 61 (plus x)).2.1 W' (by have := (cutAt_len 61 (plus x)).2; rw [plus_len] at this; omega)
        obtain ⟨i0, hi0, hz0, hz1, hz2⟩ := info_parts infoP
        gi_wp2_with (first | (refine ⟨trivial, ?_⟩; gi_at_call 52; refine (CallsIn.inRound l (callsIn_wide.2 hP)).mono ?_; clear hP; rintro e w1 ⟨rfl, g1⟩) | (refine ⟨trivial, ?_⟩; gi_at_call 32; refine (CallsIn.inRound l (callsIn_wide.2 (hC _ g1))).mono ?_; clear hC; rintro e w2 ⟨rfl, g2⟩) | (refine ⟨trivial, ?_⟩; gi_at_call 19; refine (CallsIn.inRound l (callsIn_wide.2 (hD1 w2))).mono ?_; clear hD1; rintro e w3 ⟨⟨u3, rfl⟩, g3⟩) | (refine ⟨trivial, ?_⟩; gi_at_call 19; refine (CallsIn.inRound l (callsIn_wide.2 (hD2 w3))).mono ?_; clear hD2; rintro e w4 ⟨⟨u4, rfl⟩, g4⟩; have gg := below_then (below_then (below_then g1 g2) g3) g4; have hv4 : Boxed w4 _ _ _ := (gg.block _ hv.lt).trans hv; have hvc4 := hv4.cell; have hvf4 := hv4.frozen; have ho4 := own_below ho gg) | (gi_at_builtin; refine wpListIn_append_own _ rfl _ _ 50 rfl w.heap.size 83 i0 (.agg #[.string ⟨#[]⟩, .string ⟨#[]⟩]) 2 32 Tryd.underlying50 hi0 hz0 hz1 hz2 rfl (by decide) _ _ _ rfl (ho4.alloc _) ⟨w4.heap.size, 0, none⟩ 1 1 [.string (txt (dec0 (cutAt 61 (plus x)).1)), .string (txt (dec0 (cutAt 61 (plus x)).2.1))] rfl rfl (cell_two_new _ _ _ _) (by simp [Value.oneCell']) (by unfold maxLen; omega) (by omega) (by have := hbw.size; have := gg.size; simp; omega) ?_; intro v' w5 hown' hgrow _; obtain ⟨g', cap', rfl⟩ := ownsRow_succ hown'; obtain ⟨hv1, hv2, hr2, hk2, hb2⟩ := hv4.appended (by decide) ho4 (Nat.le_trans hbw.size gg.size) (by omega) hown' hgrow; have hc1 := hv1.cell; have hf1 := hv1.frozen))
        have kb : ∀ {b : Nat} {t : TypeId} {v : Value}, t ≠ 83 → b ≠ w.heap.size + 1 + 1 → Boxed W b t v → Boxed (w5.setCell ⟨w.heap.size + 1 + 1, 0, none⟩ (.slice (some ⟨g', 0, none⟩) ((ps (vals pre)).length + 1) cap')) b t v := fun {b t v} ht hb h => by
          have h4 : Boxed w4 b t v := (gg.block _ h.lt).trans h
          exact ((h4.alloc _).kept hgrow (h4.not_row ht ho4)).kept (grownBy_setCell' _ _ _) (fun e => hb (Option.some.inj e))
        have kc : ∀ {b : Nat} {t : TypeId} {v : Value}, t ≠ 83 → b ≠ w.heap.size + 1 + 1 → Boxed W b t v → (w5.setCell ⟨w.heap.size + 1 + 1, 0, none⟩ (.slice (some ⟨g', 0, none⟩) ((ps (vals pre)).length + 1) cap')).cell? ⟨b, 0, none⟩ = W.cell? ⟨b, 0, none⟩ := fun ht hb h => (kb ht hb h).cell.trans h.cell.symm
        refine ⟨(keepsOthers_of_below gg).trans hk2, ⟨⟨kc (by decide) (by omega) k1, kc (by decide) (by omega) k2, kc (by decide) (by omega) k3⟩, (kb (by decide) (by omega) k2).frozen.trans k2.frozen.symm⟩, ⟨_, hv2, ?_, ?_⟩, ⟨kb (by decide) (by omega) h2, kb (by decide) (by omega) h3⟩, ⟨q1, q2, q3, kb (by decide) (by omega) k1, kb (by decide) (by omega) k2, kb (by decide) (by omega) k3⟩, (hbw.trans (gg.mono hbw.size)).trans hb2⟩
        · rw [hone, cellsP_one, List.length_append]
          exact hr2
        · rw [hone, List.length_append]
          simp
          omega
  case done =>
    rintro D xs W hD hxs ⟨⟨v, hv, ho, hl⟩, ⟨h2, h3⟩, _, hbw⟩ hK
    have hvc := hv.cell
    have c2' := h2.cell
    have c3' := h3.cell
    have f2' := h2.frozen
    have f3' := h3.frozen
    rw [hxs] at ho hl
    obtain ⟨A, cp, rfl⟩ : ∃ A cp, v = .slice A (ps (cuts 38 s)).length cp := by
      rcases ho.2 with ⟨e1, e2⟩ | ⟨g, cap, cur, e1, _⟩
      · exact ⟨none, 0, by rw [e1, e2]⟩
      · exact ⟨_, _, e1⟩
    gi_wp2
    have hK2 : ((W.setCell ⟨w.heap.size, 0, none⟩ (.slice A (ps (cuts 38 s)).length cp)).setCell ⟨w.heap.size + 1, 0, none⟩ .nilIface).heap[D]? = some (.deferred (some [])) := (Below.heap_setCell _ _ _ D (by show D ≠ w.heap.size + 1; omega)).trans ((Below.heap_setCell _ _ _ D (by show D ≠ w.heap.size; omega)).trans hK)
    refine ⟨by simp, .inl ⟨_, _, rfl, run_takeDeferred hK2, ?_⟩⟩
    have hg2 := grownBy_setCell' (W.setCell ⟨w.heap.size, 0, none⟩ (.slice A (ps (cuts 38 s)).length cp)) (w.heap.size + 1) .nilIface
    have x2 := (h2.set (.slice A (ps (cuts 38 s)).length cp)).kept hg2 (by simp)
    have x3 := (h3.kept (grownBy_setCell' W w.heap.size (.slice A (ps (cuts 38 s)).length cp)) (by simp)).set .nilIface
    have hgD := grownBy_putObj' ((W.setCell ⟨w.heap.size, 0, none⟩ (.slice A (ps (cuts 38 s)).length cp)).setCell ⟨w.heap.size + 1, 0, none⟩ .nilIface) D (.deferred none)
    replace x2 := x2.kept hgD (by simp; omega)
    replace x3 := x3.kept hgD (by simp; omega)
    have y2 := x2.cell
    have y3 := x3.cell
    have ho2 := ((ho.kept (grownBy_setCell' W w.heap.size (.slice A (ps (cuts 38 s)).length cp)) (.inr (h2.not_row (by decide) ho).symm)).kept hg2 (.inr ((h3.kept (grownBy_setCell' W w.heap.size (.slice A (ps (cuts 38 s)).length cp)) (by simp)).not_row (by decide) (ho.kept (grownBy_setCell' W w.heap.size (.slice A (ps (cuts 38 s)).length cp)) (.inr (h2.not_row (by decide) ho).symm))).symm))
    have ho3 := ownsRow_putObj ho2 (.deferred none) hK2 rfl
    have hb3 : Below w.heap.size w _ := ((hbw.setCell (p := ⟨w.heap.size, 0, none⟩) (Nat.le_refl _) (.slice A (ps (cuts 38 s)).length cp)).setCell (p := ⟨w.heap.size + 1, 0, none⟩) (Nat.le_succ _) .nilIface).grown hgD (by have := hbw.size; exact (((hbw.setCell (p := ⟨w.heap.size, 0, none⟩) (Nat.le_refl _) (.slice A (ps (cuts 38 s)).length cp)).setCell (p := ⟨w.heap.size + 1, 0, none⟩) (Nat.le_succ _) .nilIface).size)) (fun k e => by have := bW.size; cases e; omega)
    generalize (((W.setCell ⟨w.heap.size, 0, none⟩ (.slice A (ps (cuts 38 s)).length cp)).setCell ⟨w.heap.size + 1, 0, none⟩ .nilIface).putObj D (.deferred none)) = W9 at *
    refine ⟨.tuple #[.slice A (ps (cuts 38 s)).length cp, .nilIface], ?_, ?_⟩
    · simp only [results, show Tryd.f25.results = #[.cell 2 50, .cell 3 25] from rfl]
      go_simp
    · refine ⟨.slice A (ps (cuts 38 s)).length cp, ?_, ?_, hb3⟩
      · unfold errP; rw [if_pos hl]
      · unfold rowsP; rw [if_pos hl]; exact ho3
  case stop =>
    rintro D c pre W hD hsp ⟨rfl, hl, h2, h3, hbw⟩ hK
    have hl2 : ¬ (ps (cuts 38 s)).length ≤ 64 := by
      obtain ⟨t, ht⟩ := hsp
      rw [← ht]
      unfold ps at hl ⊢
      rw [List.filter_append, List.length_append]
      omega
    gi_wp2
    refine ⟨by simp, .inl ⟨_, _, rfl, run_takeDeferred hK, ?_⟩⟩
    have hgD := grownBy_putObj' W D (.deferred none)
    have y2 := (h2.kept hgD (by have := bW.size; have := e1.lt; simp; omega)).cell
    have y3 := (h3.kept hgD (by have := bW.size; have := e2.lt; simp; omega)).cell
    have hb3 : Below w.heap.size w _ := hbw.grown hgD hbw.size (fun k e => by have := bW.size; cases e; omega)
    generalize W.putObj D (.deferred none) = W9 at *
    refine ⟨.tuple #[.slice none 0 0, .iface 56 (.int .i64 2)], ?_, ?_⟩
    · simp only [results, show Tryd.f25.results = #[.cell 2 50, .cell 3 25] from rfl]
      go_simp
    · refine ⟨.slice none 0 0, ?_, ?_, hb3⟩
      · unfold errP; rw [if_neg hl2]
      · unfold rowsP; rw [if_neg hl2]; exact World.ownsRow_nil ..
theorem pairs_no (s : List UInt8) (w : World) (hs : s.length ≤ 1048576) (hq : isQuery s = false) : Calls Tryd.prog 25 #[.string (txt s)] w fun e w' => e = .returned (.tuple #[.slice none 0 0, .iface 56 (.int .i64 23)]) ∧ Below w.heap.size w w' := by
  have hQ : ∀ W, Calls Tryd.prog 34 #[.string (txt s)] W fun e w' => e = .returned (.bool false) ∧ W = w' := fun W => by
    have := isQuery_calls (txt s) W (by rw [txt_size]; omega)
    rwa [txt_data, hq] at this
  go_enter Tryd.func25, Tryd.ntmps25
  go_wp2_with (go_at_call 34; refine (hQ _).mono ?_; rintro e w' ⟨rfl, rfl⟩)
  refine bodyPost_ret (v := .tuple #[.slice none 0 0, .iface 56 (.int .i64 23)]) ?_ rfl ⟨rfl, ((Below.refl _ w).alloc (Nat.le_refl _) _).alloc (by simp) _⟩
  simp only [results, show Tryd.f25.results = #[.cell 2 50, .cell 3 25] from rfl]
  go_simp
/-- the rows, and the error, that Pairs answers -/
def rowsAll (s : List UInt8) : List (List UInt8) := if isQuery s = true then rowsP s else []
def errAll (s : List UInt8) : Int := if isQuery s = true then (if (ps (cuts 38 s)).length ≤ 64 then 0 else 2) else 23
theorem pairs_calls (s : List UInt8) (w : World) (hs : s.length ≤ 1048576) (hr : Rdy w) : Calls Tryd.prog 25 #[.string (txt s)] w fun e w' => ∃ v0, e = .returned (.tuple #[v0, errV (errAll s)]) ∧ w'.ownsRow w.heap.size 83 2 v0 (rowsAll s).length (cellsP (rowsAll s)) ∧ Below w.heap.size w w' := by
  cases hq : isQuery s with
  | true =>
    refine (pairs_yes s w hs hr hq).mono fun e w' ⟨v0, h1, h2, h3⟩ => ⟨v0, ?_, ?_, h3⟩
    · rw [h1]
      unfold errP errAll errV
      rw [hq, if_pos rfl]
      by_cases h : (ps (cuts 38 s)).length ≤ 64
      · rw [if_pos h, if_pos h]; rfl
      · rw [if_neg h, if_neg h]; rfl
    · unfold rowsAll; rw [hq, if_pos rfl]; exact h2
  | false =>
    refine (pairs_no s w hs hq).mono fun e w' ⟨h1, h2⟩ => ⟨.slice none 0 0, ?_, ?_, h2⟩
    · rw [h1]
      unfold errAll
      rw [hq]; rfl
    · unfold rowsAll; rw [hq, if_neg (by decide)]; exact World.ownsRow_nil ..
end Go.Proofs.YthobmfnmenbkeaaDoor.RF
end
/- The reference's Encode, walked. -/
section
set_option linter.unusedVariables false
set_option linter.unusedSimpArgs false
namespace Go.Proofs.YthobmfnmenbkeaaDoor
open Go.RowKit Tg

theorem great8_hi : ∀ v : UInt8, ∀ h : (IntKind.u8.wrap ((v.toNat : Int) / 16)).toNat < 16, ((({ data := #[48, 49, 50, 51, 52, 53, 54, 55, 56, 57, 65, 66, 67, 68, 69, 70] } : ByteArray)[(IntKind.u8.wrap ((v.toNat : Int) / 16)).toNat]'h).toNat : Int) = (up (v / 16)).toNat := all_bytes _ (by decide +kernel)
theorem u8_rng : ∀ v : UInt8, IntKind.u8.wrap ((v.toNat : Int) / 16) < 16 := all_bytes _ (by decide +kernel)

set_option maxRecDepth 100000 in
set_option maxHeartbeats 4000000 in
theorem rencode_calls (s : ByteArray) (w : World) (hs : s.size ≤ 4294967280) : Calls Tryd.prog 27 #[.string s] w fun e w' => e = .returned (.string (txt (encode s.data.toList))) ∧ Below w.heap.size w w' := by
  go_enter Tryd.func27, Tryd.ntmps27
  go_wp2_with fail
  go_loopw [3, 4] (fun ov i wr => ∃ k : Nat, k ≤ s.size ∧ i = .int .i64 k ∧ wr.ownsRow w.heap.size 5 1 ov (encode (s.data.toList.take k)).length (bytesV (encode (s.data.toList.take k))) ∧ Below w.heap.size w wr) (fun _ i _ => s.size - (intOf i).toNat)
  case atStart => exact ⟨0, Nat.zero_le _, rfl, World.ownsRow_nil _ _ _ _, Below.refl _ _⟩
  case round =>
    obtain ⟨k, hk, rfl, hown, hbw⟩ := hrel
    have hz := hbw.size
    obtain ⟨i0, hi, hz0, hz1, hz2⟩ := info_parts info5
    by_cases hlt : k < s.size
    · have HT := Lib.hid (take_snoc s k hlt)
      have hlen := encode_len (s.data.toList.take k)
      have hlen2 : (s.data.toList.take k).length ≤ k := List.length_take_le _ _
      have HS := Lib.hid (encode_snoc (s.data.toList.take k) s[k])
      go_wp2_with fail
      refine (rUnreserved_calls s[k] _).mono ?_
      cases hu : unres s[k] with
      | true =>
        rintro e w' ⟨rfl, rfl⟩
        go_wp2_with (at_builtin; refine wpList_append_own _ rfl _ _ 64 rfl w.heap.size 5 i0 (.int .u8 0) 1 1 Tryd.underlying64 hi hz0 hz1 hz2 rfl (by decide) _ _ _ rfl (hown.alloc _) ⟨wr.heap.size, 0, none⟩ 1 1 [.int .u8 s[k].toNat] rfl rfl (cell_one_new _ _ _) ?c2 ?c3 ?c4 ?c5 ?c6)
        case c2 => simp [Value.oneCell']
        case c3 => unfold maxLen; omega
        case c4 => omega
        case c5 => rw [World.size_alloc]; omega
        case c6 =>
          intro v' w1 hown' hgrow hnil
          go_wp2_with fail
          have hbw1 := (hbw.alloc hz _).grown hgrow (by rw [World.size_alloc]; omega) (fun k e => own_base hown k e)
          exact ⟨⟨k + 1, by omega, by go_num, by rw [HT.out, HS.out, hu]; simpa [bytesV] using hown', hbw1⟩, by simp [intOf]; omega⟩
      | false =>
        rintro e w' ⟨rfl, rfl⟩
        go_wp2_with fail
        refine wp_region_any (by kernel_rfl) ?_
        change wpAny _ _ _ _ _ _ _ (World.drew _)
        refine wpAny_take (i := 0) (v := ?v0) rfl (by kernel_rfl) (by kernel_rfl) (by kernel_rfl) (fun _ _ _ h => h) (Or.inl ⟨by rfl, ?hy0⟩) ?rest0
        case hy0 => intro w; go_simp; (try with_reducible rfl); (try (first | rw [if_pos (by omega)] | rw [if_neg (by omega)])); (try go_simp); (try with_reducible rfl)
        refine wpAny_take (i := 1) (v := ?v1) rfl (by kernel_rfl) (by kernel_rfl) (by kernel_rfl) (fun _ _ _ h => h) (Or.inl ⟨by rfl, ?hy1⟩) ?rest1
        case hy1 => intro w; go_simp; (try with_reducible rfl); (try (first | rw [if_pos (by omega)] | rw [if_neg (by omega)])); (try go_simp); (try with_reducible rfl)
        refine wpAny_take (i := 2) (v := ?v2) rfl (by kernel_rfl) (by kernel_rfl) (by kernel_rfl) (fun _ _ _ h => h) (Or.inl ⟨by rfl, ?hy2⟩) ?rest2
        case hy2 => intro w; go_simp; (try with_reducible rfl); (try (first | rw [if_pos (by omega)] | rw [if_neg (by omega)])); (try go_simp); (try with_reducible rfl)
        refine wpAny_take (i := 3) (v := ?v3) rfl (by kernel_rfl) (by kernel_rfl) (by kernel_rfl) (fun _ _ _ h => h) (Or.inl ⟨by rfl, ?hy3⟩) ?rest3
        case hy3 => intro w; go_simp; (try with_reducible rfl); (try (first | rw [if_pos (by omega)] | rw [if_neg (by omega)])); (try go_simp); (try with_reducible rfl)
        refine wpAny_take (i := 4) (v := ?v4) rfl (by kernel_rfl) (by kernel_rfl) (by kernel_rfl) (fun _ _ _ h => h) (Or.inl ⟨by rfl, ?hy4⟩) ?rest4
        case hy4 => intro w; go_simp; (try with_reducible rfl); (try (first | rw [if_pos (by omega)] | rw [if_neg (by omega)])); (try go_simp); (try with_reducible rfl)
        refine wpAny_take (i := 5) (v := .int .u8 (up (s[k] / 16)).toNat) rfl (by kernel_rfl) (by kernel_rfl) (by kernel_rfl) (fun _ _ _ h => h) (Or.inl ⟨by rfl, ?hy5⟩) ?rest5
        case hy5 =>
          intro w; go_simp
          clear HT HS hu
          generalize s[k] = v
          revert v
          intro v; rw [dif_pos (u8_rng v), great8_hi v]; rfl
        refine wpAny_take (i := 6) (v := ?v6) rfl (by kernel_rfl) (by kernel_rfl) (by kernel_rfl) (fun _ _ _ h => h) (Or.inl ⟨by rfl, ?hy6⟩) ?rest6
        case hy6 => intro w; go_simp; (try with_reducible rfl); (try (first | rw [if_pos (by omega)] | rw [if_neg (by omega)])); (try go_simp); (try with_reducible rfl)
        refine wpAny_take (i := 7) (v := ?v7) rfl (by kernel_rfl) (by kernel_rfl) (by kernel_rfl) (fun _ _ _ h => h) (Or.inl ⟨by rfl, ?hy7⟩) ?rest7
        case hy7 => intro w; go_simp; (try with_reducible rfl); (try (first | rw [if_pos (by omega)] | rw [if_neg (by omega)])); (try go_simp); (try with_reducible rfl)
        refine wpAny_take (i := 8) (v := ?v8) rfl (by kernel_rfl) (by kernel_rfl) (by kernel_rfl) (fun _ _ _ h => h) (Or.inl ⟨by rfl, ?hy8⟩) ?rest8
        case hy8 => intro w; go_simp; (try with_reducible rfl); (try (first | rw [if_pos (by omega)] | rw [if_neg (by omega)])); (try go_simp); (try with_reducible rfl)
        refine wpAny_take (i := 9) (v := ?v9) rfl (by kernel_rfl) (by kernel_rfl) (by kernel_rfl) (fun _ _ _ h => h) (Or.inl ⟨by rfl, ?hy9⟩) ?rest9
        case hy9 => intro w; go_simp; (try with_reducible rfl); (try (first | rw [if_pos (by omega)] | rw [if_neg (by omega)])); (try go_simp); (try with_reducible rfl)
        refine wpAny_take (i := 10) (v := .int .u8 (up (s[k] % 16)).toNat) rfl (by kernel_rfl) (by kernel_rfl) (by kernel_rfl) (fun _ _ _ h => h) (Or.inl ⟨by rfl, ?hy10⟩) ?rest10
        case hy10 =>
          intro w; go_simp
          clear HT HS hu
          generalize s[k] = v
          revert v
          intro v; rw [dif_pos (tmod_rng v), great_lo v]; rfl
        refine wpAny_tail (k := 11) (by kernel_rfl) (by kernel_rfl) ?_
        simp only [List.drop_succ_cons, List.drop_zero]
        have hbx := below_dr hbw ⟨⟨1, rfl⟩⟩
        have hox : (wr.drew).ownsRow w.heap.size 5 1 _ (encode (s.data.toList.take k)).length (bytesV (encode (s.data.toList.take k))) := hown
        change Below w.heap.size w (wr.drew) at hbx
        generalize wr.drew = wx at hbx hox ⊢
        have hzx := hbx.size
        go_wp2_with (at_builtin; refine wpList_append_own _ rfl _ _ 64 rfl w.heap.size 5 i0 (.int .u8 0) 1 1 Tryd.underlying64 hi hz0 hz1 hz2 rfl (by decide) _ _ _ rfl (hox.alloc _) ⟨wx.heap.size, 0, none⟩ 3 3 [.int .u8 37, .int .u8 (up (s[k] / 16)).toNat, .int .u8 (up (s[k] % 16)).toNat] rfl rfl (cell_three_new _ _ _ _ _) ?c2 ?c3 ?c4 ?c5 ?c6)
        case c2 => simp [Value.oneCell']
        case c3 => unfold maxLen; omega
        case c4 => omega
        case c5 => rw [World.size_alloc]; omega
        case c6 =>
          intro v' w1 hown' hgrow hnil
          go_wp2_with fail
          have hbw1 := (hbx.alloc hzx _).grown hgrow (by rw [World.size_alloc]; omega) (fun k e => own_base hown k e)
          exact ⟨⟨k + 1, by omega, by go_num, by rw [HT.out, HS.out, hu]; simpa [bytesV, coded] using hown', hbw1⟩, by simp [intOf]; omega⟩
    · have hcv := str_of_row hown
      go_wp2_with fail
      go_ret
      have HX := take_all s hlt
      exact ⟨ret_tuple (by rw [HX]; rfl), hbw⟩
end Go.Proofs.YthobmfnmenbkeaaDoor
end
section
set_option linter.unusedVariables false
namespace Go.Proofs.YthobmfnmenbkeaaDoor
open Go.RowKit Go.ChangeShapes Go.WideShapes Go.ChangeAt Tg

theorem own : ownKnob Tryd.prog.godebug = none := by kernel_rfl

theorem witness_row_shaped {H : Type} {enc : TypeId × Value → H} {C : Checked} {os : Os} {f : FuncId} {fn : Func} {s : OpenSpec} {conds : List PathCond} {apart : Bool} {laid : List (String × DataW Unit)} (w0 : World) (args : Array Value) (hos : w0.os = os)
    (hsh : (w0.forCall (fun _ _ => 0) ⟨#[], args, []⟩).Shaped C.prog)
    (hok : Input.okWideB C.prog (w0.forCall (fun _ _ => 0) ⟨#[], args, []⟩) f ⟨#[], args, []⟩ = true)
    (hrow : s.preRow enc C.prog fn conds apart laid (w0.forCall (fun _ _ => 0) ⟨#[], args, []⟩).memory args) :
    ∃ (w : World) (tape : Tape) (i : Input), w.os = os ∧ (w.forCall tape i).Shaped C.prog ∧ i.vars = [] ∧ Input.okWide C.prog (w.forCall tape i) .any w.heap.size f i ∧
      s.preRow enc C.prog fn conds apart laid (w.forCall tape i).memory i.args ∧ ({} : Assume).holds C.prog (lone (Frame.enter C.prog f i.args .normal) [] (w.forCall tape i)) :=
  ⟨w0, fun _ _ => 0, ⟨#[], args, []⟩, hos, hsh, (Input.okWide_of_okWideB (base := 0) hok).1, (Input.okWide_of_okWideB hok).2, hrow, by
    simp only [Assume.holds]
    exact ⟨by simp, by simp, fun _ => Modest.zero, by simp, by simp⟩⟩

/-- the three tables that every row of this family lists -/
def tables : List (String × DataW Unit) := [("unicode/utf8.acceptRanges", Rows.laid_unicode_utf8_acceptRanges), ("unicode.CaseRanges", Rows.laid_unicode_CaseRanges), ("unicode/utf8.first", Rows.laid_unicode_utf8_first)]
noncomputable def start (os : Os) : World := World.laidAll Tryd.prog os tables
theorem start_shaped (os : Os) (args : Array Value) : ((start os).forCall (fun _ _ => 0) ⟨#[], args, []⟩).Shaped Tryd.prog := World.shaped_of_ZipB (by kernel_rfl) (by kernel_rfl)
theorem start_laid (os : Os) (args : Array Value) : laidMet Tryd.prog tables ((start os).forCall (fun _ _ => 0) ⟨#[], args, []⟩).memory := laidMet_laidAll _ (by kernel_rfl) (by kernel_rfl)

theorem rdy_of {W : World} (h : W.ShapedOpen Tryd.prog) (hL : laidMet Tryd.prog tables W) : Rdy W where
  out := by
    obtain ⟨m, hm⟩ := Tryd.laysM143.s1_3 W h
    exact ⟨m, hm⟩
  cas := caseVar_of_reads (ρ := Tryd.lays262_ren) { Tryd.lays262 with } (by kernel_rfl) ⟨by kernel_rfl, by kernel_rfl, by kernel_rfl, by kernel_rfl, by kernel_rfl, by kernel_rfl⟩ (by
    rw [← Pinned.caseRanges_eq]; exact Lib.laidMet.reads hL (.tail _ (.head _)))
  utf := utf8Tabs_of_reads (ρ := Tryd.lays260_ren) Tryd.lays260 ⟨by kernel_rfl, by kernel_rfl, by kernel_rfl, by kernel_rfl, by kernel_rfl, by kernel_rfl, by kernel_rfl⟩ (by
    rw [← Pinned.utf8First_eq]; exact Lib.laidMet.reads hL (.tail _ (.tail _ (.head _)))) (by
    have e : (Rows.laid_unicode_utf8_acceptRanges : DataW Unit) = Lib.acceptData := by kernel_rfl
    rw [← e]; exact Lib.laidMet.reads hL (.head _))

theorem bound {H : Type} {l : List (DataW H)} (hk : Rows.uptoSmall H l = true) : Rows.uptoBulkAll l ≤ 1048576 := by
  simpa [Rows.uptoSmall] using hk
end Go.Proofs.YthobmfnmenbkeaaDoor
end
