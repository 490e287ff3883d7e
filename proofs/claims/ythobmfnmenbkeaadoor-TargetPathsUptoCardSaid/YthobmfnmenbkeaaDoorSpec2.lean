/- What a target's parts are, and how a target is read: plain words, on lists of bytes. No program stands in this text. -/
import Derived.Test.YthobmfnmenbkeaaDoorLaws2
import Derived.Lib.Case
import Derived.Lib.CutLaws
namespace Go.Proofs.YthobmfnmenbkeaaDoor.Tg

structure T where
  form : Int
  host : List UInt8
  path : List UInt8
  query : List UInt8
  has : Bool
deriving DecidableEq

def zeroT : T := ⟨0, [], [], [], false⟩
def low (c : UInt8) : UInt8 := if 65 ≤ c && c ≤ 90 then c + 32 else c
def lower (l : List UInt8) : List UInt8 := l.map low
def http : List UInt8 := [104, 116, 116, 112, 58, 47, 47]
def stop (c : UInt8) : Bool := c == 47 || c == 63
def isHost (l : List UInt8) : Bool := l.all hostB && decide (1 ≤ l.length) && decide (l.length ≤ 255)
/-- ahead of the first such byte, behind it, whether there is one -/
def cutAt (c : UInt8) : List UInt8 → List UInt8 × List UInt8 × Bool
  | [] => ([], [], false)
  | x :: r => if x = c then ([], r, true) else (x :: (cutAt c r).1, (cutAt c r).2.1, (cutAt c r).2.2)
/-- a path and a query, or an error -/
def behind (form : Int) (host rest : List UInt8) : Int × T :=
  let p := if (cutAt 63 rest).1 = [] ∧ form = 2 then [47] else (cutAt 63 rest).1
  if isPath p && isQuery (cutAt 63 rest).2.1 then (0, ⟨form, host, p, (cutAt 63 rest).2.1, (cutAt 63 rest).2.2⟩) else (23, zeroT)
def isHttp (l : List UInt8) : Bool := decide (7 ≤ l.length) && lower (l.take 7) == http
def hostOf (l : List UInt8) : List UInt8 := l.takeWhile fun c => !stop c
def afterHost (l : List UInt8) : List UInt8 := l.dropWhile fun c => !stop c
def parse (l : List UInt8) : Int × T :=
  if 65536 < l.length then (2, zeroT)
  else if l = [42] then (0, ⟨3, [], [], [], false⟩)
  else if isHttp l then (if isHost (hostOf (l.drop 7)) then behind 2 (lower (hostOf (l.drop 7))) (afterHost (l.drop 7)) else (23, zeroT))
  else behind 1 [] l

theorem cut_cutAt (c : UInt8) : ∀ l : List UInt8, Lib.cut l [c] = cutAt c l
  | [] => by simp [Lib.cut, Lib.index, cutAt]
  | x :: r => by
    have ih := cut_cutAt c r
    by_cases h : x = c
    · subst h
      have hx : Lib.index (x :: r) [x] = 0 := by rw [Lib.index]; simp [List.isPrefixOf]
      simp [Lib.cut, hx, cutAt]
    · have hg := Lib.index_ge r [c]
      have hp : ([c] : List UInt8).isPrefixOf (x :: r) = false := by simp [List.isPrefixOf, Ne.symm h]
      have hx : Lib.index (x :: r) [c] = if Lib.index r [c] == -1 then -1 else Lib.index r [c] + 1 := by rw [Lib.index, hp]; simp
      unfold cutAt
      rw [if_neg h, ← ih]
      unfold Lib.cut
      rw [hx]
      by_cases hm : Lib.index r [c] = -1
      · simp [hm]
      · have h0 : 0 ≤ Lib.index r [c] := by omega
        obtain ⟨j, hj⟩ : ∃ j : Nat, Lib.index r [c] = j := ⟨(Lib.index r [c]).toNat, by omega⟩
        have hb : (Lib.index r [c] == -1) = false := by simpa using hm
        rw [hb]
        simp only [Bool.false_eq_true, if_false]
        rw [if_pos (by omega), if_pos h0, hj]
        have e1 : ((j : Int) + 1).toNat = j + 1 := by omega
        rw [e1, Int.toNat_natCast]
        simp
end Go.Proofs.YthobmfnmenbkeaaDoor.Tg
