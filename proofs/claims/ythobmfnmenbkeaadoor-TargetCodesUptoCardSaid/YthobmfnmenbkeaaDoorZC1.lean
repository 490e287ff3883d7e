/- The reference's functions that gather bytes with codes, walked: meant. -/
import Derived.Shelf.Strings.Builder1
import Derived.Shelf.Strings.Builder2
import Derived.Shelf.Strings.OnBuilder
import Derived.Shelf.Small.Utf8
import Derived.Shelf.Small.Strs
import Derived.Shelf.Strings.BuilderF
import Derived.Shelf.Strings.BuilderK
import Derived.Shelf.Strings.BuilderRune
import Derived.Shelf.Strings.Search1
import Derived.Shelf.Strings.Search2
import Derived.Shelf.Strings.Search3
import Derived.Shelf.Strings.Cut
import Derived.Shelf.Strings.Count
import Derived.Shelf.LaysM
import Derived.Shelf.Strings.Shaped
import Derived.Shelf.Strings.Prefix
import Derived.Shelf.Strings.Split
import Derived.Shelf.Strings.Replace
import Derived.Shelf.Strings.SplitShaped
import Derived.Shelf.Unicode.Latin
import Derived.Shelf.Strings.Runes
import Derived.Shelf.Strings.IndexAny
import Derived.Shelf.Strings.AsciiSet
import Derived.Shelf.Strings.IndexAnyAll
import Derived.Shelf.Unicode.DecodeSlow
import Derived.Shelf.Unicode.DecodeAny
import Derived.Shelf.Unicode.CaseLookup
import Derived.Shelf.Unicode.CaseConvert
import Derived.Shelf.Unicode.CaseTo
import Derived.Shelf.Unicode.CaseLaid
import Derived.Shelf.Strings.MapAny
import Derived.Shelf.Strings.CaseAny
import Derived.Test.YthobmfnmenbkeaaDoorProg
import Derived.WalkKit
import Derived.Outline
import Derived.Deep.QuietTactic
import Derived.BigQuiet
import Derived.WalkLawsBesides
import Derived.WalkSpells
import Derived.Lib.Hide
import Derived.Deep.Light
import Derived.Lib.Case
import Derived.Lib.CutLaws
import Derived.Lib.SplitLaws
import Derived.WalkSmall
import Derived.Maps.AppendAt
import Derived.Deep.AppendLies
import Derived.Deep.DeepCutAuto
import Derived.Lib.IndexAny
import Derived.Lib.MapLaws
import Derived.Lib.CaseU
import Derived.Lib.TrimAscii
import Derived.Laws.Runes
import Derived.Laws.RangeAny
import Derived.Lib.RuneCount
import Derived.Lib.TrimU
import Derived.Laws.IdiomStrings
import Derived.StillTailTactics
/- The contracts of the library's functions that this seat's program calls, each one application of a theorem of the kit's shelf (laid by its tool), in this translation's own numbers. -/
section
namespace Go.Proofs
open Go.Shelf
def Tryd.lays169_ren : Go.Shelf.Ren := ⟨fun | 169 => 45 | n => n, fun | 70 => 63 | 9 => 9 | 0 => 0 | 72 => 66 | 37 => 64 | 127 => 100 | 3 => 3 | 5 => 5 | n => n, fun | n => n⟩
theorem Tryd.lays169 : Go.Proofs.Lays.n169 Tryd.prog Tryd.lays169_ren := {
  mixed := by kernel_rfl
  f169 := Tryd.func45.trans (congrArg some (by kernel_rfl))
  t0 := Tryd.underlying0
  a0 := Tryd.isAgg0
  z0 := Tryd.sizeOf0
  v0 := Tryd.zeroValue0
  t3 := Tryd.underlying3
  a3 := Tryd.isAgg3
  z3 := Tryd.sizeOf3
  v3 := Tryd.zeroValue3
  t9 := Tryd.underlying9
  a9 := Tryd.isAgg9
  z9 := Tryd.sizeOf9
  v9 := Tryd.zeroValue9
  t37 := Tryd.underlying64
  a37 := Tryd.isAgg64
  z37 := Tryd.sizeOf64
  v37 := Tryd.zeroValue64
  t70 := Tryd.underlying63
  a70 := Tryd.isAgg63
  z70 := Tryd.sizeOf63
  v70 := Tryd.zeroValue63
  t72 := Tryd.underlying66
  a72 := Tryd.isAgg66
  z72 := Tryd.sizeOf66
  v72 := Tryd.zeroValue66
  t127 := Tryd.underlying100
  a127 := Tryd.isAgg100
  z127 := Tryd.sizeOf100
  v127 := Tryd.zeroValue100 }
theorem Tryd.Builder_Extra_169 : Builder.Extra Tryd.prog Tryd.lays169_ren := {
  sizeBuilder := by kernel_rfl
  liesBuilder := by kernel_rfl
  t5 := Tryd.underlying5
  a5 := Tryd.isAgg5
  z5 := Tryd.sizeOf5
  v5 := Tryd.zeroValue5
  infoByte := by kernel_rfl
  cellsByte := by kernel_rfl
  sizeByte := by kernel_rfl
  neB5 := by decide }
def Tryd.lays159_ren : Go.Shelf.Ren := ⟨fun | 159 => 29 | 165 => 56 | 166 => 42 | 167 => 40 | 169 => 45 | 230 => 57 | 204 => 58 | 240 => 70 | 241 => 76 | 197 => 77 | 118 => 78 | 168 => 79 | 270 => 80 | 262 => 81 | 276 => 89 | 277 => 95 | 260 => 96 | 242 => 97 | 313 => 98 | 278 => 103 | 274 => 104 | 275 => 105 | n => n, fun | 9 => 9 | 4 => 4 | 3 => 3 | 5 => 5 | 72 => 66 | 0 => 0 | 76 => 70 | 75 => 25 | 107 => 87 | 70 => 63 | 20 => 20 | 37 => 64 | 127 => 100 | 21 => 21 | 105 => 104 | 164 => 113 | 162 => 120 | 203 => 118 | 119 => 122 | 46 => 98 | 139 => 125 | 138 => 124 | 51 => 126 | 160 => 127 | 208 => 135 | 206 => 133 | 80 => 74 | n => n, fun | 13 => 0 | 3 => 2 | 4 => 3 | n => n⟩
theorem Tryd.lays159 : Go.Proofs.Lays.n159 Tryd.prog Tryd.lays159_ren := {
  mixed := by kernel_rfl
  f118 := Tryd.func78.trans (congrArg some (by kernel_rfl))
  f159 := Tryd.func29.trans (congrArg some (by kernel_rfl))
  f165 := Tryd.func56.trans (congrArg some (by kernel_rfl))
  f166 := Tryd.func42.trans (congrArg some (by kernel_rfl))
  f167 := Tryd.func40.trans (congrArg some (by kernel_rfl))
  f168 := Tryd.func79.trans (congrArg some (by kernel_rfl))
  f169 := Tryd.func45.trans (congrArg some (by kernel_rfl))
  f197 := Tryd.func77.trans (congrArg some (by kernel_rfl))
  f204 := Tryd.func58.trans (congrArg some (by kernel_rfl))
  f230 := Tryd.func57.trans (congrArg some (by kernel_rfl))
  f240 := Tryd.func70.trans (congrArg some (by kernel_rfl))
  f241 := Tryd.func76.trans (congrArg some (by kernel_rfl))
  f242 := Tryd.func97.trans (congrArg some (by kernel_rfl))
  f260 := Tryd.func96.trans (congrArg some (by kernel_rfl))
  f262 := Tryd.func81.trans (congrArg some (by kernel_rfl))
  f270 := Tryd.func80.trans (congrArg some (by kernel_rfl))
  f274 := Tryd.func104.trans (congrArg some (by kernel_rfl))
  f275 := Tryd.func105.trans (congrArg some (by kernel_rfl))
  f276 := Tryd.func89.trans (congrArg some (by kernel_rfl))
  f277 := Tryd.func95.trans (congrArg some (by kernel_rfl))
  f278 := Tryd.func103.trans (congrArg some (by kernel_rfl))
  f313 := Tryd.func98.trans (congrArg some (by kernel_rfl))
  t0 := Tryd.underlying0
  a0 := Tryd.isAgg0
  z0 := Tryd.sizeOf0
  v0 := Tryd.zeroValue0
  t3 := Tryd.underlying3
  a3 := Tryd.isAgg3
  z3 := Tryd.sizeOf3
  v3 := Tryd.zeroValue3
  t4 := Tryd.underlying4
  a4 := Tryd.isAgg4
  z4 := Tryd.sizeOf4
  v4 := Tryd.zeroValue4
  t5 := Tryd.underlying5
  a5 := Tryd.isAgg5
  z5 := Tryd.sizeOf5
  v5 := Tryd.zeroValue5
  t9 := Tryd.underlying9
  a9 := Tryd.isAgg9
  z9 := Tryd.sizeOf9
  v9 := Tryd.zeroValue9
  t20 := Tryd.underlying20
  a20 := Tryd.isAgg20
  z20 := Tryd.sizeOf20
  v20 := Tryd.zeroValue20
  t21 := Tryd.underlying21
  a21 := Tryd.isAgg21
  z21 := Tryd.sizeOf21
  v21 := Tryd.zeroValue21
  t37 := Tryd.underlying64
  a37 := Tryd.isAgg64
  z37 := Tryd.sizeOf64
  v37 := Tryd.zeroValue64
  t46 := Tryd.underlying98
  a46 := Tryd.isAgg98
  z46 := Tryd.sizeOf98
  v46 := Tryd.zeroValue98
  t51 := Tryd.underlying126
  a51 := Tryd.isAgg126
  z51 := Tryd.sizeOf126
  v51 := Tryd.zeroValue126
  t70 := Tryd.underlying63
  a70 := Tryd.isAgg63
  z70 := Tryd.sizeOf63
  v70 := Tryd.zeroValue63
  t72 := Tryd.underlying66
  a72 := Tryd.isAgg66
  z72 := Tryd.sizeOf66
  v72 := Tryd.zeroValue66
  t75 := Tryd.underlying25
  a75 := Tryd.isAgg25
  z75 := Tryd.sizeOf25
  v75 := Tryd.zeroValue25
  t76 := Tryd.underlying70
  a76 := Tryd.isAgg70
  z76 := Tryd.sizeOf70
  v76 := Tryd.zeroValue70
  t105 := Tryd.underlying104
  a105 := Tryd.isAgg104
  z105 := Tryd.sizeOf104
  v105 := Tryd.zeroValue104
  t107 := Tryd.underlying87
  a107 := Tryd.isAgg87
  z107 := Tryd.sizeOf87
  v107 := Tryd.zeroValue87
  t119 := Tryd.underlying122
  a119 := Tryd.isAgg122
  z119 := Tryd.sizeOf122
  t127 := Tryd.underlying100
  a127 := Tryd.isAgg100
  z127 := Tryd.sizeOf100
  v127 := Tryd.zeroValue100
  t138 := Tryd.underlying124
  a138 := Tryd.isAgg124
  z138 := Tryd.sizeOf124
  v138 := Tryd.zeroValue124
  t139 := Tryd.underlying125
  a139 := Tryd.isAgg125
  z139 := Tryd.sizeOf125
  v139 := Tryd.zeroValue125
  t160 := Tryd.underlying127
  a160 := Tryd.isAgg127
  z160 := Tryd.sizeOf127
  v160 := Tryd.zeroValue127
  t162 := Tryd.underlying120
  a162 := Tryd.isAgg120
  z162 := Tryd.sizeOf120
  v162 := Tryd.zeroValue120
  t164 := Tryd.underlying113
  a164 := Tryd.isAgg113
  z164 := Tryd.sizeOf113
  v164 := Tryd.zeroValue113
  t203 := Tryd.underlying118
  a203 := Tryd.isAgg118
  z203 := Tryd.sizeOf118
  v203 := Tryd.zeroValue118
  t206 := Tryd.underlying133
  a206 := Tryd.isAgg133
  z206 := Tryd.sizeOf133
  v206 := Tryd.zeroValue133
  t208 := Tryd.underlying135
  a208 := Tryd.isAgg135
  z208 := Tryd.sizeOf135
  v208 := Tryd.zeroValue135
  g3 := by kernel_rfl
  g4 := by kernel_rfl
  g13 := by kernel_rfl }
theorem Tryd.Builder_Extra_159 : Builder.Extra Tryd.prog Tryd.lays159_ren := {
  sizeBuilder := by kernel_rfl
  liesBuilder := by kernel_rfl
  t5 := Tryd.underlying5
  a5 := Tryd.isAgg5
  z5 := Tryd.sizeOf5
  v5 := Tryd.zeroValue5
  infoByte := by kernel_rfl
  cellsByte := by kernel_rfl
  sizeByte := by kernel_rfl
  neB5 := by decide }
open Go.RowKit in
theorem Tryd.strings_ToLower_ascii (s : ByteArray) (w : World) (hs : s.size ≤ 140737488355328) (hascii : ∀ (j : Nat) (b : UInt8), s.data.toList[j]? = some b → b.toNat < 128) :
    Calls Tryd.prog 29 #[.string s] w fun e w' => e = .returned (.string ⟨(Lib.toLowerA s.data.toList).toArray⟩) ∧ Below w.heap.size w w' := Any.strings_ToLower_ascii Tryd.lays159 Tryd.Builder_Extra_159 s w hs hascii
def Tryd.lays156_ren : Go.Shelf.Ren := ⟨fun | 156 => 46 | 165 => 56 | 166 => 42 | 169 => 45 | 240 => 70 | 241 => 76 | 276 => 89 | 277 => 95 | n => n, fun | 31 => 38 | 9 => 9 | 3 => 3 | 4 => 4 | 0 => 0 | 20 => 20 | 72 => 66 | 76 => 70 | 70 => 63 | 37 => 64 | 75 => 25 | 127 => 100 | 164 => 113 | 5 => 5 | 80 => 74 | n => n, fun | n => n⟩
theorem Tryd.lays156 : Go.Proofs.Lays.n156 Tryd.prog Tryd.lays156_ren := {
  mixed := by kernel_rfl
  f156 := Tryd.func46.trans (congrArg some (by kernel_rfl))
  f165 := Tryd.func56.trans (congrArg some (by kernel_rfl))
  f166 := Tryd.func42.trans (congrArg some (by kernel_rfl))
  f169 := Tryd.func45.trans (congrArg some (by kernel_rfl))
  f240 := Tryd.func70.trans (congrArg some (by kernel_rfl))
  f241 := Tryd.func76.trans (congrArg some (by kernel_rfl))
  f276 := Tryd.func89.trans (congrArg some (by kernel_rfl))
  f277 := Tryd.func95.trans (congrArg some (by kernel_rfl))
  t0 := Tryd.underlying0
  a0 := Tryd.isAgg0
  z0 := Tryd.sizeOf0
  v0 := Tryd.zeroValue0
  t3 := Tryd.underlying3
  a3 := Tryd.isAgg3
  z3 := Tryd.sizeOf3
  v3 := Tryd.zeroValue3
  t4 := Tryd.underlying4
  a4 := Tryd.isAgg4
  z4 := Tryd.sizeOf4
  v4 := Tryd.zeroValue4
  t9 := Tryd.underlying9
  a9 := Tryd.isAgg9
  z9 := Tryd.sizeOf9
  v9 := Tryd.zeroValue9
  t20 := Tryd.underlying20
  a20 := Tryd.isAgg20
  z20 := Tryd.sizeOf20
  v20 := Tryd.zeroValue20
  t31 := Tryd.underlying38
  a31 := Tryd.isAgg38
  z31 := Tryd.sizeOf38
  v31 := Tryd.zeroValue38
  t37 := Tryd.underlying64
  a37 := Tryd.isAgg64
  z37 := Tryd.sizeOf64
  v37 := Tryd.zeroValue64
  t70 := Tryd.underlying63
  a70 := Tryd.isAgg63
  z70 := Tryd.sizeOf63
  v70 := Tryd.zeroValue63
  t72 := Tryd.underlying66
  a72 := Tryd.isAgg66
  z72 := Tryd.sizeOf66
  v72 := Tryd.zeroValue66
  t75 := Tryd.underlying25
  a75 := Tryd.isAgg25
  z75 := Tryd.sizeOf25
  v75 := Tryd.zeroValue25
  t76 := Tryd.underlying70
  a76 := Tryd.isAgg70
  z76 := Tryd.sizeOf70
  v76 := Tryd.zeroValue70
  t127 := Tryd.underlying100
  a127 := Tryd.isAgg100
  z127 := Tryd.sizeOf100
  v127 := Tryd.zeroValue100
  t164 := Tryd.underlying113
  a164 := Tryd.isAgg113
  z164 := Tryd.sizeOf113
  v164 := Tryd.zeroValue113 }
theorem Tryd.Builder_Extra_156 : Builder.Extra Tryd.prog Tryd.lays156_ren := {
  sizeBuilder := by kernel_rfl
  liesBuilder := by kernel_rfl
  t5 := Tryd.underlying5
  a5 := Tryd.isAgg5
  z5 := Tryd.sizeOf5
  v5 := Tryd.zeroValue5
  infoByte := by kernel_rfl
  cellsByte := by kernel_rfl
  sizeByte := by kernel_rfl
  neB5 := by decide }
open Go.RowKit in
theorem Tryd.strings_Join (bk o c : Nat) (xs : List ByteArray) (sep : ByteArray) (w : World) (hcells : ∀ (j : Nat) x, xs[j]? = some x → w.cell? ⟨bk, o + j, none⟩ = some (.string x)) (hbk : bk < w.heap.size) (hN : xs.length ≤ 140737488355328) (hcap : xs.length ≤ c) (hlen : (Lib.join (xs.map (·.data.toList)) sep.data.toList).length ≤ 140737488355328) :
    Calls Tryd.prog 46 #[.slice (some ⟨bk, o, none⟩) xs.length c, .string sep] w fun e w' => e = .returned (.string ⟨(Lib.join (xs.map (·.data.toList)) sep.data.toList).toArray⟩) ∧ Below w.heap.size w w' := Any.strings_Join Tryd.lays156 Tryd.Builder_Extra_156 bk o c xs sep w hcells hbk hN hcap hlen
def Tryd.lays119_ren : Go.Shelf.Ren := ⟨fun | 119 => 82 | n => n, fun | 21 => 21 | 4 => 4 | n => n, fun | n => n⟩
theorem Tryd.lays119 : Go.Proofs.Lays.n119 Tryd.prog Tryd.lays119_ren := {
  mixed := by kernel_rfl
  f119 := Tryd.func82.trans (congrArg some (by kernel_rfl))
  t4 := Tryd.underlying4
  a4 := Tryd.isAgg4
  z4 := Tryd.sizeOf4
  v4 := Tryd.zeroValue4
  t21 := Tryd.underlying21
  a21 := Tryd.isAgg21
  z21 := Tryd.sizeOf21
  v21 := Tryd.zeroValue21 }
theorem Tryd.utf8_ValidRune (r : Int) (w : World) :
    Calls Tryd.prog 82 #[.int .i32 r] w fun e w' => e = .returned (.bool (Lib.validRune r)) ∧ w' = w := Any.utf8_ValidRune Tryd.lays119 r w
def Tryd.lays137_ren : Go.Shelf.Ren := ⟨fun | 137 => 65 | 217 => 85 | 266 => 99 | n => n, fun | 9 => 9 | 5 => 5 | 3 => 3 | n => n, fun | n => n⟩
theorem Tryd.lays137 : Go.Proofs.Lays.n137 Tryd.prog Tryd.lays137_ren := {
  mixed := by kernel_rfl
  f137 := Tryd.func65.trans (congrArg some (by kernel_rfl))
  f217 := Tryd.func85.trans (congrArg some (by kernel_rfl))
  f266 := Tryd.func99.trans (congrArg some (by kernel_rfl))
  t3 := Tryd.underlying3
  a3 := Tryd.isAgg3
  z3 := Tryd.sizeOf3
  v3 := Tryd.zeroValue3
  t5 := Tryd.underlying5
  a5 := Tryd.isAgg5
  z5 := Tryd.sizeOf5
  v5 := Tryd.zeroValue5
  t9 := Tryd.underlying9
  a9 := Tryd.isAgg9
  z9 := Tryd.sizeOf9
  v9 := Tryd.zeroValue9 }
open Go.RowKit in
theorem Tryd.strings_IndexByte (s : ByteArray) (c : Int) (w : World) :
    Calls Tryd.prog 65 #[.string s, .int .u8 c] w fun e w' => e = .returned (.int .i64 (Lib.indexByte s.data.toList c.toNat.toUInt8)) ∧ w' = w := Any.strings_IndexByte Tryd.lays137 s c w
open Go.RowKit in
theorem Tryd.Builder_String_any_k (B b : Nat) (l : List UInt8) (w : World) (h : Lib.IsBuilderF 66 5 B b (Lib.byteCells l) w) (hBw : B ≤ w.heap.size) :
    Calls Tryd.prog 45 #[.pointer (some ⟨b, 0, none⟩)] w fun e w' => e = .returned (.string ⟨l.toArray⟩) ∧ (Lib.IsBuilderF 66 5 B b (Lib.byteCells l) w' ∧ Below B w w' ∧ Lib.OthersKept 5 (some b) w w') := Any.Builder_String_any_k Tryd.lays169 Tryd.Builder_Extra_169 B b l w h hBw
def Tryd.lays143_ren : Go.Shelf.Ren := ⟨fun | 143 => 92 | 219 => 86 | 217 => 85 | 225 => 84 | 224 => 83 | 267 => 100 | 266 => 99 | 314 => 106 | n => n, fun | 9 => 9 | 3 => 3 | 4 => 4 | 5 => 5 | 46 => 98 | 146 => 130 | 51 => 126 | n => n, fun | 1 => 1 | n => n⟩
theorem Tryd.lays143 : Go.Proofs.Lays.n143 Tryd.prog Tryd.lays143_ren := {
  mixed := by kernel_rfl
  f143 := Tryd.func92.trans (congrArg some (by kernel_rfl))
  f217 := Tryd.func85.trans (congrArg some (by kernel_rfl))
  f219 := Tryd.func86.trans (congrArg some (by kernel_rfl))
  f224 := Tryd.func83.trans (congrArg some (by kernel_rfl))
  f225 := Tryd.func84.trans (congrArg some (by kernel_rfl))
  f266 := Tryd.func99.trans (congrArg some (by kernel_rfl))
  f267 := Tryd.func100.trans (congrArg some (by kernel_rfl))
  f314 := Tryd.func106.trans (congrArg some (by kernel_rfl))
  t3 := Tryd.underlying3
  a3 := Tryd.isAgg3
  z3 := Tryd.sizeOf3
  v3 := Tryd.zeroValue3
  t4 := Tryd.underlying4
  a4 := Tryd.isAgg4
  z4 := Tryd.sizeOf4
  v4 := Tryd.zeroValue4
  t5 := Tryd.underlying5
  a5 := Tryd.isAgg5
  z5 := Tryd.sizeOf5
  v5 := Tryd.zeroValue5
  t9 := Tryd.underlying9
  a9 := Tryd.isAgg9
  z9 := Tryd.sizeOf9
  v9 := Tryd.zeroValue9
  t46 := Tryd.underlying98
  a46 := Tryd.isAgg98
  z46 := Tryd.sizeOf98
  v46 := Tryd.zeroValue98
  t51 := Tryd.underlying126
  a51 := Tryd.isAgg126
  z51 := Tryd.sizeOf126
  v51 := Tryd.zeroValue126
  t146 := Tryd.underlying130
  a146 := Tryd.isAgg130
  z146 := Tryd.sizeOf130
  v146 := Tryd.zeroValue130
  g1 := by kernel_rfl }
open Go.RowKit Go.Lib in
theorem Tryd.strings_Index_one (s : ByteArray) (c : UInt8) (w : World) :
    Calls Tryd.prog 92 #[.string s, .string ⟨#[c]⟩] w fun e w' => e = .returned (.int .i64 (Lib.indexByte s.data.toList c)) ∧ w' = w := Any.strings_Index_one Tryd.lays143 s c w
def Tryd.lays145_ren : Go.Shelf.Ren := ⟨fun | 145 => 32 | 220 => 66 | 219 => 86 | 217 => 85 | 225 => 84 | 224 => 83 | 267 => 100 | 266 => 99 | 314 => 106 | n => n, fun | 9 => 9 | 4 => 4 | 59 => 58 | 3 => 3 | 5 => 5 | 46 => 98 | 146 => 130 | 51 => 126 | n => n, fun | 1 => 1 | n => n⟩
theorem Tryd.lays145 : Go.Proofs.Lays.n145 Tryd.prog Tryd.lays145_ren := {
  mixed := by kernel_rfl
  f145 := Tryd.func32.trans (congrArg some (by kernel_rfl))
  f217 := Tryd.func85.trans (congrArg some (by kernel_rfl))
  f219 := Tryd.func86.trans (congrArg some (by kernel_rfl))
  f220 := Tryd.func66.trans (congrArg some (by kernel_rfl))
  f224 := Tryd.func83.trans (congrArg some (by kernel_rfl))
  f225 := Tryd.func84.trans (congrArg some (by kernel_rfl))
  f266 := Tryd.func99.trans (congrArg some (by kernel_rfl))
  f267 := Tryd.func100.trans (congrArg some (by kernel_rfl))
  f314 := Tryd.func106.trans (congrArg some (by kernel_rfl))
  t3 := Tryd.underlying3
  a3 := Tryd.isAgg3
  z3 := Tryd.sizeOf3
  v3 := Tryd.zeroValue3
  t4 := Tryd.underlying4
  a4 := Tryd.isAgg4
  z4 := Tryd.sizeOf4
  v4 := Tryd.zeroValue4
  t5 := Tryd.underlying5
  a5 := Tryd.isAgg5
  z5 := Tryd.sizeOf5
  v5 := Tryd.zeroValue5
  t9 := Tryd.underlying9
  a9 := Tryd.isAgg9
  z9 := Tryd.sizeOf9
  v9 := Tryd.zeroValue9
  t46 := Tryd.underlying98
  a46 := Tryd.isAgg98
  z46 := Tryd.sizeOf98
  v46 := Tryd.zeroValue98
  t51 := Tryd.underlying126
  a51 := Tryd.isAgg126
  z51 := Tryd.sizeOf126
  v51 := Tryd.zeroValue126
  t59 := Tryd.underlying58
  a59 := Tryd.isAgg58
  z59 := Tryd.sizeOf58
  v59 := Tryd.zeroValue58
  t146 := Tryd.underlying130
  a146 := Tryd.isAgg130
  z146 := Tryd.sizeOf130
  v146 := Tryd.zeroValue130
  g1 := by kernel_rfl }
open Go.RowKit Go.Lib in
theorem Tryd.strings_Cut (s sep : ByteArray) (m : Int) (w : World) (hs : s.size < 4294967281) (hm : w.cell? ⟨1, 0, none⟩ = some (.int .i64 m)) :
    Calls Tryd.prog 32 #[.string s, .string sep] w fun e w' => e = .returned (.tuple #[.string ⟨(Lib.cut s.data.toList sep.data.toList).1.toArray⟩, .string ⟨(Lib.cut s.data.toList sep.data.toList).2.1.toArray⟩, .bool (Lib.cut s.data.toList sep.data.toList).2.2]) ∧ ∃ n, w' = w.drewN n := Any.strings_Cut Tryd.lays145 s sep m w hs hm
def Tryd.laysM143_ren : Go.Shelf.Ren := ⟨fun | 143 => 92 | 219 => 86 | 217 => 85 | 225 => 84 | 224 => 83 | 267 => 100 | 266 => 99 | 314 => 106 | n => n, fun | 9 => 9 | 3 => 3 | 4 => 4 | 5 => 5 | 46 => 98 | 146 => 130 | 51 => 126 | n => n, fun | 1 => 1 | n => n⟩
theorem Tryd.laysM143 : Go.Proofs.LaysM.n143 Tryd.prog Tryd.laysM143_ren := {
  mixed := by kernel_rfl
  f143 := Tryd.func92.trans (congrArg some (by kernel_rfl))
  f217 := Tryd.func85.trans (congrArg some (by kernel_rfl))
  f219 := Tryd.func86.trans (congrArg some (by kernel_rfl))
  f224 := Tryd.func83.trans (congrArg some (by kernel_rfl))
  f225 := Tryd.func84.trans (congrArg some (by kernel_rfl))
  f266 := Tryd.func99.trans (congrArg some (by kernel_rfl))
  f267 := Tryd.func100.trans (congrArg some (by kernel_rfl))
  f314 := Tryd.func106.trans (congrArg some (by kernel_rfl))
  t3 := Tryd.underlying3
  a3 := Tryd.isAgg3
  z3 := Tryd.sizeOf3
  v3 := Tryd.zeroValue3
  t4 := Tryd.underlying4
  a4 := Tryd.isAgg4
  z4 := Tryd.sizeOf4
  v4 := Tryd.zeroValue4
  t5 := Tryd.underlying5
  a5 := Tryd.isAgg5
  z5 := Tryd.sizeOf5
  v5 := Tryd.zeroValue5
  t9 := Tryd.underlying9
  a9 := Tryd.isAgg9
  z9 := Tryd.sizeOf9
  v9 := Tryd.zeroValue9
  t46 := Tryd.underlying98
  a46 := Tryd.isAgg98
  z46 := Tryd.sizeOf98
  v46 := Tryd.zeroValue98
  t51 := Tryd.underlying126
  a51 := Tryd.isAgg126
  z51 := Tryd.sizeOf126
  v51 := Tryd.zeroValue126
  t146 := Tryd.underlying130
  a146 := Tryd.isAgg130
  z146 := Tryd.sizeOf130
  v146 := Tryd.zeroValue130
  g1 := by kernel_rfl
  i3 := by kernel_rfl
  i4 := by kernel_rfl
  i5 := by kernel_rfl
  i9 := by kernel_rfl
  i46 := by kernel_rfl
  i51 := by kernel_rfl
  i146 := by kernel_rfl
  m1 := by kernel_rfl
  s1_3 := fun w h => Go.Proofs.cell_of_shapedOpen_int (zero := #[.int .i64 0]) (t := 3) h (of_decide_eq_true (by kernel_rfl)) (by kernel_rfl) rfl (by kernel_rfl) (by kernel_rfl) Tryd.underlying3 }
def Tryd.lays99_ren : Go.Shelf.Ren := ⟨fun | 99 => 67 | 206 => 87 | n => n, fun | 9 => 9 | 4 => 4 | 3 => 3 | n => n, fun | n => n⟩
theorem Tryd.lays99 : Go.Proofs.Lays.n99 Tryd.prog Tryd.lays99_ren := {
  mixed := by kernel_rfl
  f99 := Tryd.func67.trans (congrArg some (by kernel_rfl))
  f206 := Tryd.func87.trans (congrArg some (by kernel_rfl))
  t3 := Tryd.underlying3
  a3 := Tryd.isAgg3
  z3 := Tryd.sizeOf3
  v3 := Tryd.zeroValue3
  t4 := Tryd.underlying4
  a4 := Tryd.isAgg4
  z4 := Tryd.sizeOf4
  v4 := Tryd.zeroValue4
  t9 := Tryd.underlying9
  a9 := Tryd.isAgg9
  z9 := Tryd.sizeOf9
  v9 := Tryd.zeroValue9 }
open Go.RowKit Go.Lib in
theorem Tryd.strings_HasPrefix (s p : ByteArray) (w : World) :
    Calls Tryd.prog 67 #[.string s, .string p] w fun e w' => e = .returned (.bool (Lib.hasPrefix s.data.toList p.data.toList)) ∧ w' = w := Any.strings_HasPrefix Tryd.lays99 s p w
def Tryd.lays146_ren : Go.Shelf.Ren := ⟨fun | 146 => 44 | 221 => 71 | 268 => 90 | 138 => 91 | 143 => 92 | 195 => 101 | 197 => 77 | 218 => 102 | 219 => 86 | 260 => 96 | 217 => 85 | 225 => 84 | 224 => 83 | 267 => 100 | 266 => 99 | 314 => 106 | n => n, fun | 9 => 9 | 31 => 38 | 3 => 3 | 4 => 4 | 0 => 0 | 105 => 104 | 21 => 21 | 5 => 5 | 46 => 98 | 119 => 122 | 139 => 125 | 138 => 124 | 146 => 130 | 51 => 126 | n => n, fun | 1 => 1 | 3 => 2 | 4 => 3 | n => n⟩
theorem Tryd.lays146 : Go.Proofs.Lays.n146 Tryd.prog Tryd.lays146_ren := {
  mixed := by kernel_rfl
  f138 := Tryd.func91.trans (congrArg some (by kernel_rfl))
  f143 := Tryd.func92.trans (congrArg some (by kernel_rfl))
  f146 := Tryd.func44.trans (congrArg some (by kernel_rfl))
  f195 := Tryd.func101.trans (congrArg some (by kernel_rfl))
  f197 := Tryd.func77.trans (congrArg some (by kernel_rfl))
  f217 := Tryd.func85.trans (congrArg some (by kernel_rfl))
  f218 := Tryd.func102.trans (congrArg some (by kernel_rfl))
  f219 := Tryd.func86.trans (congrArg some (by kernel_rfl))
  f221 := Tryd.func71.trans (congrArg some (by kernel_rfl))
  f224 := Tryd.func83.trans (congrArg some (by kernel_rfl))
  f225 := Tryd.func84.trans (congrArg some (by kernel_rfl))
  f260 := Tryd.func96.trans (congrArg some (by kernel_rfl))
  f266 := Tryd.func99.trans (congrArg some (by kernel_rfl))
  f267 := Tryd.func100.trans (congrArg some (by kernel_rfl))
  f268 := Tryd.func90.trans (congrArg some (by kernel_rfl))
  f314 := Tryd.func106.trans (congrArg some (by kernel_rfl))
  t0 := Tryd.underlying0
  a0 := Tryd.isAgg0
  z0 := Tryd.sizeOf0
  v0 := Tryd.zeroValue0
  t3 := Tryd.underlying3
  a3 := Tryd.isAgg3
  z3 := Tryd.sizeOf3
  v3 := Tryd.zeroValue3
  t4 := Tryd.underlying4
  a4 := Tryd.isAgg4
  z4 := Tryd.sizeOf4
  v4 := Tryd.zeroValue4
  t5 := Tryd.underlying5
  a5 := Tryd.isAgg5
  z5 := Tryd.sizeOf5
  v5 := Tryd.zeroValue5
  t9 := Tryd.underlying9
  a9 := Tryd.isAgg9
  z9 := Tryd.sizeOf9
  v9 := Tryd.zeroValue9
  t21 := Tryd.underlying21
  a21 := Tryd.isAgg21
  z21 := Tryd.sizeOf21
  v21 := Tryd.zeroValue21
  t31 := Tryd.underlying38
  a31 := Tryd.isAgg38
  z31 := Tryd.sizeOf38
  v31 := Tryd.zeroValue38
  t46 := Tryd.underlying98
  a46 := Tryd.isAgg98
  z46 := Tryd.sizeOf98
  v46 := Tryd.zeroValue98
  t51 := Tryd.underlying126
  a51 := Tryd.isAgg126
  z51 := Tryd.sizeOf126
  v51 := Tryd.zeroValue126
  t105 := Tryd.underlying104
  a105 := Tryd.isAgg104
  z105 := Tryd.sizeOf104
  v105 := Tryd.zeroValue104
  t119 := Tryd.underlying122
  a119 := Tryd.isAgg122
  z119 := Tryd.sizeOf122
  t138 := Tryd.underlying124
  a138 := Tryd.isAgg124
  z138 := Tryd.sizeOf124
  v138 := Tryd.zeroValue124
  t139 := Tryd.underlying125
  a139 := Tryd.isAgg125
  z139 := Tryd.sizeOf125
  v139 := Tryd.zeroValue125
  t146 := Tryd.underlying130
  a146 := Tryd.isAgg130
  z146 := Tryd.sizeOf130
  v146 := Tryd.zeroValue130
  g1 := by kernel_rfl
  g3 := by kernel_rfl
  g4 := by kernel_rfl }
open Go.RowKit Go.Lib in
theorem Tryd.strings_Split (s sep : ByteArray) (m : Int) (w : World) (hs : s.size < 4294967281) (hm : w.cell? ⟨1, 0, none⟩ = some (.int .i64 m)) (h1 : 1 ≤ sep.size) :
    Calls Tryd.prog 44 #[.string s, .string sep] w fun e w' =>
      e = .returned (.slice (some ⟨w.heap.size, 0, none⟩) (Lib.countB s sep + 1) (Lib.countB s sep + 1)) ∧ w' = w.alloc (.cells ((Lib.splitB sep 0 (Lib.countB s sep) s).map Value.string).toArray 9) := Any.strings_Split Tryd.lays146 (by kernel_rfl) s sep m w hs hm h1
def Tryd.lays155_ren : Go.Shelf.Ren := ⟨fun | 155 => 52 | 154 => 75 | 138 => 91 | 165 => 56 | 143 => 92 | 166 => 42 | 197 => 77 | 169 => 45 | 195 => 101 | 218 => 102 | 240 => 70 | 241 => 76 | 219 => 86 | 260 => 96 | 276 => 89 | 277 => 95 | 217 => 85 | 225 => 84 | 224 => 83 | 267 => 100 | 266 => 99 | 314 => 106 | n => n, fun | 9 => 9 | 3 => 3 | 4 => 4 | 72 => 66 | 0 => 0 | 76 => 70 | 105 => 104 | 21 => 21 | 5 => 5 | 70 => 63 | 20 => 20 | 37 => 64 | 75 => 25 | 127 => 100 | 164 => 113 | 46 => 98 | 119 => 122 | 139 => 125 | 138 => 124 | 146 => 130 | 51 => 126 | 80 => 74 | n => n, fun | 1 => 1 | 3 => 2 | 4 => 3 | n => n⟩
theorem Tryd.lays155 : Go.Proofs.Lays.n155 Tryd.prog Tryd.lays155_ren := {
  mixed := by kernel_rfl
  f138 := Tryd.func91.trans (congrArg some (by kernel_rfl))
  f143 := Tryd.func92.trans (congrArg some (by kernel_rfl))
  f154 := Tryd.func75.trans (congrArg some (by kernel_rfl))
  f155 := Tryd.func52.trans (congrArg some (by kernel_rfl))
  f165 := Tryd.func56.trans (congrArg some (by kernel_rfl))
  f166 := Tryd.func42.trans (congrArg some (by kernel_rfl))
  f169 := Tryd.func45.trans (congrArg some (by kernel_rfl))
  f195 := Tryd.func101.trans (congrArg some (by kernel_rfl))
  f197 := Tryd.func77.trans (congrArg some (by kernel_rfl))
  f217 := Tryd.func85.trans (congrArg some (by kernel_rfl))
  f218 := Tryd.func102.trans (congrArg some (by kernel_rfl))
  f219 := Tryd.func86.trans (congrArg some (by kernel_rfl))
  f224 := Tryd.func83.trans (congrArg some (by kernel_rfl))
  f225 := Tryd.func84.trans (congrArg some (by kernel_rfl))
  f240 := Tryd.func70.trans (congrArg some (by kernel_rfl))
  f241 := Tryd.func76.trans (congrArg some (by kernel_rfl))
  f260 := Tryd.func96.trans (congrArg some (by kernel_rfl))
  f266 := Tryd.func99.trans (congrArg some (by kernel_rfl))
  f267 := Tryd.func100.trans (congrArg some (by kernel_rfl))
  f276 := Tryd.func89.trans (congrArg some (by kernel_rfl))
  f277 := Tryd.func95.trans (congrArg some (by kernel_rfl))
  f314 := Tryd.func106.trans (congrArg some (by kernel_rfl))
  t0 := Tryd.underlying0
  a0 := Tryd.isAgg0
  z0 := Tryd.sizeOf0
  v0 := Tryd.zeroValue0
  t3 := Tryd.underlying3
  a3 := Tryd.isAgg3
  z3 := Tryd.sizeOf3
  v3 := Tryd.zeroValue3
  t4 := Tryd.underlying4
  a4 := Tryd.isAgg4
  z4 := Tryd.sizeOf4
  v4 := Tryd.zeroValue4
  t5 := Tryd.underlying5
  a5 := Tryd.isAgg5
  z5 := Tryd.sizeOf5
  v5 := Tryd.zeroValue5
  t9 := Tryd.underlying9
  a9 := Tryd.isAgg9
  z9 := Tryd.sizeOf9
  v9 := Tryd.zeroValue9
  t20 := Tryd.underlying20
  a20 := Tryd.isAgg20
  z20 := Tryd.sizeOf20
  v20 := Tryd.zeroValue20
  t21 := Tryd.underlying21
  a21 := Tryd.isAgg21
  z21 := Tryd.sizeOf21
  v21 := Tryd.zeroValue21
  t37 := Tryd.underlying64
  a37 := Tryd.isAgg64
  z37 := Tryd.sizeOf64
  v37 := Tryd.zeroValue64
  t46 := Tryd.underlying98
  a46 := Tryd.isAgg98
  z46 := Tryd.sizeOf98
  v46 := Tryd.zeroValue98
  t51 := Tryd.underlying126
  a51 := Tryd.isAgg126
  z51 := Tryd.sizeOf126
  v51 := Tryd.zeroValue126
  t70 := Tryd.underlying63
  a70 := Tryd.isAgg63
  z70 := Tryd.sizeOf63
  v70 := Tryd.zeroValue63
  t72 := Tryd.underlying66
  a72 := Tryd.isAgg66
  z72 := Tryd.sizeOf66
  v72 := Tryd.zeroValue66
  t75 := Tryd.underlying25
  a75 := Tryd.isAgg25
  z75 := Tryd.sizeOf25
  v75 := Tryd.zeroValue25
  t76 := Tryd.underlying70
  a76 := Tryd.isAgg70
  z76 := Tryd.sizeOf70
  v76 := Tryd.zeroValue70
  t105 := Tryd.underlying104
  a105 := Tryd.isAgg104
  z105 := Tryd.sizeOf104
  v105 := Tryd.zeroValue104
  t119 := Tryd.underlying122
  a119 := Tryd.isAgg122
  z119 := Tryd.sizeOf122
  t127 := Tryd.underlying100
  a127 := Tryd.isAgg100
  z127 := Tryd.sizeOf100
  v127 := Tryd.zeroValue100
  t138 := Tryd.underlying124
  a138 := Tryd.isAgg124
  z138 := Tryd.sizeOf124
  v138 := Tryd.zeroValue124
  t139 := Tryd.underlying125
  a139 := Tryd.isAgg125
  z139 := Tryd.sizeOf125
  v139 := Tryd.zeroValue125
  t146 := Tryd.underlying130
  a146 := Tryd.isAgg130
  z146 := Tryd.sizeOf130
  v146 := Tryd.zeroValue130
  t164 := Tryd.underlying113
  a164 := Tryd.isAgg113
  z164 := Tryd.sizeOf113
  v164 := Tryd.zeroValue113
  g1 := by kernel_rfl
  g3 := by kernel_rfl
  g4 := by kernel_rfl }
theorem Tryd.Builder_Extra_155 : Builder.Extra Tryd.prog Tryd.lays155_ren := {
  sizeBuilder := by kernel_rfl
  liesBuilder := by kernel_rfl
  t5 := Tryd.underlying5
  a5 := Tryd.isAgg5
  z5 := Tryd.sizeOf5
  v5 := Tryd.zeroValue5
  infoByte := by kernel_rfl
  cellsByte := by kernel_rfl
  sizeByte := by kernel_rfl
  neB5 := by decide }
open Go.RowKit Go.Lib in
theorem Tryd.strings_ReplaceAll (s old new : ByteArray) (m : Int) (w : World) (hs : s.size < 4294967281) (hm : w.cell? ⟨1, 0, none⟩ = some (.int .i64 m)) (h1 : 1 ≤ old.size) (hlen : s.size + Lib.countB s old * new.size ≤ 140737488355328) :
    Calls Tryd.prog 52 #[.string s, .string old, .string new] w fun e w' =>
      e = .returned (.string ⟨(Lib.replaceAll s.data.toList old.data.toList new.data.toList).toArray⟩) ∧ Below w.heap.size w w' := Any.strings_ReplaceAll Tryd.lays155 Tryd.Builder_Extra_155 s old new m w hs hm h1 hlen
def Tryd.lays152_ren : Go.Shelf.Ren := ⟨fun | 152 => 59 | 137 => 65 | 119 => 82 | 224 => 83 | 225 => 84 | 217 => 85 | 266 => 99 | n => n, fun | 9 => 9 | 21 => 21 | 3 => 3 | 4 => 4 | 5 => 5 | 0 => 0 | 46 => 98 | n => n, fun | n => n⟩
theorem Tryd.lays152 : Go.Proofs.Lays.n152 Tryd.prog Tryd.lays152_ren := {
  mixed := by kernel_rfl
  f119 := Tryd.func82.trans (congrArg some (by kernel_rfl))
  f137 := Tryd.func65.trans (congrArg some (by kernel_rfl))
  f152 := Tryd.func59.trans (congrArg some (by kernel_rfl))
  f217 := Tryd.func85.trans (congrArg some (by kernel_rfl))
  f224 := Tryd.func83.trans (congrArg some (by kernel_rfl))
  f225 := Tryd.func84.trans (congrArg some (by kernel_rfl))
  f266 := Tryd.func99.trans (congrArg some (by kernel_rfl))
  t0 := Tryd.underlying0
  a0 := Tryd.isAgg0
  z0 := Tryd.sizeOf0
  v0 := Tryd.zeroValue0
  t3 := Tryd.underlying3
  a3 := Tryd.isAgg3
  z3 := Tryd.sizeOf3
  v3 := Tryd.zeroValue3
  t4 := Tryd.underlying4
  a4 := Tryd.isAgg4
  z4 := Tryd.sizeOf4
  v4 := Tryd.zeroValue4
  t5 := Tryd.underlying5
  a5 := Tryd.isAgg5
  z5 := Tryd.sizeOf5
  v5 := Tryd.zeroValue5
  t9 := Tryd.underlying9
  a9 := Tryd.isAgg9
  z9 := Tryd.sizeOf9
  v9 := Tryd.zeroValue9
  t21 := Tryd.underlying21
  a21 := Tryd.isAgg21
  z21 := Tryd.sizeOf21
  v21 := Tryd.zeroValue21
  t46 := Tryd.underlying98
  a46 := Tryd.isAgg98
  z46 := Tryd.sizeOf98
  v46 := Tryd.zeroValue98 }
open Go.RowKit Go.Lib in
theorem Tryd.strings_IndexRune_ascii (s : ByteArray) (r : Int) (w : World) (h0 : 0 ≤ r) (h1 : r < 128) :
    Calls Tryd.prog 59 #[.string s, .int .i32 r] w fun e w' => e = .returned (.int .i64 (Lib.indexByte s.data.toList r.toNat.toUInt8)) ∧ w' = w := Any.strings_IndexRune_ascii Tryd.lays152 s r w h0 h1
def Tryd.lays226_ren : Go.Shelf.Ren := ⟨fun | 226 => 60 | n => n, fun | 3 => 3 | 4 => 4 | n => n, fun | n => n⟩
theorem Tryd.lays226 : Go.Proofs.Lays.n226 Tryd.prog Tryd.lays226_ren := {
  mixed := by kernel_rfl
  f226 := Tryd.func60.trans (congrArg some (by kernel_rfl))
  t3 := Tryd.underlying3
  a3 := Tryd.isAgg3
  z3 := Tryd.sizeOf3
  v3 := Tryd.zeroValue3
  t4 := Tryd.underlying4
  a4 := Tryd.isAgg4
  z4 := Tryd.sizeOf4
  v4 := Tryd.zeroValue4 }
open Go.RowKit Go.Lib in
theorem Tryd.strings_shouldUseASCIISet (n : Int) (w : World) :
    Calls Tryd.prog 60 #[.int .i64 n] w fun e w' => e = .returned (.bool (decide (8 < n))) ∧ w' = w := Any.strings_shouldUseASCIISet Tryd.lays226 n w
def Tryd.lays153_ren : Go.Shelf.Ren := ⟨fun | 153 => 30 | 152 => 59 | 226 => 60 | 227 => 61 | 228 => 62 | 137 => 65 | 119 => 82 | 224 => 83 | 225 => 84 | 217 => 85 | 266 => 99 | n => n, fun | 9 => 9 | 3 => 3 | 4 => 4 | 5 => 5 | 21 => 21 | 117 => 92 | 116 => 91 | 0 => 0 | 46 => 98 | 124 => 112 | n => n, fun | n => n⟩
theorem Tryd.lays153 : Go.Proofs.Lays.n153 Tryd.prog Tryd.lays153_ren := {
  mixed := by kernel_rfl
  f119 := Tryd.func82.trans (congrArg some (by kernel_rfl))
  f137 := Tryd.func65.trans (congrArg some (by kernel_rfl))
  f152 := Tryd.func59.trans (congrArg some (by kernel_rfl))
  f153 := Tryd.func30.trans (congrArg some (by kernel_rfl))
  f217 := Tryd.func85.trans (congrArg some (by kernel_rfl))
  f224 := Tryd.func83.trans (congrArg some (by kernel_rfl))
  f225 := Tryd.func84.trans (congrArg some (by kernel_rfl))
  f226 := Tryd.func60.trans (congrArg some (by kernel_rfl))
  f227 := Tryd.func61.trans (congrArg some (by kernel_rfl))
  f228 := Tryd.func62.trans (congrArg some (by kernel_rfl))
  f266 := Tryd.func99.trans (congrArg some (by kernel_rfl))
  t0 := Tryd.underlying0
  a0 := Tryd.isAgg0
  z0 := Tryd.sizeOf0
  v0 := Tryd.zeroValue0
  t3 := Tryd.underlying3
  a3 := Tryd.isAgg3
  z3 := Tryd.sizeOf3
  v3 := Tryd.zeroValue3
  t4 := Tryd.underlying4
  a4 := Tryd.isAgg4
  z4 := Tryd.sizeOf4
  v4 := Tryd.zeroValue4
  t5 := Tryd.underlying5
  a5 := Tryd.isAgg5
  z5 := Tryd.sizeOf5
  v5 := Tryd.zeroValue5
  t9 := Tryd.underlying9
  a9 := Tryd.isAgg9
  z9 := Tryd.sizeOf9
  v9 := Tryd.zeroValue9
  t21 := Tryd.underlying21
  a21 := Tryd.isAgg21
  z21 := Tryd.sizeOf21
  v21 := Tryd.zeroValue21
  t46 := Tryd.underlying98
  a46 := Tryd.isAgg98
  z46 := Tryd.sizeOf98
  v46 := Tryd.zeroValue98
  t116 := Tryd.underlying91
  a116 := Tryd.isAgg91
  z116 := Tryd.sizeOf91
  t117 := Tryd.underlying92
  a117 := Tryd.isAgg92
  z117 := Tryd.sizeOf92
  v117 := Tryd.zeroValue92
  t124 := Tryd.underlying112
  a124 := Tryd.isAgg112
  z124 := Tryd.sizeOf112
  v124 := Tryd.zeroValue112 }
open Go.RowKit Go.Lib in
theorem Tryd.strings_IndexAny_long (hv116 : ∀ w, (zeroValue 91).run Tryd.prog w = .ok (.agg (Array.replicate 256 (.bool false))) w) (s chars : ByteArray) (w : World) (h2 : 2 ≤ chars.size) (h8 : 8 < s.size) (hs : s.size < 4294967281) (hcs : chars.size < 4294967281) (hascii : ∀ (j : Nat) b, chars.data.toList[j]? = some b → b.toNat < 128) :
    Calls Tryd.prog 30 #[.string s, .string chars] w fun e w' => e = .returned (.int .i64 (Lib.indexAny s.data.toList chars.data.toList)) ∧ w' = ((w.alloc (.cells (Lib.setCells chars.data.toList) 91)).alloc (.cells (Lib.setCells chars.data.toList) 91)) := Any.strings_IndexAny_long Tryd.lays153 hv116 (by kernel_rfl) s chars w h2 h8 hs hcs hascii
open Go.RowKit Go.Lib in
theorem Tryd.strings_IndexAny_laid (s chars : ByteArray) (w : World) (hs : s.size < 4294967281) (hcs : chars.size < 4294967281) (has : ∀ (j : Nat) b, s.data.toList[j]? = some b → b.toNat < 128) (hac : ∀ (j : Nat) b, chars.data.toList[j]? = some b → b.toNat < 128) :
    Calls Tryd.prog 30 #[.string s, .string chars] w fun e w' => e = .returned (.int .i64 (Lib.indexAny s.data.toList chars.data.toList)) ∧ Below w.heap.size w w' := Any.strings_IndexAny_laid Tryd.lays153 (by kernel_rfl) s chars w hs hcs has hac
def Tryd.lays260_ren : Go.Shelf.Ren := ⟨fun | 260 => 96 | n => n, fun | 9 => 9 | 21 => 21 | 3 => 3 | 4 => 4 | 5 => 5 | 119 => 122 | 0 => 0 | 46 => 98 | 139 => 125 | 138 => 124 | n => n, fun | 3 => 2 | 4 => 3 | n => n⟩
theorem Tryd.lays260 : Go.Proofs.Lays.n260 Tryd.prog Tryd.lays260_ren := {
  mixed := by kernel_rfl
  f260 := Tryd.func96.trans (congrArg some (by kernel_rfl))
  t0 := Tryd.underlying0
  a0 := Tryd.isAgg0
  z0 := Tryd.sizeOf0
  v0 := Tryd.zeroValue0
  t3 := Tryd.underlying3
  a3 := Tryd.isAgg3
  z3 := Tryd.sizeOf3
  v3 := Tryd.zeroValue3
  t4 := Tryd.underlying4
  a4 := Tryd.isAgg4
  z4 := Tryd.sizeOf4
  v4 := Tryd.zeroValue4
  t5 := Tryd.underlying5
  a5 := Tryd.isAgg5
  z5 := Tryd.sizeOf5
  v5 := Tryd.zeroValue5
  t9 := Tryd.underlying9
  a9 := Tryd.isAgg9
  z9 := Tryd.sizeOf9
  v9 := Tryd.zeroValue9
  t21 := Tryd.underlying21
  a21 := Tryd.isAgg21
  z21 := Tryd.sizeOf21
  v21 := Tryd.zeroValue21
  t46 := Tryd.underlying98
  a46 := Tryd.isAgg98
  z46 := Tryd.sizeOf98
  v46 := Tryd.zeroValue98
  t119 := Tryd.underlying122
  a119 := Tryd.isAgg122
  z119 := Tryd.sizeOf122
  t138 := Tryd.underlying124
  a138 := Tryd.isAgg124
  z138 := Tryd.sizeOf124
  v138 := Tryd.zeroValue124
  t139 := Tryd.underlying125
  a139 := Tryd.isAgg125
  z139 := Tryd.sizeOf125
  v139 := Tryd.zeroValue125
  g3 := by kernel_rfl
  g4 := by kernel_rfl }
def Tryd.lays262_ren : Go.Shelf.Ren := ⟨fun | 262 => 81 | 313 => 98 | 274 => 104 | 275 => 105 | n => n, fun | 3 => 3 | 21 => 21 | 162 => 120 | 203 => 118 | 4 => 4 | 160 => 127 | 46 => 98 | 0 => 0 | 208 => 135 | 51 => 126 | 206 => 133 | n => n, fun | 13 => 0 | n => n⟩
theorem Tryd.lays262 : Go.Proofs.Lays.n262 Tryd.prog Tryd.lays262_ren := {
  mixed := by kernel_rfl
  f262 := Tryd.func81.trans (congrArg some (by kernel_rfl))
  f274 := Tryd.func104.trans (congrArg some (by kernel_rfl))
  f275 := Tryd.func105.trans (congrArg some (by kernel_rfl))
  f313 := Tryd.func98.trans (congrArg some (by kernel_rfl))
  t0 := Tryd.underlying0
  a0 := Tryd.isAgg0
  z0 := Tryd.sizeOf0
  v0 := Tryd.zeroValue0
  t3 := Tryd.underlying3
  a3 := Tryd.isAgg3
  z3 := Tryd.sizeOf3
  v3 := Tryd.zeroValue3
  t4 := Tryd.underlying4
  a4 := Tryd.isAgg4
  z4 := Tryd.sizeOf4
  v4 := Tryd.zeroValue4
  t21 := Tryd.underlying21
  a21 := Tryd.isAgg21
  z21 := Tryd.sizeOf21
  v21 := Tryd.zeroValue21
  t46 := Tryd.underlying98
  a46 := Tryd.isAgg98
  z46 := Tryd.sizeOf98
  v46 := Tryd.zeroValue98
  t51 := Tryd.underlying126
  a51 := Tryd.isAgg126
  z51 := Tryd.sizeOf126
  v51 := Tryd.zeroValue126
  t160 := Tryd.underlying127
  a160 := Tryd.isAgg127
  z160 := Tryd.sizeOf127
  v160 := Tryd.zeroValue127
  t162 := Tryd.underlying120
  a162 := Tryd.isAgg120
  z162 := Tryd.sizeOf120
  v162 := Tryd.zeroValue120
  t203 := Tryd.underlying118
  a203 := Tryd.isAgg118
  z203 := Tryd.sizeOf118
  v203 := Tryd.zeroValue118
  t206 := Tryd.underlying133
  a206 := Tryd.isAgg133
  z206 := Tryd.sizeOf133
  v206 := Tryd.zeroValue133
  t208 := Tryd.underlying135
  a208 := Tryd.isAgg135
  z208 := Tryd.sizeOf135
  v208 := Tryd.zeroValue135
  g13 := by kernel_rfl }
def Tryd.lays230_ren : Go.Shelf.Ren := ⟨fun | 230 => 57 | 197 => 77 | 118 => 78 | 165 => 56 | 166 => 42 | 168 => 79 | 270 => 80 | 167 => 40 | 169 => 45 | 260 => 96 | 240 => 70 | 241 => 76 | 242 => 97 | 276 => 89 | 277 => 95 | 278 => 103 | n => n, fun | 107 => 87 | 9 => 9 | 72 => 66 | 0 => 0 | 4 => 4 | 3 => 3 | 21 => 21 | 105 => 104 | 76 => 70 | 5 => 5 | 75 => 25 | 70 => 63 | 20 => 20 | 37 => 64 | 127 => 100 | 119 => 122 | 46 => 98 | 139 => 125 | 138 => 124 | 164 => 113 | 51 => 126 | 80 => 74 | n => n, fun | 3 => 2 | 4 => 3 | n => n⟩
theorem Tryd.lays230 : Go.Proofs.Lays.n230 Tryd.prog Tryd.lays230_ren := {
  mixed := by kernel_rfl
  f118 := Tryd.func78.trans (congrArg some (by kernel_rfl))
  f165 := Tryd.func56.trans (congrArg some (by kernel_rfl))
  f166 := Tryd.func42.trans (congrArg some (by kernel_rfl))
  f167 := Tryd.func40.trans (congrArg some (by kernel_rfl))
  f168 := Tryd.func79.trans (congrArg some (by kernel_rfl))
  f169 := Tryd.func45.trans (congrArg some (by kernel_rfl))
  f197 := Tryd.func77.trans (congrArg some (by kernel_rfl))
  f230 := Tryd.func57.trans (congrArg some (by kernel_rfl))
  f240 := Tryd.func70.trans (congrArg some (by kernel_rfl))
  f241 := Tryd.func76.trans (congrArg some (by kernel_rfl))
  f242 := Tryd.func97.trans (congrArg some (by kernel_rfl))
  f260 := Tryd.func96.trans (congrArg some (by kernel_rfl))
  f270 := Tryd.func80.trans (congrArg some (by kernel_rfl))
  f276 := Tryd.func89.trans (congrArg some (by kernel_rfl))
  f277 := Tryd.func95.trans (congrArg some (by kernel_rfl))
  f278 := Tryd.func103.trans (congrArg some (by kernel_rfl))
  t0 := Tryd.underlying0
  a0 := Tryd.isAgg0
  z0 := Tryd.sizeOf0
  v0 := Tryd.zeroValue0
  t3 := Tryd.underlying3
  a3 := Tryd.isAgg3
  z3 := Tryd.sizeOf3
  v3 := Tryd.zeroValue3
  t4 := Tryd.underlying4
  a4 := Tryd.isAgg4
  z4 := Tryd.sizeOf4
  v4 := Tryd.zeroValue4
  t5 := Tryd.underlying5
  a5 := Tryd.isAgg5
  z5 := Tryd.sizeOf5
  v5 := Tryd.zeroValue5
  t9 := Tryd.underlying9
  a9 := Tryd.isAgg9
  z9 := Tryd.sizeOf9
  v9 := Tryd.zeroValue9
  t20 := Tryd.underlying20
  a20 := Tryd.isAgg20
  z20 := Tryd.sizeOf20
  v20 := Tryd.zeroValue20
  t21 := Tryd.underlying21
  a21 := Tryd.isAgg21
  z21 := Tryd.sizeOf21
  v21 := Tryd.zeroValue21
  t37 := Tryd.underlying64
  a37 := Tryd.isAgg64
  z37 := Tryd.sizeOf64
  v37 := Tryd.zeroValue64
  t46 := Tryd.underlying98
  a46 := Tryd.isAgg98
  z46 := Tryd.sizeOf98
  v46 := Tryd.zeroValue98
  t51 := Tryd.underlying126
  a51 := Tryd.isAgg126
  z51 := Tryd.sizeOf126
  v51 := Tryd.zeroValue126
  t70 := Tryd.underlying63
  a70 := Tryd.isAgg63
  z70 := Tryd.sizeOf63
  v70 := Tryd.zeroValue63
  t72 := Tryd.underlying66
  a72 := Tryd.isAgg66
  z72 := Tryd.sizeOf66
  v72 := Tryd.zeroValue66
  t75 := Tryd.underlying25
  a75 := Tryd.isAgg25
  z75 := Tryd.sizeOf25
  v75 := Tryd.zeroValue25
  t76 := Tryd.underlying70
  a76 := Tryd.isAgg70
  z76 := Tryd.sizeOf70
  v76 := Tryd.zeroValue70
  t105 := Tryd.underlying104
  a105 := Tryd.isAgg104
  z105 := Tryd.sizeOf104
  v105 := Tryd.zeroValue104
  t107 := Tryd.underlying87
  a107 := Tryd.isAgg87
  z107 := Tryd.sizeOf87
  v107 := Tryd.zeroValue87
  t119 := Tryd.underlying122
  a119 := Tryd.isAgg122
  z119 := Tryd.sizeOf122
  t127 := Tryd.underlying100
  a127 := Tryd.isAgg100
  z127 := Tryd.sizeOf100
  v127 := Tryd.zeroValue100
  t138 := Tryd.underlying124
  a138 := Tryd.isAgg124
  z138 := Tryd.sizeOf124
  v138 := Tryd.zeroValue124
  t139 := Tryd.underlying125
  a139 := Tryd.isAgg125
  z139 := Tryd.sizeOf125
  v139 := Tryd.zeroValue125
  t164 := Tryd.underlying113
  a164 := Tryd.isAgg113
  z164 := Tryd.sizeOf113
  v164 := Tryd.zeroValue113
  g3 := by kernel_rfl
  g4 := by kernel_rfl }
theorem Tryd.Builder_Extra_230 : Builder.Extra Tryd.prog Tryd.lays230_ren := {
  sizeBuilder := by kernel_rfl
  liesBuilder := by kernel_rfl
  t5 := Tryd.underlying5
  a5 := Tryd.isAgg5
  z5 := Tryd.sizeOf5
  v5 := Tryd.zeroValue5
  infoByte := by kernel_rfl
  cellsByte := by kernel_rfl
  sizeByte := by kernel_rfl
  neB5 := by decide }
open Go.RowKit Go.Lib in
theorem Tryd.strings_ToLower_any (s : ByteArray) (w : World) (hs : s.size < 35184372088832) (hV : CaseVar 0 caseA w) (hT : Lib.Utf8Tabs 2 3 w) :
    Calls Tryd.prog 29 #[.string s] w fun e w' => e = .returned (.string ⟨(Lib.toLowerD s.data.toList).toArray⟩) ∧ Below w.heap.size w w' := Any.strings_ToLower_any Tryd.lays159 Tryd.Builder_Extra_159 s w hs hV hT
open Go.RowKit Go.Lib in
theorem Tryd.Builder_WriteByte_k (B b : Nat) (bs : List Value) (c : Int) (w : World) (h : Lib.IsBuilderF 66 5 B b bs w) (hlen : bs.length + 1 ≤ 140737488355328) (hBw : B ≤ w.heap.size) :
    Calls Tryd.prog 40 #[.pointer (some ⟨b, 0, none⟩), .int .u8 c] w fun e w' => e = .returned .nilIface ∧ (Lib.BuilderAtF 66 5 B b (.pointer (some ⟨b, 0, none⟩)) (bs ++ [.int .u8 c]) w' ∧ Below B w w' ∧ Lib.OthersKept 5 (some b) w w') := Any.Builder_WriteByte_k { Tryd.lays230 with } Tryd.Builder_Extra_230 B b bs c w h hlen hBw
open Go.RowKit Go.Lib in
theorem Tryd.Builder_WriteString_k (B b : Nat) (bs : List Value) (s : ByteArray) (w : World) (h : Lib.IsBuilderF 66 5 B b bs w) (hlen : bs.length + s.size ≤ 140737488355328) (hBw : B ≤ w.heap.size) :
    Calls Tryd.prog 42 #[.pointer (some ⟨b, 0, none⟩), .string s] w fun e w' => e = .returned (.tuple #[.int .i64 s.size, .nilIface]) ∧ (Lib.BuilderAtF 66 5 B b (.pointer (some ⟨b, 0, none⟩)) (bs ++ Lib.strCells s) w' ∧ Below B w w' ∧ Lib.OthersKept 5 (some b) w w') := Any.Builder_WriteString_k { Tryd.lays230 with } Tryd.Builder_Extra_230 B b bs s w h hlen hBw
end Go.Proofs
end
/- What a request target means, on lists of bytes: the plain words in which both the program's and the reference's functions of layer 8 are told. No program stands in this text. -/
section
namespace Go.Proofs.YthobmfnmenbkeaaDoor.Tg

/-- a property of every byte is asked of all 256 -/
theorem all_bytes (P : UInt8 → Prop) (h : ∀ n : Fin 256, P (UInt8.ofNat n.val)) (c : UInt8) : P c := by
  have := h ⟨c.toNat, c.toNat_lt⟩
  simpa using this

/-- a byte is one of a text's -/
def has (c : UInt8) (l : List UInt8) : Bool := l.contains c
def isLet (c : UInt8) : Bool := (65 ≤ c && c ≤ 90) || (97 ≤ c && c ≤ 122)
def isDig (c : UInt8) : Bool := 48 ≤ c && c ≤ 57
def unres (c : UInt8) : Bool := isLet c || isDig c || (c == 45 || c == 46 || c == 95 || c == 126)
def isSub (c : UInt8) : Bool := c == 33 || c == 36 || c == 38 || c == 39 || c == 40 || c == 41 || c == 42 || c == 43 || c == 44 || c == 59 || c == 61 || c == 58 || c == 64
def pathB (c : UInt8) : Bool := unres c || isSub c
def hostB (c : UInt8) : Bool := isLet c || isDig c || (c == 45 || c == 46 || c == 95 || c == 58)
def hexv (c : UInt8) : Option UInt8 := if isDig c then some (c - 48) else if 97 ≤ c && c ≤ 102 then some (c - 87) else if 65 ≤ c && c ≤ 70 then some (c - 55) else none
def up (n : UInt8) : UInt8 := if n < 10 then 48 + n else 55 + n
def coded (v : UInt8) : List UInt8 := [37, up (v / 16), up (v % 16)]

/-- the byte that two digits stand for -/
def hex2 (x y : UInt8) : Option UInt8 := match hexv x, hexv y with | some a, some b => some (a * 16 + b) | _, _ => none
/-- the byte of a code at the head of a text -/
def code : List UInt8 → Option UInt8
  | p :: x :: y :: _ => if p = 37 then hex2 x y else none
  | _ => none

/-- what the program answers beside: with no code, whatever the digits give -/
def rawCode : List UInt8 → UInt8
  | p :: x :: y :: _ => if p = 37 then ((hexv x).getD 0) <<< 4 ||| (hexv y).getD 0 else 0
  | _ => 0

def soft (on : Bool) (v : UInt8) : Bool := on && (v < 32 || v == 127)
def made (oth : UInt8 → Bool) (on : Bool) : List UInt8 → Bool
  | [] => true
  | c :: r => if c = 37 then (match r with | x :: y :: r' => (match hex2 x y with | some v => !soft on v && made oth on r' | none => false) | _ => false) else (pathB c || oth c) && made oth on r

def slash (c : UInt8) : Bool := c == 47
def qmark (c : UInt8) : Bool := c == 47 || c == 63
def isPath : List UInt8 → Bool
  | [] => false
  | c :: r => c == 47 && made slash true (c :: r)
def isQuery (l : List UInt8) : Bool := made qmark false l

def meant : List UInt8 → List UInt8
  | [] => []
  | [c] => [c]
  | [c, x] => [c, x]
  | c :: x :: y :: r => (match code [c, x, y] with | some v => (if unres v then [v] else coded v) ++ meant r | none => c :: meant (x :: y :: r))

def decoded : List UInt8 → Option (List UInt8)
  | [] => some []
  | c :: r => if c = 37 then (match r with | x :: y :: r' => (match hex2 x y with | some v => (decoded r').map (v :: ·) | none => none) | _ => none) else (decoded r).map (c :: ·)
def encode (l : List UInt8) : List UInt8 := l.flatMap fun c => if unres c then [c] else coded c

/-- a text cut at each byte c -/
def cuts (c : UInt8) : List UInt8 → List (List UInt8)
  | [] => [[]]
  | x :: r => if x = c then [] :: cuts c r else match cuts c r with | h :: t => (x :: h) :: t | [] => [[x]]

/-- dot segments taken out, one by one -/
def dots : List (List UInt8) → List (List UInt8) → Option (List (List UInt8))
  | out, [] => some out
  | out, s :: t =>
    if s = [46, 46] then (if out = [] then none else if t = [] then some (out.dropLast ++ [[]]) else dots out.dropLast t)
    else if s = [46] then (if t = [] then some (out ++ [[]]) else dots out t)
    else dots (out ++ [s]) t
def glue (l : List (List UInt8)) : List UInt8 := l.flatMap (47 :: ·)
def segs (path : List UInt8) : Option (List (List UInt8)) := if isPath path then dots [] (cuts 47 (meant path).tail) else none
def normal (path : List UInt8) : Option (List UInt8) := (segs path).map glue

end Go.Proofs.YthobmfnmenbkeaaDoor.Tg
end
/- Plain laws of layer 8's words: a path as it is meant is meant again; dot segments laid in change nothing; codes are decoded to what was coded. No program stands in this text. -/
section
namespace Go.Proofs.YthobmfnmenbkeaaDoor.Tg

/-! ### cuts and glue -/
theorem cuts_ne (c : UInt8) (l : List UInt8) : cuts c l ≠ [] := by
  cases l with
  | nil => simp [cuts]
  | cons x r =>
    unfold cuts
    split
    · simp
    · split <;> simp

theorem cuts_cons_eq (c : UInt8) (r : List UInt8) : cuts c (c :: r) = [] :: cuts c r := by simp [cuts]
theorem cuts_cons_ne {c x : UInt8} (h : x ≠ c) {r hd : List UInt8} {tl : List (List UInt8)} (e : cuts c r = hd :: tl) : cuts c (x :: r) = (x :: hd) :: tl := by
  simp [cuts, h, e]
theorem cuts_form (c : UInt8) (l : List UInt8) : ∃ hd tl, cuts c l = hd :: tl := by
  cases h : cuts c l with
  | nil => exact absurd h (cuts_ne c l)
  | cons a b => exact ⟨a, b, rfl⟩

theorem cuts_append (c : UInt8) : ∀ a b : List UInt8, cuts c (a ++ c :: b) = cuts c a ++ cuts c b
  | [], b => by simp [cuts]
  | x :: a, b => by
    have ih := cuts_append c a b
    by_cases h : x = c
    · subst h; simp only [List.cons_append, cuts_cons_eq, ih]
    · obtain ⟨hd, tl, e⟩ := cuts_form c a
      rw [e] at ih
      rw [List.cons_append, cuts_cons_ne h (hd := hd) (tl := tl ++ cuts c b) (by rw [ih]; rfl), cuts_cons_ne h e]; rfl

theorem cuts_plain (c : UInt8) : ∀ l : List UInt8, c ∉ l → cuts c l = [l]
  | [], _ => rfl
  | x :: r, h => by
    have hx : x ≠ c := fun e => h (by simp [e])
    exact cuts_cons_ne hx (cuts_plain c r fun m => h (by simp [m]))

theorem cuts_mem (c : UInt8) : ∀ (l s : List UInt8), s ∈ cuts c l → c ∉ s
  | [], s, h => by simp [cuts] at h; subst h; simp
  | x :: r, s, h => by
    by_cases hx : x = c
    · subst hx; rw [cuts_cons_eq] at h
      rcases List.mem_cons.1 h with rfl | h
      · simp
      · exact cuts_mem x r s h
    · obtain ⟨hd, tl, e⟩ := cuts_form c r
      rw [cuts_cons_ne hx e] at h
      rcases List.mem_cons.1 h with rfl | h
      · have := cuts_mem c r hd (by rw [e]; simp)
        simp only [List.mem_cons, not_or]; exact ⟨fun e => hx e.symm, this⟩
      · exact cuts_mem c r s (by rw [e]; simp [h])

theorem glue_nil : glue [] = [] := rfl
theorem glue_cons (a : List UInt8) (l : List (List UInt8)) : glue (a :: l) = 47 :: (a ++ glue l) := by simp [glue]
theorem glue_append (a b : List (List UInt8)) : glue (a ++ b) = glue a ++ glue b := by simp [glue]

theorem glue_cuts : ∀ l : List UInt8, glue (cuts 47 l) = 47 :: l
  | [] => by simp [cuts, glue]
  | x :: r => by
    have ih := glue_cuts r
    by_cases h : x = 47
    · subst h; rw [cuts_cons_eq, glue_cons, ih]; rfl
    · obtain ⟨hd, tl, e⟩ := cuts_form 47 r
      rw [e, glue_cons] at ih
      rw [cuts_cons_ne h e, glue_cons]
      simp only [List.cons.injEq, true_and] at ih
      simp [ih]

theorem cuts_glue : ∀ l : List (List UInt8), l ≠ [] → (∀ s ∈ l, 47 ∉ s) → cuts 47 (glue l).tail = l
  | [], h, _ => absurd rfl h
  | [a], _, h => by rw [glue_cons, glue_nil, List.append_nil, List.tail_cons, cuts_plain 47 a (h a (by simp))]
  | a :: b :: l, _, h => by
    have ih := cuts_glue (b :: l) (by simp) (fun s hs => h s (by simp at hs ⊢; exact .inr hs))
    rw [glue_cons, List.tail_cons]
    rw [glue_cons] at ih ⊢
    rw [List.tail_cons] at ih
    rw [cuts_append, cuts_plain 47 a (h a (by simp)), ih]; rfl

/-! ### dot segments -/
def noDot (s : List UInt8) : Prop := s ≠ [46] ∧ s ≠ [46, 46]

theorem dots_nil (out : List (List UInt8)) : dots out [] = some out := by simp [dots]
theorem dots_plain {s : List UInt8} (h : noDot s) (out t : List (List UInt8)) : dots out (s :: t) = dots (out ++ [s]) t := by
  rw [dots, if_neg h.2, if_neg h.1]
theorem dots_one (out : List (List UInt8)) {t : List (List UInt8)} (h : t ≠ []) : dots out ([46] :: t) = dots out t := by
  rw [dots]; simp [h]
theorem dots_two (out : List (List UInt8)) (x : List UInt8) {t : List (List UInt8)} (h : t ≠ []) : dots (out ++ [x]) ([46, 46] :: t) = dots out t := by
  rw [dots]; simp [h]
theorem dots_all : ∀ (l out : List (List UInt8)), (∀ s ∈ l, noDot s) → ∀ t, dots out (l ++ t) = dots (out ++ l) t
  | [], out, _, t => by simp
  | s :: l, out, h, t => by
    rw [List.cons_append, dots_plain (h s (by simp)), dots_all l (out ++ [s]) (fun x hx => h x (by simp [hx])) t]; simp
theorem dots_same (l : List (List UInt8)) (h : ∀ s ∈ l, noDot s) : dots [] l = some l := by
  have := dots_all l [] h []
  rw [List.append_nil, dots_nil] at this
  simpa using this

theorem dots_keeps (Q : List UInt8 → Prop) (hQ : Q []) : ∀ (l out o : List (List UInt8)), (∀ s ∈ out, noDot s ∧ Q s) → (∀ s ∈ l, Q s) → dots out l = some o → ∀ s ∈ o, noDot s ∧ Q s := by
  intro l
  induction l with
  | nil => intro out o h _ e; rw [dots_nil] at e; cases e; exact h
  | cons s t ih =>
    intro out o h hl e
    have ht : ∀ x ∈ t, Q x := fun x hx => hl x (by simp [hx])
    have hd : ∀ x ∈ out.dropLast, noDot x ∧ Q x := fun x hx => h x ((List.dropLast_sublist _).subset hx)
    have he : noDot ([] : List UInt8) := ⟨by simp, by simp⟩
    unfold dots at e
    split at e
    · split at e
      · cases e
      · split at e
        · cases e
          intro x hx
          rcases List.mem_append.1 hx with hx | hx
          · exact hd x hx
          · simp at hx; subst hx; exact ⟨he, hQ⟩
        · exact ih _ o hd ht e
    · split at e
      · split at e
        · cases e
          intro x hx
          rcases List.mem_append.1 hx with hx | hx
          · exact h x hx
          · simp at hx; subst hx; exact ⟨he, hQ⟩
        · exact ih _ o h ht e
      · rename_i h2 h1
        refine ih _ o ?_ ht e
        intro x hx
        rcases List.mem_append.1 hx with hx | hx
        · exact h x hx
        · simp at hx; subst hx; exact ⟨⟨h1, h2⟩, hl _ (by simp)⟩

theorem dots_ne : ∀ (l out o : List (List UInt8)), (l ≠ [] ∨ out ≠ []) → dots out l = some o → o ≠ [] := by
  intro l
  induction l with
  | nil => intro out o h e; rw [dots_nil] at e; cases e; simpa using h
  | cons s t ih =>
    intro out o _ e
    unfold dots at e
    split at e
    · split at e
      · cases e
      · split at e
        · cases e; simp
        · rename_i ht; exact ih _ o (.inl ht) e
    · split at e
      · split at e
        · cases e; simp
        · rename_i ht; exact ih _ o (.inl ht) e
      · exact ih _ o (.inr (by simp)) e

/-! ### bytes -/
theorem hexv_coded : ∀ v : UInt8, hex2 (up (v / 16)) (up (v % 16)) = some v := all_bytes _ (by decide +kernel)
theorem up_lo : ∀ v : UInt8, up (v / 16) < 97 ∧ up (v % 16) < 97 := all_bytes _ (by decide +kernel)
theorem hexv_not : ∀ x : UInt8, hexv x ≠ none → x ≠ 47 ∧ x ≠ 37 := all_bytes _ (by decide +kernel)
theorem pathB_not : ∀ x : UInt8, (pathB x || slash x) = true → x ≠ 37 := all_bytes _ (by decide +kernel)
theorem hex2_some {x y v : UInt8} (h : hex2 x y = some v) : hexv x ≠ none ∧ hexv y ≠ none := by
  unfold hex2 at h
  split at h
  · rename_i a b ha hb; exact ⟨by simp [ha], by simp [hb]⟩
  · cases h
theorem unres_not : ∀ x : UInt8, unres x = true → x ≠ 37 ∧ pathB x = true := all_bytes _ (by decide +kernel)

theorem hexv_lt : ∀ x : UInt8, ((hexv x).getD 0) < 16 := all_bytes _ (by decide +kernel)
theorem hexv_lt' {x v : UInt8} (h : hexv x = some v) : v < 16 := by have := hexv_lt x; rw [h] at this; exact this
theorem shl_or : ∀ a b : UInt8, a < 16 → b < 16 → a <<< 4 ||| b = a * 16 + b := by
  intro a b ha hb
  obtain ⟨m, hm⟩ : ∃ m : Fin 16, a = UInt8.ofNat m.val := ⟨⟨a.toNat, by simpa [UInt8.lt_iff_toNat_lt] using ha⟩, by simp⟩
  obtain ⟨n, hn⟩ : ∃ n : Fin 16, b = UInt8.ofNat n.val := ⟨⟨b.toNat, by simpa [UInt8.lt_iff_toNat_lt] using hb⟩, by simp⟩
  subst hm hn
  revert m n
  decide +kernel
theorem code_raw {l : List UInt8} {v : UInt8} (h : code l = some v) : rawCode l = v := by
  unfold code at h
  split at h
  · rename_i p x y _
    split at h
    · rename_i hp
      show (if p = 37 then ((hexv x).getD 0) <<< 4 ||| (hexv y).getD 0 else 0) = v
      rw [if_pos hp]
      unfold hex2 at h
      split at h
      · rename_i a b ha hb
        cases h
        rw [ha, hb]
        exact shl_or a b (hexv_lt' ha) (hexv_lt' hb)
      · cases h
    · cases h
  · cases h
theorem code_cons (p x y : UInt8) (r : List UInt8) : code (p :: x :: y :: r) = if p = 37 then hex2 x y else none := rfl
theorem code_short {l : List UInt8} (h : l.length < 3) : code l = none ∧ rawCode l = 0 := by
  match l with
  | [] => exact ⟨rfl, rfl⟩
  | [_] => exact ⟨rfl, rfl⟩
  | [_, _] => exact ⟨rfl, rfl⟩
  | _ :: _ :: _ :: _ => simp at h; omega
theorem code_not {p : UInt8} (h : p ≠ 37) (r : List UInt8) : code (p :: r) = none ∧ rawCode (p :: r) = 0 := by
  match r with
  | [] => exact ⟨rfl, rfl⟩
  | [_] => exact ⟨rfl, rfl⟩
  | x :: y :: r => exact ⟨by rw [code_cons, if_neg h], by show (if p = 37 then ((hexv x).getD 0) <<< 4 ||| (hexv y).getD 0 else 0) = 0; rw [if_neg h]⟩

/-! ### made, meant -/
theorem made_nil (oth : UInt8 → Bool) (on : Bool) : made oth on [] = true := by simp [made]
theorem made_code (oth : UInt8 → Bool) (on : Bool) (x y : UInt8) (r : List UInt8) : made oth on (37 :: x :: y :: r) = (match hex2 x y with | some v => !soft on v && made oth on r | none => false) := by rw [Tg.made]; rfl
theorem made_byte (oth : UInt8 → Bool) (on : Bool) {c : UInt8} (h : c ≠ 37) : ∀ r : List UInt8, made oth on (c :: r) = ((pathB c || oth c) && made oth on r)
  | [] => by unfold Tg.made; rw [if_neg h]; rfl
  | [x] => by rw [Tg.made, if_neg h]; intro a b c e; simp at e
  | x :: y :: r => by rw [Tg.made, if_neg h]
theorem meant_nil : meant [] = [] := by simp [meant]
theorem meant_code {x y v : UInt8} (h : hex2 x y = some v) (r : List UInt8) : meant (37 :: x :: y :: r) = (if unres v then [v] else coded v) ++ meant r := by simp [meant, code, h]
theorem meant_byte {c : UInt8} (h : c ≠ 37) (r : List UInt8) : meant (c :: r) = c :: meant r := by
  match r with
  | [] => simp [meant]
  | [x] => simp [meant]
  | x :: y :: r => rw [meant]; simp [code, h]

/-- A text of path bytes, slashes and codes that is meant already. -/
inductive Canon : List UInt8 → Prop where
  | nil : Canon []
  | byte {c : UInt8} {r : List UInt8} (h : (pathB c || slash c) = true) (hr : Canon r) : Canon (c :: r)
  | code {v : UInt8} {r : List UInt8} (h : unres v = false) (hs : soft true v = false) (hr : Canon r) : Canon (37 :: up (v / 16) :: up (v % 16) :: r)

theorem Canon.meant {l : List UInt8} (h : Canon l) : ∀ z, Tg.meant (l ++ z) = l ++ Tg.meant z := by
  induction h with
  | nil => intro z; rfl
  | byte h _ ih => intro z; rw [List.cons_append, meant_byte (pathB_not _ h), ih]; rfl
  | code h _ _ ih => intro z; simp only [List.cons_append]; rw [meant_code (hexv_coded _), ih, h]; rfl
theorem Canon.made {l : List UInt8} (h : Canon l) : ∀ z, Tg.made slash true (l ++ z) = Tg.made slash true z := by
  induction h with
  | nil => intro z; rfl
  | byte h _ ih => intro z; rw [List.cons_append, made_byte _ _ (pathB_not _ h), ih, h]; rfl
  | code h hs _ ih => intro z; simp only [List.cons_append]; rw [made_code, hexv_coded, ih]; simp [hs]
theorem Canon.meant_self {l : List UInt8} (h : Canon l) : Tg.meant l = l := by
  have := h.meant []
  simpa [meant_nil] using this
theorem Canon.made_self {l : List UInt8} (h : Canon l) : Tg.made slash true l = true := by
  have := h.made []
  simpa [made_nil] using this
theorem Canon.append {a b : List UInt8} (h : Canon a) (hb : Canon b) : Canon (a ++ b) := by
  induction h with
  | nil => exact hb
  | byte h _ ih => exact .byte h ih
  | code h hs _ ih => exact .code h hs ih
theorem Canon.slash {l : List UInt8} (h : Canon l) : Canon (47 :: l) := .byte (by decide) h

theorem canon_meant : ∀ (n : Nat) (l : List UInt8), l.length ≤ n → Tg.made slash true l = true → Canon (Tg.meant l) := by
  intro n
  induction n with
  | zero => intro l hl _; obtain rfl : l = [] := List.eq_nil_of_length_eq_zero (by omega); rw [meant_nil]; exact .nil
  | succ n ih =>
    intro l hl h
    match l with
    | [] => rw [meant_nil]; exact .nil
    | c :: r =>
      by_cases hc : c = 37
      · subst hc
        match r with
        | [] => simp [Tg.made] at h
        | [x] => simp [Tg.made] at h
        | x :: y :: r' =>
          rw [made_code] at h
          cases e : hex2 x y with
          | none => rw [e] at h; simp at h
          | some v =>
            rw [e] at h
            simp only [Bool.and_eq_true, Bool.not_eq_true'] at h
            rw [meant_code e]
            have hr := ih r' (by simp at hl; omega) h.2
            cases hu : unres v with
            | true => exact .byte (by simp [(unres_not v hu).2]) hr
            | false => exact .code hu h.1 hr
      · rw [made_byte _ _ hc, Bool.and_eq_true] at h
        rw [meant_byte hc]
        exact .byte h.1 (ih r (by simp at hl; omega) h.2)

theorem canon_cuts {l : List UInt8} (h : Canon l) : ∀ s ∈ cuts 47 l, Canon s := by
  induction h with
  | nil => intro s hs; simp [cuts] at hs; subst hs; exact .nil
  | @byte c r h _ ih =>
    intro s hs
    by_cases hc : c = 47
    · subst hc; rw [cuts_cons_eq] at hs
      rcases List.mem_cons.1 hs with rfl | hs
      · exact .nil
      · exact ih s hs
    · obtain ⟨hd, tl, e⟩ := cuts_form 47 r
      rw [cuts_cons_ne hc e] at hs
      rcases List.mem_cons.1 hs with rfl | hs
      · exact .byte h (ih hd (by rw [e]; simp))
      · exact ih s (by rw [e]; simp [hs])
  | @code v r hu hsf _ ih =>
    intro s hs
    have hx := hex2_some (hexv_coded v)
    obtain ⟨hd, tl, e⟩ := cuts_form 47 r
    rw [cuts_cons_ne (by decide) (cuts_cons_ne (hexv_not _ hx.1).1 (cuts_cons_ne (hexv_not _ hx.2).1 e))] at hs
    rcases List.mem_cons.1 hs with rfl | hs
    · exact .code hu hsf (ih hd (by rw [e]; simp))
    · exact ih s (by rw [e]; simp [hs])
theorem canon_glue (l : List (List UInt8)) (h : ∀ s ∈ l, Canon s) : Canon (glue l) := by
  induction l with
  | nil => exact .nil
  | cons a l ih => rw [glue_cons]; exact ((h a (by simp)).append (ih fun s hs => h s (by simp [hs]))).slash

/-- A canon text cut at a slash. -/
theorem canon_split : ∀ {a b : List UInt8}, Canon (a ++ 47 :: b) → Canon a ∧ Canon b := by
  intro a b h
  generalize hl : a ++ 47 :: b = l at h
  induction h generalizing a with
  | nil => simp at hl
  | @byte c r h hr ih =>
    cases a with
    | nil => simp at hl; obtain ⟨_, rfl⟩ := hl; exact ⟨.nil, hr⟩
    | cons x a =>
      simp at hl
      obtain ⟨rfl, hl⟩ := hl
      obtain ⟨h1, h2⟩ := ih hl
      exact ⟨.byte h h1, h2⟩
  | @code v r hu hs hr ih =>
    have hx := hex2_some (hexv_coded v)
    match a with
    | [] => simp at hl
    | [x] => simp at hl; exact absurd hl.2.1.symm (hexv_not _ hx.1).1
    | [x, y] => simp at hl; exact absurd hl.2.2.1.symm (hexv_not _ hx.2).1
    | x :: y :: z :: a =>
      simp at hl
      obtain ⟨rfl, rfl, rfl, hl⟩ := hl
      obtain ⟨h1, h2⟩ := ih hl
      exact ⟨.code hu hs h1, h2⟩

/-- What stands at each place of a canon text where a code begins. -/
theorem canon_at {l : List UInt8} (h : Canon l) : ∀ i : Nat, l[i]? = some 37 → ∃ v : UInt8, l[i + 1]? = some (up (v / 16)) ∧ l[i + 2]? = some (up (v % 16)) ∧ unres v = false := by
  induction h with
  | nil => intro i hi; simp at hi
  | @byte c r h hr ih =>
    intro i hi
    cases i with
    | zero => simp at hi; exact absurd hi (pathB_not _ h)
    | succ i => simpa using ih i (by simpa using hi)
  | @code v r hu hs hr ih =>
    intro i hi
    have hx := hex2_some (hexv_coded v)
    match i with
    | 0 => exact ⟨v, by simp, by simp, hu⟩
    | 1 => simp at hi; exact absurd hi (hexv_not _ hx.1).2
    | 2 => simp at hi; exact absurd hi (hexv_not _ hx.2).2
    | i + 3 => simpa using ih i (by simpa using hi)

/-! ### the path as it is meant -/
theorem segs_facts {p : List UInt8} {out : List (List UInt8)} (h : segs p = some out) : out ≠ [] ∧ (∀ s ∈ out, noDot s) ∧ (∀ s ∈ out, 47 ∉ s) ∧ Canon (glue out) := by
  unfold segs at h
  split at h
  · rename_i hp
    have hm : made slash true p = true := by
      cases p with
      | nil => simp [isPath] at hp
      | cons c r => simp [isPath] at hp; exact hp.2
    have hc : Canon (meant p) := canon_meant p.length p (Nat.le_refl _) hm
    obtain ⟨t, ht⟩ : ∃ t, meant p = 47 :: t := by
      cases p with
      | nil => simp [isPath] at hp
      | cons c r => simp [isPath] at hp; obtain ⟨rfl, _⟩ := hp; exact ⟨_, meant_byte (by decide) r⟩
    rw [ht] at hc h
    have hct : Canon t := (canon_split (a := []) hc).2
    have k := dots_keeps (fun s => 47 ∉ s ∧ Canon s) ⟨by simp, .nil⟩ _ _ out (by simp) (fun s hs => ⟨cuts_mem 47 _ s hs, canon_cuts hct s hs⟩) h
    exact ⟨dots_ne _ _ _ (.inl (cuts_ne _ _)) h, fun s hs => (k s hs).1, fun s hs => (k s hs).2.1, canon_glue _ fun s hs => (k s hs).2.2⟩
  · cases h

theorem segs_glue {out : List (List UInt8)} (h1 : out ≠ []) (h2 : ∀ s ∈ out, noDot s) (h3 : ∀ s ∈ out, 47 ∉ s) (h4 : Canon (glue out)) : segs (glue out) = some out := by
  have hp : isPath (glue out) = true := by
    cases out with
    | nil => exact absurd rfl h1
    | cons a l =>
      have := h4.made_self
      rw [glue_cons] at this ⊢
      simp [isPath, this]
  unfold segs
  rw [if_pos hp, h4.meant_self, cuts_glue out h1 h3, dots_same out h2]

theorem segs_idem {p : List UInt8} {out : List (List UInt8)} (h : segs p = some out) : segs (glue out) = some out :=
  have f := segs_facts h
  segs_glue f.1 f.2.1 f.2.2.1 f.2.2.2

theorem normal_idem {p s : List UInt8} (h : normal p = some s) : normal s = some s := by
  unfold normal at h ⊢
  cases e : segs p with
  | none => rw [e] at h; cases h
  | some out =>
    rw [e] at h
    simp only [Option.map_some, Option.some.injEq] at h
    subst h
    rw [segs_idem e]; rfl

theorem normal_facts {p s : List UInt8} (h : normal p = some s) : ∃ out, s = glue out ∧ out ≠ [] ∧ (∀ x ∈ out, noDot x) ∧ (∀ x ∈ out, 47 ∉ x) ∧ Canon s := by
  unfold normal at h
  cases e : segs p with
  | none => rw [e] at h; cases h
  | some out =>
    rw [e] at h
    simp only [Option.map_some, Option.some.injEq] at h
    subst h
    have f := segs_facts e
    exact ⟨out, rfl, f.1, f.2.1, f.2.2.1, f.2.2.2⟩

/-- A text laid in ahead of a slash that is itself meant away. -/
theorem normal_laid {p a b m : List UInt8} (h : normal p = some (a ++ 47 :: b)) (hm : made slash true (47 :: m ++ 47 :: b) = true) (ht : meant (47 :: m ++ 47 :: b) = 47 :: meant m ++ 47 :: b)
    (hd : ∀ out t, t ≠ [] → dots out (cuts 47 (meant m) ++ t) = dots out t) : normal (a ++ (47 :: m) ++ 47 :: b) = some (a ++ 47 :: b) := by
  obtain ⟨out, e, h1, h2, h3, h4⟩ := normal_facts h
  obtain ⟨ha, hb⟩ := canon_split h4
  have hs : segs (a ++ 47 :: b) = some out := by rw [e] at h4 ⊢; exact segs_glue h1 h2 h3 h4
  have hout : out = cuts 47 (a ++ 47 :: b).tail := by rw [e, cuts_glue out h1 h3]
  have hpath : isPath (a ++ (47 :: m) ++ 47 :: b) = true := by
    cases a with
    | nil =>
      simp only [List.nil_append] at *
      simp only [List.cons_append] at hm ⊢
      simp [isPath, hm]
    | cons x a =>
      have hx : x = 47 := by
        cases out with
        | nil => exact absurd rfl h1
        | cons o l => rw [glue_cons] at e; simp at e; exact e.1
      subst hx
      have := ha.made (47 :: m ++ 47 :: b)
      rw [hm] at this
      simp only [List.cons_append, List.append_assoc] at this ⊢
      simp [isPath, this]
  have hmean : meant (a ++ (47 :: m) ++ 47 :: b) = a ++ (47 :: meant m ++ 47 :: b) := by
    rw [List.append_assoc, ha.meant, ht]
  have key : dots [] (cuts 47 (meant (a ++ (47 :: m) ++ 47 :: b)).tail) = some out := by
    rw [hmean]
    cases a with
    | nil =>
      simp only [List.nil_append, List.tail_cons, List.cons_append] at hout ⊢
      rw [cuts_append, hd _ _ (cuts_ne _ _), ← hout]
      exact dots_same out h2
    | cons x a =>
      simp only [List.tail_cons, List.cons_append] at hout ⊢
      rw [cuts_append] at hout
      rw [cuts_append, cuts_append]
      have hn1 : ∀ s ∈ cuts 47 a, noDot s := fun s hs => h2 s (by rw [hout]; simp [hs])
      have hn2 : ∀ s ∈ cuts 47 b, noDot s := fun s hs => h2 s (by rw [hout]; simp [hs])
      rw [dots_all _ [] hn1, List.nil_append, hd _ _ (cuts_ne _ _), ← List.append_nil (cuts 47 b), dots_all _ _ hn2, dots_nil, hout]
  unfold normal segs
  rw [if_pos hpath, key, e]; rfl

theorem normal_dot {p a b : List UInt8} (h : normal p = some (a ++ 47 :: b)) : normal (a ++ [47, 46] ++ 47 :: b) = some (a ++ 47 :: b) := by
  obtain ⟨out, e, h1, h2, h3, h4⟩ := normal_facts h
  have hb := (canon_split h4).2
  have hc : Canon (47 :: [46] ++ 47 :: b) := (Canon.byte (by decide) (Canon.slash hb)).slash
  refine normal_laid (m := [46]) h hc.made_self ?_ ?_
  · rw [hc.meant_self]; rfl
  · intro out t ht
    rw [show meant [46] = [46] from by decide, show cuts 47 [46] = [[46]] from by decide]
    exact dots_one out ht

theorem normal_dots {p a b : List UInt8} (h : normal p = some (a ++ 47 :: b)) : normal (a ++ [47, 120, 47, 37, 50, 69, 46] ++ 47 :: b) = some (a ++ 47 :: b) := by
  obtain ⟨out, e, h1, h2, h3, h4⟩ := normal_facts h
  have hb := (canon_split h4).2
  have hc : Canon ([47, 120, 47] : List UInt8) := (Canon.byte (by decide) (Canon.byte (by decide) .nil)).slash
  have hc2 : Canon (46 :: 47 :: b) := Canon.byte (by decide) hb.slash
  have e1 : (47 :: [120, 47, 37, 50, 69, 46] ++ 47 :: b : List UInt8) = [47, 120, 47] ++ (37 :: 50 :: 69 :: 46 :: 47 :: b) := rfl
  refine normal_laid (m := [120, 47, 37, 50, 69, 46]) h ?_ ?_ ?_
  · rw [e1, hc.made, made_code, hc2.made_self, show hex2 50 69 = some 46 from by decide]; rfl
  · rw [e1, hc.meant, meant_code (show hex2 50 69 = some 46 from by decide), hc2.meant_self, show meant [120, 47, 37, 50, 69, 46] = [120, 47, 46, 46] from by decide]; rfl
  · intro out t ht
    rw [show meant [120, 47, 37, 50, 69, 46] = [120, 47, 46, 46] from by decide, show cuts 47 [120, 47, 46, 46] = [[120], [46, 46]] from by decide]
    simp only [List.cons_append, List.nil_append]
    rw [dots_plain ⟨by decide, by decide⟩]
    exact dots_two out [120] ht

/-! ### codes -/
theorem decode_nil : decoded [] = some [] := by simp [decoded]
theorem decode_byte {c : UInt8} (h : c ≠ 37) : ∀ r : List UInt8, decoded (c :: r) = (decoded r).map (c :: ·)
  | [] => by unfold decoded; rw [if_neg h]; rfl
  | [x] => by rw [decoded, if_neg h]; intro a b c e; simp at e
  | x :: y :: r => by rw [decoded, if_neg h]
theorem decode_code {x y v : UInt8} (h : hex2 x y = some v) (r : List UInt8) : decoded (37 :: x :: y :: r) = (decoded r).map (v :: ·) := by rw [decoded, if_pos rfl]; simp only [h]
theorem decode_encode (l : List UInt8) : decoded (encode l) = some l := by
  induction l with
  | nil => exact decode_nil
  | cons c r ih =>
    unfold encode at ih ⊢
    rw [List.flatMap_cons]
    cases hu : unres c with
    | true => simp only [if_true, List.cons_append, List.nil_append]; rw [decode_byte (unres_not c hu).1, ih]; rfl
    | false => rw [if_neg (by simp)]; show decoded (37 :: up (c / 16) :: up (c % 16) :: (List.flatMap (fun c => if unres c = true then [c] else coded c) r)) = _; rw [decode_code (hexv_coded c), ih]; rfl

end Go.Proofs.YthobmfnmenbkeaaDoor.Tg
end
/- The program's and the reference's tests of single bytes, walked: each comes to the plain word of the same name. -/
section
set_option linter.unusedVariables false
set_option linter.unusedSimpArgs false
namespace Go.Proofs.YthobmfnmenbkeaaDoor
open Go.RowKit Tg

theorem ret_bool {a b : Bool} (h : a = b) : Ending.returned (.bool a) = .returned (.bool b) := by rw [h]
theorem ret_int {k : IntKind} {a b : Int} (h : a = b) : Ending.returned (.int k a) = .returned (.int k b) := by rw [h]

theorem ret_pair {k : IntKind} {a b : Int} {x y : Bool} (h : a = b) (g : x = y) : Ending.returned (.tuple #[.int k a, .bool x]) = .returned (.tuple #[.int k b, .bool y]) := by rw [h, g]

theorem let_yes : ∀ c : UInt8, 97 ≤ bits BinOp.or IntKind.u8 (↑c.toNat) 32 → decide (bits BinOp.or IntKind.u8 (↑c.toNat) 32 ≤ 122) = isLet c := all_bytes _ (by decide +kernel)
theorem let_no : ∀ c : UInt8, bits BinOp.or IntKind.u8 (↑c.toNat) 32 < 97 → false = isLet c := all_bytes _ (by decide +kernel)
theorem dig_yes : ∀ c : UInt8, 48 ≤ (c.toNat : Int) → decide ((c.toNat : Int) ≤ 57) = isDig c := all_bytes _ (by decide +kernel)
theorem dig_no : ∀ c : UInt8, (c.toNat : Int) < 48 → false = isDig c := all_bytes _ (by decide +kernel)

theorem letter_calls (c : UInt8) (w : World) : Calls Tryd.prog 63 #[.int .u8 c.toNat] w fun e w' => e = .returned (.bool (isLet c)) ∧ w = w' := by
  go_enter Tryd.func63, Tryd.ntmps63
  go_wp2
  · go_ret; exact ⟨ret_bool (let_yes c ‹_›), rfl⟩
  · go_ret; exact ⟨ret_bool (let_no c ‹_›), rfl⟩
theorem digit_calls (c : UInt8) (w : World) : Calls Tryd.prog 64 #[.int .u8 c.toNat] w fun e w' => e = .returned (.bool (isDig c)) ∧ w = w' := by
  go_enter Tryd.func64, Tryd.ntmps64
  go_wp2
  · go_ret; exact ⟨ret_bool (dig_yes c ‹_›), rfl⟩
  · go_ret; exact ⟨ret_bool (dig_no c ‹_›), rfl⟩

/-- a byte is one of a text's -/
def idx (l : List UInt8) (c : UInt8) : Int := Lib.indexByte l c

theorem unres_1 : ∀ c : UInt8, isLet c = true → true = unres c := all_bytes _ (by decide +kernel)
theorem unres_2 : ∀ c : UInt8, isDig c = true → true = unres c := all_bytes _ (by decide +kernel)
theorem unres_3 : ∀ c : UInt8, isLet c = false → isDig c = false → decide (0 ≤ Lib.indexByte [45, 46, 95, 126] c) = unres c := all_bytes _ (by decide +kernel)

theorem indexByte_calls (s : ByteArray) (c : UInt8) (w : World) : Calls Tryd.prog 65 #[.string s, .int .u8 c.toNat] w fun e w' => e = .returned (.int .i64 (Lib.indexByte s.data.toList c)) ∧ w = w' :=
  (Tryd.strings_IndexByte s c.toNat w).mono fun e w' ⟨h1, h2⟩ => ⟨by rw [h1]; simp, h2.symm⟩

theorem unreserved_calls (c : UInt8) (w : World) : Calls Tryd.prog 41 #[.int .u8 c.toNat] w fun e w' => e = .returned (.bool (unres c)) ∧ w = w' := by
  go_enter Tryd.func41, Tryd.ntmps41
  go_wp2_with (first | (go_at_call 63; refine (letter_calls c _).mono ?_; rintro e w' ⟨rfl, rfl⟩) | (go_at_call 64; refine (digit_calls c _).mono ?_; rintro e w' ⟨rfl, rfl⟩) | (go_at_call 65; refine (indexByte_calls _ c _).mono ?_; rintro e w' ⟨rfl, rfl⟩))
  · go_ret; exact ⟨ret_bool (unres_1 c ‹_›), rfl⟩
  · go_ret; exact ⟨ret_bool (unres_2 c ‹_›), rfl⟩
  · go_ret; exact ⟨ret_bool (unres_3 c (by simpa using ‹¬ isLet c = true›) (by simpa using ‹¬ isDig c = true›)), rfl⟩

theorem pathB_1 : ∀ c : UInt8, unres c = true → true = pathB c := all_bytes _ (by decide +kernel)
theorem pathB_2 : ∀ c : UInt8, unres c = false → decide (0 ≤ Lib.indexByte [33, 36, 38, 39, 40, 41, 42, 43, 44, 59, 61, 58, 64] c) = pathB c := all_bytes _ (by decide +kernel)
theorem pathByte_calls (c : UInt8) (w : World) : Calls Tryd.prog 88 #[.int .u8 c.toNat] w fun e w' => e = .returned (.bool (pathB c)) ∧ w = w' := by
  go_enter Tryd.func88, Tryd.ntmps88
  go_wp2_with (first | (go_at_call 41; refine (unreserved_calls c _).mono ?_; rintro e w' ⟨rfl, rfl⟩) | (go_at_call 65; refine (indexByte_calls _ c _).mono ?_; rintro e w' ⟨rfl, rfl⟩))
  · go_ret; exact ⟨ret_bool (pathB_1 c ‹_›), rfl⟩
  · go_ret; exact ⟨ret_bool (pathB_2 c (by simpa using ‹¬ unres c = true›)), rfl⟩

theorem hex_calls (c : UInt8) (w : World) : Calls Tryd.prog 69 #[.int .u8 c.toNat] w fun e w' => e = .returned (.tuple #[.int .u8 ((hexv c).getD 0).toNat, .bool (hexv c).isSome]) ∧ w = w' := by
  go_enter Tryd.func69, Tryd.ntmps69
  go_wp2_with (first | (go_at_call 64; refine (digit_calls c _).mono ?_; rintro e w' ⟨rfl, rfl⟩))
  all_goals go_ret2
  all_goals refine ⟨ret_pair ?_ ?_, rfl⟩
  all_goals (go_light; revert w; intro w; (try intro Q1); (try intro Q2); (try intro Q3); (try clear Q3); (try clear Q2); (try clear Q1); clear w; revert c; exact all_bytes _ (by decide +kernel))

theorem rletter_calls (c : UInt8) (w : World) : Calls Tryd.prog 37 #[.int .u8 c.toNat] w fun e w' => e = .returned (.bool (isLet c || isDig c)) ∧ w = w' := by
  go_enter Tryd.func37, Tryd.ntmps37
  go_wp2
  all_goals go_ret
  all_goals refine ⟨ret_bool ?_, rfl⟩
  all_goals (go_light; revert w; intro w; (try intro Q1); (try intro Q2); (try intro Q3); (try clear Q3); (try clear Q2); (try clear Q1); clear w; revert c; exact all_bytes _ (by decide +kernel))

theorem take_snoc (s : ByteArray) (k : Nat) (h : k < s.size) : s.data.toList.take (k + 1) = s.data.toList.take k ++ [s[k]] := by
  rw [List.take_succ_eq_append_getElem (by simpa using h)]; rfl
theorem byte_beq {a b : UInt8} (h : a = b) : ((a.toNat : Int) == (b.toNat : Int)) = true := by subst h; simp
theorem byte_bne {a b : UInt8} (h : a ≠ b) : ((a.toNat : Int) == (b.toNat : Int)) = false := by
  rw [beq_eq_false_iff_ne]; intro e; exact h (UInt8.toNat_inj.1 (by omega))
theorem take_all (s : ByteArray) {k : Nat} (h : ¬ k < s.size) : s.data.toList.take k = s.data.toList := List.take_of_length_le (by simp; omega)

theorem among_calls (c : UInt8) (s : ByteArray) (w : World) (hs : s.size ≤ 140737488355328) : Calls Tryd.prog 38 #[.int .u8 c.toNat, .string s] w fun e w' => e = .returned (.bool (has c s.data.toList)) ∧ w = w' := by
  go_enter Tryd.func38, Tryd.ntmps38
  go_wp2
  go_loop [5] (fun i => ∃ k : Nat, k ≤ s.size ∧ i = .int .i64 k ∧ has c (s.data.toList.take k) = false) (fun i => s.size - (intOf i).toNat)
  case atStart => exact ⟨0, Nat.zero_le _, rfl, by simp [has]⟩
  case round =>
    obtain ⟨k, hk, rfl, hno⟩ := hrel
    have HNO := Lib.hid hno
    clear hno
    by_cases hlt : k < s.size
    · have HT := Lib.hid (take_snoc s k hlt)
      by_cases he : s[k] = c
      · have hb := byte_beq he
        have HE := Lib.hid he
        clear he
        go_wp2
        go_ret
        refine ⟨ret_bool ?_, rfl⟩
        have hm : c ∈ s.data.toList := List.mem_of_mem_take (i := k + 1) (by rw [HT.out, HE.out]; simp)
        simpa [has] using hm
      · have hb := byte_bne he
        have HE := Lib.hid he
        clear he
        go_wp2
        go_round
        case rel => exact ⟨k + 1, by omega, by go_num, by rw [HT.out]; have := HNO.out; unfold has at this ⊢; rw [List.contains_append, this]; simpa using fun h => HE.out h.symm⟩
        case measure => simp [intOf]; omega
    · have HA := Lib.hid (take_all s hlt)
      go_wp2
      go_ret
      exact ⟨ret_bool (by have := HNO.out; rw [HA.out] at this; exact this.symm), rfl⟩

/-! ### the reference's bytes -/
theorem rUnres_3 : ∀ c : UInt8, (isLet c || isDig c) = false → has c [45, 46, 95, 126] = unres c := all_bytes _ (by decide +kernel)
theorem rUnres_1 : ∀ c : UInt8, (isLet c || isDig c) = true → true = unres c := all_bytes _ (by decide +kernel)
def alnum (c : UInt8) : Bool := isLet c || isDig c
theorem rletter_calls' (c : UInt8) (w : World) : Calls Tryd.prog 37 #[.int .u8 c.toNat] w fun e w' => e = .returned (.bool (alnum c)) ∧ w = w' := rletter_calls c w
theorem rUnreserved_calls (c : UInt8) (w : World) : Calls Tryd.prog 20 #[.int .u8 c.toNat] w fun e w' => e = .returned (.bool (unres c)) ∧ w = w' := by
  go_enter Tryd.func20, Tryd.ntmps20
  go_wp2_with (first | (go_at_call 37; refine (rletter_calls' c _).mono ?_; rintro e w' ⟨rfl, rfl⟩) | (go_at_call 38; refine (among_calls c _ _ (by decide)).mono ?_; rintro e w' ⟨rfl, rfl⟩))
  · go_ret; exact ⟨ret_bool (rUnres_1 c ‹_›), rfl⟩
  · go_ret; exact ⟨ret_bool (rUnres_3 c (by simpa [alnum] using ‹¬ alnum c = true›)), rfl⟩
theorem rplain_1 : ∀ c : UInt8, unres c = true → true = pathB c := all_bytes _ (by decide +kernel)
theorem rplain_2 : ∀ c : UInt8, unres c = false → has c [33, 36, 38, 39, 40, 41, 42, 43, 44, 59, 61, 58, 64] = pathB c := all_bytes _ (by decide +kernel)
theorem rplain_calls (c : UInt8) (w : World) : Calls Tryd.prog 93 #[.int .u8 c.toNat] w fun e w' => e = .returned (.bool (pathB c)) ∧ w = w' := by
  go_enter Tryd.func93, Tryd.ntmps93
  go_wp2_with (first | (go_at_call 20; refine (rUnreserved_calls c _).mono ?_; rintro e w' ⟨rfl, rfl⟩) | (go_at_call 38; refine (among_calls c _ _ (by decide)).mono ?_; rintro e w' ⟨rfl, rfl⟩))
  · go_ret; exact ⟨ret_bool (rplain_1 c ‹_›), rfl⟩
  · go_ret; exact ⟨ret_bool (rplain_2 c (by simpa using ‹¬ unres c = true›)), rfl⟩

/-- the reference's value of a digit: -1 for none -/
def hexi (c : UInt8) : Int := match hexv c with | some v => v.toNat | none => -1
def below (c : UInt8) (k : Nat) : Bool := match hexv c with | some v => decide (k ≤ v.toNat) | none => true
theorem below_end : ∀ c : UInt8, below c 16 = true → (-1 : Int) = hexi c := all_bytes _ (by decide +kernel)
set_option maxHeartbeats 4000000 in
theorem rhex_calls (c : UInt8) (w : World) : Calls Tryd.prog 73 #[.int .u8 c.toNat] w fun e w' => e = .returned (.int .i64 (hexi c)) ∧ w = w' := by
  go_enter Tryd.func73, Tryd.ntmps73
  go_wp2
  go_loop [3] (fun i => ∃ k : Nat, k ≤ 16 ∧ i = .int .i64 k ∧ below c k = true) (fun i => 16 - (intOf i).toNat)
  case atStart => exact ⟨0, by omega, rfl, by unfold below; split <;> simp⟩
  case round =>
    obtain ⟨k, hk, rfl, hb⟩ := hrel
    by_cases hlt : k < 16
    · have HK := Lib.hid (show k = 0 ∨ k = 1 ∨ k = 2 ∨ k = 3 ∨ k = 4 ∨ k = 5 ∨ k = 6 ∨ k = 7 ∨ k = 8 ∨ k = 9 ∨ k = 10 ∨ k = 11 ∨ k = 12 ∨ k = 13 ∨ k = 14 ∨ k = 15 by omega)
      have HB := Lib.hid hb
      clear hb hk hlt
      rcases HK.out with rfl | rfl | rfl | rfl | rfl | rfl | rfl | rfl | rfl | rfl | rfl | rfl | rfl | rfl | rfl | rfl
      all_goals go_wp2
      all_goals clear HK
      all_goals first | (go_ret; refine ⟨ret_int ?_, rfl⟩) | refine ⟨⟨1, by omega, rfl, ?_⟩, by simp [intOf]⟩ | refine ⟨⟨2, by omega, rfl, ?_⟩, by simp [intOf]⟩ | refine ⟨⟨3, by omega, rfl, ?_⟩, by simp [intOf]⟩ | refine ⟨⟨4, by omega, rfl, ?_⟩, by simp [intOf]⟩ | refine ⟨⟨5, by omega, rfl, ?_⟩, by simp [intOf]⟩ | refine ⟨⟨6, by omega, rfl, ?_⟩, by simp [intOf]⟩ | refine ⟨⟨7, by omega, rfl, ?_⟩, by simp [intOf]⟩ | refine ⟨⟨8, by omega, rfl, ?_⟩, by simp [intOf]⟩ | refine ⟨⟨9, by omega, rfl, ?_⟩, by simp [intOf]⟩ | refine ⟨⟨10, by omega, rfl, ?_⟩, by simp [intOf]⟩ | refine ⟨⟨11, by omega, rfl, ?_⟩, by simp [intOf]⟩ | refine ⟨⟨12, by omega, rfl, ?_⟩, by simp [intOf]⟩ | refine ⟨⟨13, by omega, rfl, ?_⟩, by simp [intOf]⟩ | refine ⟨⟨14, by omega, rfl, ?_⟩, by simp [intOf]⟩ | refine ⟨⟨15, by omega, rfl, ?_⟩, by simp [intOf]⟩ | refine ⟨⟨16, by omega, rfl, ?_⟩, by simp [intOf]⟩
      all_goals (have HB1 := HB.out; clear HB; go_light; revert w; intro w; (try intro Q1); (try intro Q2); (try intro Q3); (try clear Q3); (try clear Q2); (try clear Q1); clear w; revert c; exact all_bytes _ (by decide +kernel))
    · obtain rfl : k = 16 := by omega
      have HB := Lib.hid hb
      clear hb
      go_wp2
      go_ret
      exact ⟨ret_int (below_end c HB.out), rfl⟩
end Go.Proofs.YthobmfnmenbkeaaDoor
end
/- The program's and the reference's codes, and what a text is made of, walked. -/
section
set_option linter.unusedVariables false
set_option linter.unusedSimpArgs false
namespace Go.Proofs.YthobmfnmenbkeaaDoor
open Go.RowKit Tg

theorem drop_at (s : ByteArray) (k : Nat) (h : k < s.size) : s.data.toList.drop k = s[k] :: s.data.toList.drop (k + 1) := by
  rw [List.drop_eq_getElem_cons (by simpa using h)]; rfl
theorem drop3 (s : ByteArray) (k : Nat) (h : k + 2 < s.size) : s.data.toList.drop k = s[k] :: s[k + 1] :: s[k + 2] :: s.data.toList.drop (k + 3) := by
  rw [drop_at s k (by omega), drop_at s (k + 1) (by omega), drop_at s (k + 2) (by omega)]

/-- what 'code' comes to at a place -/
def CodeIs (s : ByteArray) (k : Nat) (w : World) (e : Ending) (w' : World) : Prop :=
  e = .returned (.tuple #[.int .u8 (rawCode (s.data.toList.drop k)).toNat, .bool (code (s.data.toList.drop k)).isSome]) ∧ w = w'

theorem byte_bne1 {a : UInt8} (h : a ≠ 37) : ((a.toNat : Int) != 37) = true := by
  have : ((a.toNat : Int) == 37) = false := byte_bne (b := 37) h
  simp [bne, this]
theorem byte_beq1 {a : UInt8} (h : a = 37) : ((a.toNat : Int) != 37) = false := by subst h; rfl

theorem hex2_isSome (x y : UInt8) : (hex2 x y).isSome = ((hexv x).isSome && (hexv y).isSome) := by
  unfold hex2
  cases hexv x <;> cases hexv y <;> rfl
theorem shl_or_int : ∀ a b : UInt8, a < 16 → b < 16 → bits BinOp.or IntKind.u8 ((a.toNat : Int) * 16 % 256) b.toNat = ((a <<< 4 ||| b).toNat : Int) := by
  intro a b ha hb
  obtain ⟨m, hm⟩ : ∃ m : Fin 16, a = UInt8.ofNat m.val := ⟨⟨a.toNat, by simpa [UInt8.lt_iff_toNat_lt] using ha⟩, by simp⟩
  obtain ⟨n, hn⟩ : ∃ n : Fin 16, b = UInt8.ofNat n.val := ⟨⟨b.toNat, by simpa [UInt8.lt_iff_toNat_lt] using hb⟩, by simp⟩
  subst hm hn
  revert m n
  decide +kernel
theorem raw_code (x y : UInt8) (r : List UInt8) : rawCode (37 :: x :: y :: r) = ((hexv x).getD 0) <<< 4 ||| (hexv y).getD 0 := rfl
theorem raw_code_int (x y : UInt8) (r : List UInt8) : bits BinOp.or IntKind.u8 ((((hexv x).getD 0).toNat : Int) * 16 % 256) ((hexv y).getD 0).toNat = ((rawCode (37 :: x :: y :: r)).toNat : Int) := by
  rw [raw_code]; exact shl_or_int _ _ (hexv_lt x) (hexv_lt y)
theorem code_37 (x y : UInt8) (r : List UInt8) : (code (37 :: x :: y :: r)).isSome = ((hexv x).isSome && (hexv y).isSome) := by
  rw [code_cons, if_pos rfl, hex2_isSome]

theorem code_calls (s : ByteArray) (k : Nat) (w : World) (hs : s.size ≤ 140737488355328) (hk : k < s.size) : Calls Tryd.prog 39 #[.string s, .int .i64 k] w (CodeIs s k w) := by
  by_cases h2 : k + 2 < s.size
  · by_cases hp : s[k] = 37
    · have HD := Lib.hid (drop3 s k h2)
      have hq := byte_beq1 hp
      have HP := Lib.hid hp
      clear hp
      go_enter Tryd.func39, Tryd.ntmps39
      go_wp2_with fail
      refine (hex_calls s[k + 1] _).mono ?_
      rintro e w' ⟨rfl, rfl⟩
      go_wp2_with fail
      refine (hex_calls s[k + 2] _).mono ?_
      rintro e w' ⟨rfl, rfl⟩
      go_wp2_with fail
      · go_ret2
        refine ⟨ret_pair ?_ ?_, rfl⟩
        · rw [HD.out, HP.out]; exact raw_code_int _ _ _
        · rw [HD.out, HP.out, code_37, ‹(hexv s[k + 1]).isSome = true›]; rfl
      · go_ret2
        refine ⟨ret_pair ?_ ?_, rfl⟩
        · rw [HD.out, HP.out]; exact raw_code_int _ _ _
        · have hf : (hexv s[k + 1]).isSome = false := by simpa using ‹¬(hexv s[k + 1]).isSome = true›
          rw [HD.out, HP.out, code_37, hf]; rfl
    · have HD := Lib.hid (drop_at s k hk)
      have hq := byte_bne1 hp
      have HP := Lib.hid hp
      clear hp
      go_enter Tryd.func39, Tryd.ntmps39
      go_wp2
      go_ret2
      refine ⟨ret_pair ?_ ?_, rfl⟩
      · rw [HD.out, (code_not HP.out _).2]; rfl
      · rw [HD.out, (code_not HP.out _).1]; rfl
  · have HS := Lib.hid (code_short (l := s.data.toList.drop k) (by simp; omega))
    go_enter Tryd.func39, Tryd.ntmps39
    go_wp2
    go_ret2
    refine ⟨ret_pair ?_ ?_, rfl⟩
    · rw [HS.out.2]; rfl
    · rw [HS.out.1]; rfl

/-- the reference's code: -1 for none -/
def codei (l : List UInt8) : Int := match code l with | some v => v.toNat | none => -1
theorem codei_none {l : List UInt8} (h : code l = none) : codei l = -1 := by unfold codei; rw [h]
theorem hexi_rng : ∀ c : UInt8, -1 ≤ hexi c ∧ hexi c ≤ 15 := all_bytes _ (by decide +kernel)
theorem hexi_some : ∀ c : UInt8, 0 ≤ hexi c → (hexv c).isSome = true ∧ (((hexv c).getD 0).toNat : Int) = hexi c := all_bytes _ (by decide +kernel)
theorem hexi_none : ∀ c : UInt8, hexi c < 0 → (hexv c).isSome = false := all_bytes _ (by decide +kernel)
theorem codei_none' {x y : UInt8} {r : List UInt8} (h : ((hexv x).isSome && (hexv y).isSome) = false) : codei (37 :: x :: y :: r) = -1 :=
  codei_none (by have := code_37 x y r; rw [h] at this; simpa using this)
theorem codei_some {x y : UInt8} (r : List UInt8) (hx : 0 ≤ hexi x) (hy : 0 ≤ hexi y) : codei (37 :: x :: y :: r) = hexi x * 16 + hexi y := by
  obtain ⟨a, ha⟩ := Option.isSome_iff_exists.1 (hexi_some x hx).1
  obtain ⟨b, hb⟩ := Option.isSome_iff_exists.1 (hexi_some y hy).1
  have ea := (hexi_some x hx).2
  have eb := (hexi_some y hy).2
  have la := hexv_lt' ha
  have lb := hexv_lt' hb
  rw [ha] at ea
  rw [hb] at eb
  simp only [Option.getD_some] at ea eb
  unfold codei
  rw [code_cons, if_pos rfl]
  unfold hex2
  rw [ha, hb]
  simp only [← ea, ← eb]
  rw [UInt8.lt_iff_toNat_lt] at la lb
  have la' : a.toNat < 16 := la
  have lb' : b.toNat < 16 := lb
  have e : (a * 16 + b).toNat = a.toNat * 16 + b.toNat := by
    rw [UInt8.toNat_add, UInt8.toNat_mul]
    show ((a.toNat * 16) % 256 + b.toNat) % 256 = _
    omega
  rw [e]; omega

theorem quiet_eq {P : Program} {f : FuncId} {args : Array Value} {w : World} {n : Nat} {v : Value}
    (h : Calls P f args (w.drewN n) fun e w' => e = .returned v ∧ w.drewN n = w') : Calls P f args (w.drewN n) fun e w'' => e = .returned v ∧ ∃ m, w'' = w.drewN m :=
  h.mono fun _ _ ⟨he, hm⟩ => ⟨he, n, hm.symm⟩

/-- the world is as it was, but for draws -/
structure Dr (w w' : World) : Prop where mk :: (out : ∃ n, w' = w.drewN n)
theorem Dr.refl (w : World) : Dr w w := ⟨0, rfl⟩
theorem Dr.more {w w' : World} (h : Dr w w') (n : Nat) : Dr w (w'.drewN n) := by
  obtain ⟨m, rfl⟩ := h
  exact ⟨m + n, World.drewN_drewN ..⟩
theorem Dr.trans {w w' w'' : World} (h : Dr w w') (g : Dr w' w'') : Dr w w'' := by
  obtain ⟨n, rfl⟩ := g; exact h.more n

theorem rcode_calls (s : ByteArray) (k : Nat) (w : World) (hs : s.size ≤ 140737488355328) (hk : k < s.size) : Calls Tryd.prog 50 #[.string s, .int .i64 k] w fun e w' => e = .returned (.int .i64 (codei (s.data.toList.drop k))) ∧ Dr w w' := by
  by_cases h2 : k + 2 < s.size
  · by_cases hp : s[k] = 37
    · have HD := Lib.hid (drop3 s k h2)
      have hq := byte_beq1 hp
      have HP := Lib.hid hp
      clear hp
      have hx := hexi_rng s[k + 1]
      have hy := hexi_rng s[k + 2]
      go_enter Tryd.func50, Tryd.ntmps50
      go_wp2_with (first | (go_at_call 73; refine (rhex_calls _ _).mono ?_; rintro e w' ⟨rfl, rfl⟩))
      · go_ret
        have hf : (hexv s[k + 2]).isSome = false := by
          rename_i h
          rcases h with (h | h) | h
          · omega
          · omega
          · exact hexi_none _ h
        exact ⟨ret_int (by rw [HD.out, HP.out, codei_none' (by rw [hf, Bool.and_false])]), Dr.refl _⟩
      · have p1 : 0 ≤ hexi s[k + 1] := ‹_›
        have p2 : 0 ≤ hexi s[k + 2] := (‹((k : Int) + 2 < (s.size : Int) ∧ 0 ≤ hexi s[k + 1]) ∧ 0 ≤ hexi s[k + 2]›).2
        go_quiet ((go_at_call 73; exact quiet_eq (rhex_calls _ _)))
        go_wp2
        go_ret
        exact ⟨ret_int (by rw [HD.out, HP.out, codei_some _ p1 p2]), (Dr.refl _).more _⟩
      · have p1 : hexi s[k + 1] < 0 := ‹_›
        go_ret
        exact ⟨ret_int (by rw [HD.out, HP.out, codei_none' (by rw [hexi_none _ p1, Bool.false_and])]), Dr.refl _⟩
    · have HD := Lib.hid (drop_at s k hk)
      have hq := byte_bne1 hp
      have HP := Lib.hid hp
      clear hp
      go_enter Tryd.func50, Tryd.ntmps50
      go_wp2
      go_ret
      exact ⟨ret_int (by rw [HD.out, codei_none (code_not HP.out _).1]), Dr.refl _⟩
  · have HS := Lib.hid (code_short (l := s.data.toList.drop k) (by simp; omega))
    go_enter Tryd.func50, Tryd.ntmps50
    go_wp2
    go_ret
    exact ⟨ret_int (by rw [codei_none HS.out.1]), Dr.refl _⟩

/-- a byte's code as a text -/
theorem coded_bytes : ∀ c : UInt8, (({ data := #[37] } : ByteArray) ++ ({ data := #[48, 49, 50, 51, 52, 53, 54, 55, 56, 57, 65, 66, 67, 68, 69, 70] } : ByteArray).extract (c.toNat / 16) (c.toNat / 16 + 1) ++
    ({ data := #[48, 49, 50, 51, 52, 53, 54, 55, 56, 57, 65, 66, 67, 68, 69, 70] } : ByteArray).extract (c.toNat % 16) (c.toNat % 16 + 1)) = ⟨(coded c).toArray⟩ := all_bytes _ (by decide +kernel)
theorem ret_str {a b : ByteArray} (h : a = b) : Ending.returned (.string a) = .returned (.string b) := by rw [h]
theorem coded_calls (c : UInt8) (w : World) : Calls Tryd.prog 43 #[.int .u8 c.toNat] w fun e w' => e = .returned (.string ⟨(coded c).toArray⟩) ∧ Dr w w' := by
  have hc : (c.toNat : Int) < 256 := by have := c.toNat_lt; omega
  have h1 : (0 : Int) ≤ (c.toNat : Int) / 16 := by omega
  have h2 : (c.toNat : Int) / 16 + 1 ≤ 16 := by omega
  go_enter Tryd.func43, Tryd.ntmps43
  go_wp2
  go_quiet (fail)
  go_wp2
  go_ret
  exact ⟨ret_str (coded_bytes c), (Dr.refl _).more _⟩
end Go.Proofs.YthobmfnmenbkeaaDoor
end
/- What a text is made of: the program's 'made', 'isPath', 'isQuery', and the reference's, walked. -/
section
set_option linter.unusedVariables false
set_option linter.unusedSimpArgs false
namespace Go.Proofs.YthobmfnmenbkeaaDoor
open Go.RowKit Tg

section
variable (oth : UInt8 → Bool) (on : Bool) (s : ByteArray) (k : Nat)
theorem made_some {v : UInt8} (hk : k < s.size) (hp : s[k] = 37) (hc : code (s.data.toList.drop k) = some v) : k + 2 < s.size ∧ made oth on (s.data.toList.drop k) = (!soft on v && made oth on (s.data.toList.drop (k + 3))) := by
  have h2 : k + 2 < s.size := by
    by_cases h : k + 2 < s.size
    · exact h
    · have := (code_short (l := s.data.toList.drop k) (by simp; omega)).1
      rw [this] at hc; cases hc
  refine ⟨h2, ?_⟩
  rw [drop3 s k h2, hp] at hc ⊢
  rw [code_cons, if_pos rfl] at hc
  rw [made_code, hc]
theorem made_none (hk : k < s.size) (hp : s[k] = 37) (hc : code (s.data.toList.drop k) = none) : made oth on (s.data.toList.drop k) = false := by
  by_cases h2 : k + 2 < s.size
  · rw [drop3 s k h2, hp] at hc ⊢
    rw [code_cons, if_pos rfl] at hc
    rw [made_code, hc]
  · rw [drop_at s k hk, hp]
    have hl : (s.data.toList.drop (k + 1)).length < 2 := by simp; omega
    match s.data.toList.drop (k + 1), hl with
    | [], _ => rfl
    | [_], _ => rfl
    | _ :: _ :: _, h => simp at h; omega
theorem made_other (hk : k < s.size) (hp : s[k] ≠ 37) : made oth on (s.data.toList.drop k) = ((pathB s[k] || oth s[k]) && made oth on (s.data.toList.drop (k + 1))) := by
  rw [drop_at s k hk, made_byte oth on hp]
end

theorem soft_1 : ∀ v : UInt8, (v.toNat : Int) < 32 → soft true v = true := all_bytes _ (by decide +kernel)
theorem soft_2 : ∀ v : UInt8, ((v.toNat : Int) < 32 ∨ ((v.toNat : Int) == 127) = true) → soft true v = true := all_bytes _ (by decide +kernel)
theorem soft_3 : ∀ v : UInt8, (32 ≤ (v.toNat : Int) ∧ ((v.toNat : Int) == 127) = false) → soft true v = false := all_bytes _ (by decide +kernel)
theorem soft_off (v : UInt8) : soft false v = false := rfl

theorem made_calls (oth : UInt8 → Bool) (on : Bool) (s others : ByteArray) (w : World) (hs : s.size ≤ 140737488355328) (ho : ∀ c, decide (0 ≤ Lib.indexByte others.data.toList c) = oth c) :
    Calls Tryd.prog 68 #[.string s, .string others, .bool on] w fun e w' => e = .returned (.bool (made oth on s.data.toList)) ∧ w = w' := by
  have HO := Lib.hid ho
  clear ho
  go_enter Tryd.func68, Tryd.ntmps68
  go_wp2
  go_loop [7] (fun i => ∃ k : Nat, k ≤ s.size ∧ i = .int .i64 k ∧ made oth on (s.data.toList.drop k) = made oth on s.data.toList) (fun i => s.size - (intOf i).toNat)
  case atStart => exact ⟨0, Nat.zero_le _, rfl, rfl⟩
  case round =>
    obtain ⟨k, hk, rfl, hno⟩ := hrel
    have HNO := Lib.hid hno
    clear hno
    by_cases hlt : k < s.size
    · by_cases hp : s[k] = 37
      · have hb : ((s[k].toNat : Int) == 37) = true := byte_beq (b := 37) hp
        cases hc : code (s.data.toList.drop k) with
        | none =>
          have HM := Lib.hid (made_none oth on s k hlt hp hc)
          have hcs : (code (s.data.toList.drop k)).isSome = false := by rw [hc]; rfl
          clear hp hc
          go_wp2_with (first | (go_at_call 39; refine (code_calls _ _ _ hs hlt).mono ?_; rintro e w' ⟨rfl, rfl⟩))
          go_ret
          exact ⟨ret_bool (by rw [← HNO.out, HM.out]), rfl⟩
        | some v =>
          obtain ⟨h2, hm⟩ := made_some oth on s k hlt hp hc
          have HM := Lib.hid hm
          have hcs : (code (s.data.toList.drop k)).isSome = true := by rw [hc]; rfl
          have HR := Lib.hid (code_raw hc)
          clear hp hc hm
          cases on with
          | false =>
            go_wp2_with (first | (go_at_call 39; refine (code_calls _ _ _ hs hlt).mono ?_; rintro e w' ⟨rfl, rfl⟩))
            exact ⟨⟨k + 3, by omega, by go_num, by rw [← HNO.out, HM.out, soft_off]; rfl⟩, by simp [intOf]; omega⟩
          | true =>
            go_wp2_with (first | (go_at_call 39; refine (code_calls _ _ _ hs hlt).mono ?_; rintro e w' ⟨rfl, rfl⟩))
            · go_ret
              refine ⟨ret_bool ?_, rfl⟩
              have hq : soft true v = true := by rw [← HR.out]; exact soft_2 _ ‹_›
              rw [← HNO.out, HM.out, hq]; rfl
            · refine ⟨⟨k + 3, by omega, by go_num, ?_⟩, by simp [intOf]; omega⟩
              have hq : soft true v = false := by rw [← HR.out]; exact soft_3 _ ‹_›
              rw [← HNO.out, HM.out, hq]; rfl
            · go_ret
              refine ⟨ret_bool ?_, rfl⟩
              have hq : soft true v = true := by rw [← HR.out]; exact soft_1 _ ‹_›
              rw [← HNO.out, HM.out, hq]; rfl
      · have hb : ((s[k].toNat : Int) == 37) = false := byte_bne (b := 37) hp
        have HM := Lib.hid (made_other oth on s k hlt hp)
        clear hp
        go_wp2_with (first | (go_at_call 88; refine (pathByte_calls _ _).mono ?_; rintro e w' ⟨rfl, rfl⟩) | (go_at_call 65; refine (indexByte_calls _ _ _).mono ?_; rintro e w' ⟨rfl, rfl⟩))
        · exact ⟨⟨k + 1, by omega, by go_num, by rw [← HNO.out, HM.out, ‹pathB s[k] = true›]; rfl⟩, by simp [intOf]; omega⟩
        · go_ret
          refine ⟨ret_bool ?_, rfl⟩
          have h1 : pathB s[k] = false := by simpa using ‹¬pathB s[k] = true›
          have h2 : oth s[k] = false := by rw [← HO.out s[k]]; simpa using ‹Lib.indexByte others.data.toList s[k] < 0›
          rw [← HNO.out, HM.out, h1, h2]; rfl
        · refine ⟨⟨k + 1, by omega, by go_num, ?_⟩, by simp [intOf]; omega⟩
          have h2 : oth s[k] = true := by rw [← HO.out s[k]]; simpa using ‹0 ≤ Lib.indexByte others.data.toList s[k]›
          rw [← HNO.out, HM.out, h2, Bool.or_true, Bool.true_and]
    · go_wp2
      go_ret
      exact ⟨ret_bool (by rw [← HNO.out, List.drop_of_length_le (by simp; omega), made_nil]), rfl⟩

theorem slash_idx : ∀ c : UInt8, decide (0 ≤ Lib.indexByte [47] c) = slash c := all_bytes _ (by decide +kernel)
theorem qmark_idx : ∀ c : UInt8, decide (0 ≤ Lib.indexByte [47, 63] c) = qmark c := all_bytes _ (by decide +kernel)

theorem isQuery_calls (s : ByteArray) (w : World) (hs : s.size ≤ 140737488355328) : Calls Tryd.prog 34 #[.string s] w fun e w' => e = .returned (.bool (isQuery s.data.toList)) ∧ w = w' := by
  go_enter Tryd.func34, Tryd.ntmps34
  go_wp2_with (first | (go_at_call 68; refine (made_calls qmark _ _ _ _ hs qmark_idx).mono ?_; rintro e w' ⟨rfl, rfl⟩))
  go_ret
  exact ⟨rfl, rfl⟩

theorem isPath_cons {s : ByteArray} (h : Lib.hasPrefix s.data.toList [47] = true) : isPath s.data.toList = made slash true s.data.toList := by
  cases e : s.data.toList with
  | nil => rw [e] at h; simp [Lib.hasPrefix] at h
  | cons c r =>
    rw [e] at h
    simp [Lib.hasPrefix, List.isPrefixOf] at h
    subst h
    simp [isPath]
theorem isPath_no {s : ByteArray} (h : Lib.hasPrefix s.data.toList [47] = false) : isPath s.data.toList = false := by
  cases e : s.data.toList with
  | nil => rfl
  | cons c r =>
    rw [e] at h
    simp [Lib.hasPrefix, List.isPrefixOf] at h
    have : (c == 47) = false := by simpa using fun e => h e.symm
    simp [isPath, this]
theorem hasPrefix_calls (s p : ByteArray) (w : World) : Calls Tryd.prog 67 #[.string s, .string p] w fun e w' => e = .returned (.bool (Lib.hasPrefix s.data.toList p.data.toList)) ∧ w = w' :=
  (Tryd.strings_HasPrefix s p w).mono fun e w' ⟨h1, h2⟩ => ⟨h1, h2.symm⟩
theorem isPath_calls (s : ByteArray) (w : World) (hs : s.size ≤ 140737488355328) : Calls Tryd.prog 33 #[.string s] w fun e w' => e = .returned (.bool (isPath s.data.toList)) ∧ w = w' := by
  cases hh : Lib.hasPrefix s.data.toList [47] with
  | true =>
    have HH := Lib.hid (isPath_cons hh)
    go_enter Tryd.func33, Tryd.ntmps33
    go_wp2_with (first | (go_at_call 67; refine (hasPrefix_calls _ _ _).mono ?_; rintro e w' ⟨rfl, rfl⟩) | (go_at_call 68; refine (made_calls slash _ _ _ _ hs slash_idx).mono ?_; rintro e w' ⟨rfl, rfl⟩))
    go_ret
    exact ⟨ret_bool (by rw [HH.out]), rfl⟩
  | false =>
    have HH := Lib.hid (isPath_no hh)
    go_enter Tryd.func33, Tryd.ntmps33
    go_wp2_with (first | (go_at_call 67; refine (hasPrefix_calls _ _ _).mono ?_; rintro e w' ⟨rfl, rfl⟩) | (go_at_call 68; refine (made_calls slash _ _ _ _ hs slash_idx).mono ?_; rintro e w' ⟨rfl, rfl⟩))
    go_ret
    exact ⟨ret_bool (by rw [HH.out]), rfl⟩
end Go.Proofs.YthobmfnmenbkeaaDoor
end
/- The reference's 'made', 'Path' and 'Query', walked. -/
section
set_option linter.unusedVariables false
set_option linter.unusedSimpArgs false
namespace Go.Proofs.YthobmfnmenbkeaaDoor
open Go.RowKit Tg

theorem codei_some' {l : List UInt8} {v : UInt8} (h : code l = some v) : codei l = v.toNat := by unfold codei; rw [h]
theorem pathB_37 : pathB 37 = false := by decide

theorem soft_2' : ∀ v : UInt8, ((v.toNat : Int) < 0 ∨ (v.toNat : Int) < 32 ∨ ((v.toNat : Int) == 127) = true) → soft true v = true := all_bytes _ (by decide +kernel)
theorem rmade_calls (oth : UInt8 → Bool) (on : Bool) (s others : ByteArray) (w : World) (hs : s.size ≤ 140737488355328) (hos : others.size ≤ 140737488355328) (ho : ∀ c, has c others.data.toList = oth c) (h37 : oth 37 = false) :
    Calls Tryd.prog 72 #[.string s, .string others, .bool on] w fun e w' => e = .returned (.bool (made oth on s.data.toList)) ∧ Dr w w' := by
  have HO := Lib.hid ho
  have H37 := Lib.hid h37
  clear ho h37
  go_enter Tryd.func72, Tryd.ntmps72
  go_wp2
  go_loopw [7] (fun i wr => ∃ k : Nat, k ≤ s.size ∧ i = .int .i64 k ∧ made oth on (s.data.toList.drop k) = made oth on s.data.toList ∧ Dr w wr) (fun i _ => s.size - (intOf i).toNat)
  case atStart => exact ⟨0, Nat.zero_le _, rfl, rfl, Dr.refl _⟩
  case round =>
    obtain ⟨k, hk, rfl, hno, hdr⟩ := hrel
    have HNO := Lib.hid hno
    clear hno
    by_cases hlt : k < s.size
    · by_cases hp : s[k] = 37
      · have hpb : pathB s[k] = false := by rw [hp]; exact pathB_37
        have hha : has s[k] others.data.toList = false := by rw [HO.out, hp, H37.out]
        cases hc : code (s.data.toList.drop k) with
        | none =>
          have HM := Lib.hid (made_none oth on s k hlt hp hc)
          have hci := codei_none hc
          clear hp hc
          go_wp2_with (first | (go_at_call 93; refine (rplain_calls _ _).mono ?_; rintro e w' ⟨rfl, rfl⟩) | (go_at_call 38; refine (among_calls _ _ _ hos).mono ?_; rintro e w' ⟨rfl, rfl⟩) | (go_at_call 50; refine (rcode_calls _ _ _ hs hlt).mono ?_; rintro e w' ⟨rfl, hd⟩))
          go_ret
          exact ⟨ret_bool (by rw [← HNO.out, HM.out]), hdr.trans hd⟩
        | some v =>
          obtain ⟨h2, hm⟩ := made_some oth on s k hlt hp hc
          have HM := Lib.hid hm
          have hci := codei_some' hc
          clear hp hc hm
          cases on with
          | false =>
            go_wp2_with (first | (go_at_call 93; refine (rplain_calls _ _).mono ?_; rintro e w' ⟨rfl, rfl⟩) | (go_at_call 38; refine (among_calls _ _ _ hos).mono ?_; rintro e w' ⟨rfl, rfl⟩) | (go_at_call 50; refine (rcode_calls _ _ _ hs hlt).mono ?_; rintro e w' ⟨rfl, hd⟩))
            exact ⟨⟨k + 3, by omega, by go_num, by rw [← HNO.out, HM.out, soft_off]; rfl, hdr.trans hd⟩, by simp [intOf]; omega⟩
          | true =>
            go_wp2_with (first | (go_at_call 93; refine (rplain_calls _ _).mono ?_; rintro e w' ⟨rfl, rfl⟩) | (go_at_call 38; refine (among_calls _ _ _ hos).mono ?_; rintro e w' ⟨rfl, rfl⟩) | (go_at_call 50; refine (rcode_calls _ _ _ hs hlt).mono ?_; rintro e w' ⟨rfl, hd⟩))
            · go_ret
              refine ⟨ret_bool ?_, hdr.trans hd⟩
              have hq : soft true v = true := soft_2' v ‹_›
              rw [← HNO.out, HM.out, hq]; rfl
            · refine ⟨⟨k + 3, by omega, by go_num, ?_, hdr.trans hd⟩, by simp [intOf]; omega⟩
              have hq : soft true v = false := soft_3 _ (‹0 ≤ (v.toNat : Int) ∧ 32 ≤ (v.toNat : Int) ∧ ((v.toNat : Int) == 127) = false›).2
              rw [← HNO.out, HM.out, hq]; rfl
            · go_ret
              refine ⟨ret_bool ?_, hdr.trans hd⟩
              have hq : soft true v = true := soft_1 _ ‹_›
              rw [← HNO.out, HM.out, hq]; rfl
      · have HM := Lib.hid (made_other oth on s k hlt hp)
        have hci : codei (s.data.toList.drop k) = -1 := codei_none (by rw [drop_at s k hlt]; exact (code_not hp _).1)
        clear hp
        have hho : has s[k] others.data.toList = oth s[k] := HO.out s[k]
        cases h1 : pathB s[k] with
        | true =>
          go_wp2_with (first | (go_at_call 93; refine (rplain_calls _ _).mono ?_; rintro e w' ⟨rfl, rfl⟩))
          exact ⟨⟨k + 1, by omega, by go_num, by rw [← HNO.out, HM.out, h1]; rfl, hdr⟩, by simp [intOf]; omega⟩
        | false =>
          cases h2 : oth s[k] with
          | true =>
            rw [h2] at hho
            go_wp2_with (first | (go_at_call 93; refine (rplain_calls _ _).mono ?_; rintro e w' ⟨rfl, rfl⟩) | (go_at_call 38; refine (among_calls _ _ _ hos).mono ?_; rintro e w' ⟨rfl, rfl⟩))
            exact ⟨⟨k + 1, by omega, by go_num, by rw [← HNO.out, HM.out, h1, h2]; rfl, hdr⟩, by simp [intOf]; omega⟩
          | false =>
            rw [h2] at hho
            go_wp2_with (first | (go_at_call 93; refine (rplain_calls _ _).mono ?_; rintro e w' ⟨rfl, rfl⟩) | (go_at_call 38; refine (among_calls _ _ _ hos).mono ?_; rintro e w' ⟨rfl, rfl⟩) | (go_at_call 50; refine (rcode_calls _ _ _ hs hlt).mono ?_; rintro e w' ⟨rfl, hd⟩))
            go_ret
            exact ⟨ret_bool (by rw [← HNO.out, HM.out, h1, h2]; rfl), hdr.trans hd⟩
    · go_wp2
      go_ret
      exact ⟨ret_bool (by rw [← HNO.out, List.drop_of_length_le (by simp; omega), made_nil]), hdr⟩

theorem slash_has : ∀ c : UInt8, has c [47] = slash c := all_bytes _ (by decide +kernel)
theorem qmark_has : ∀ c : UInt8, has c [47, 63] = qmark c := all_bytes _ (by decide +kernel)

theorem rQuery_calls (s : ByteArray) (w : World) (hs : s.size ≤ 140737488355328) : Calls Tryd.prog 53 #[.string s] w fun e w' => e = .returned (.bool (isQuery s.data.toList)) ∧ Dr w w' := by
  go_enter Tryd.func53, Tryd.ntmps53
  go_wp2_with (first | (go_at_call 72; refine (rmade_calls qmark _ _ _ _ hs (by decide) qmark_has (by decide)).mono ?_; rintro e w' ⟨rfl, hd⟩))
  go_ret
  exact ⟨rfl, hd⟩

theorem len (s : ByteArray) : s.data.toList.length = s.size := by simp
theorem nonempty_of {s : ByteArray} (h : 0 < s.size) : s.toList.isEmpty = false := by
  rw [ByteArray.toList_eq]
  cases e : s.data.toList with
  | nil => have := len s; rw [e] at this; simp at this; omega
  | cons _ _ => rfl
theorem empty_of {s : ByteArray} (h : ¬ 0 < s.size) : s.toList.isEmpty = true := by
  rw [ByteArray.toList_eq, List.eq_nil_of_length_eq_zero (l := s.data.toList) (by rw [len]; omega)]; rfl
theorem nil_of_empty {s : ByteArray} (h : s.toList.isEmpty = true) : s.toList = [] := by simpa using h
theorem ne_of_nonempty {s : ByteArray} (h : s.toList.isEmpty = false) : ¬ s.toList = [] := by simpa using h

theorem rPath_calls (s : ByteArray) (w : World) (hs : s.size ≤ 140737488355328) : Calls Tryd.prog 47 #[.string s] w fun e w' => e = .returned (.bool (isPath s.data.toList)) ∧ Dr w w' := by
  by_cases h0 : 0 < s.size
  · have hd0 := drop_at s 0 h0
    have he := nonempty_of h0
    have he2 := ne_of_nonempty he
    by_cases hp : s[0] = 47
    · have hb : ((s[0].toNat : Int) == 47) = true := byte_beq (b := 47) hp
      have HH := Lib.hid (show isPath s.data.toList = made slash true s.data.toList by
        rw [List.drop_zero] at hd0; rw [hd0, hp]; simp [isPath])
      clear hp hd0
      go_enter Tryd.func47, Tryd.ntmps47
      go_wp2_with (first | (go_at_call 72; refine (rmade_calls slash _ _ _ _ hs (by decide) slash_has (by decide)).mono ?_; rintro e w' ⟨rfl, hd⟩))
      go_ret
      exact ⟨ret_bool (by rw [HH.out]), hd⟩
    · have hb : ((s[0].toNat : Int) == 47) = false := byte_bne (b := 47) hp
      have HH := Lib.hid (show isPath s.data.toList = false by
        rw [List.drop_zero] at hd0; rw [hd0]; simp [isPath, hp])
      clear hp hd0
      go_enter Tryd.func47, Tryd.ntmps47
      go_wp2_with fail
      go_ret
      exact ⟨ret_bool (by rw [HH.out]), Dr.refl _⟩
  · have HH := Lib.hid (show isPath s.data.toList = false by
      have : s.data.toList = [] := List.eq_nil_of_length_eq_zero (by rw [len]; omega)
      rw [this]; rfl)
    have he := empty_of h0
    have he2 := nil_of_empty he
    go_enter Tryd.func47, Tryd.ntmps47
    go_wp2_with fail
    go_ret
    exact ⟨ret_bool (by rw [HH.out]), Dr.refl _⟩
end Go.Proofs.YthobmfnmenbkeaaDoor
end
/- Plain laws of layer 8's words, the second part: lengths. No program stands in this text. -/
section
namespace Go.Proofs.YthobmfnmenbkeaaDoor.Tg

theorem glue_len_last (out : List (List UInt8)) (h : out ≠ []) : (glue out.dropLast).length + 1 ≤ (glue out).length := by
  obtain ⟨init, x, rfl⟩ : ∃ init x, out = init ++ [x] := by
    rcases List.eq_nil_or_concat out with e | ⟨i, x, e⟩
    · exact absurd e h
    · exact ⟨i, x, by rw [e, List.concat_eq_append]⟩
  rw [List.dropLast_concat, glue_append, glue_cons, glue_nil]; simp
theorem dots_len : ∀ (l out o : List (List UInt8)), dots out l = some o → (glue o).length ≤ (glue out).length + (glue l).length := by
  intro l
  induction l with
  | nil => intro out o e; rw [dots_nil] at e; cases e; simp [glue_nil]
  | cons s t ih =>
    intro out o e
    have hg : (glue (s :: t)).length = s.length + 1 + (glue t).length := by rw [glue_cons]; simp; omega
    unfold dots at e
    split at e
    · rename_i hs
      subst hs
      split at e
      · cases e
      · rename_i hne
        have := glue_len_last out hne
        split at e
        · cases e; rw [glue_append, List.length_append, glue_cons, glue_nil]; simp at hg ⊢; omega
        · have := ih _ o e; omega
    · split at e
      · rename_i hs
        subst hs
        split at e
        · cases e; rw [glue_append, List.length_append, glue_cons, glue_nil]; simp at hg ⊢; omega
        · have := ih _ o e; omega
      · have := ih _ o e
        rw [glue_append, List.length_append, glue_cons s [], glue_nil] at this
        simp at this; omega

end Go.Proofs.YthobmfnmenbkeaaDoor.Tg
end
/- What a target's parts are, and how a target is read: plain words, on lists of bytes. No program stands in this text. -/
section
namespace Go.Proofs.YthobmfnmenbkeaaDoor.Tg

structure T where
  form : Int
  host : List UInt8
  path : List UInt8
  query : List UInt8
  has : Bool
deriving DecidableEq

def zeroT : T := ⟨0, [], [], [], false⟩
def low (c : UInt8) : UInt8 := if 65 ≤ c && c ≤ 90 then c + 32 else c
def lower (l : List UInt8) : List UInt8 := l.map low
def http : List UInt8 := [104, 116, 116, 112, 58, 47, 47]
def stop (c : UInt8) : Bool := c == 47 || c == 63
def isHost (l : List UInt8) : Bool := l.all hostB && decide (1 ≤ l.length) && decide (l.length ≤ 255)
/-- ahead of the first such byte, behind it, whether there is one -/
def cutAt (c : UInt8) : List UInt8 → List UInt8 × List UInt8 × Bool
  | [] => ([], [], false)
  | x :: r => if x = c then ([], r, true) else (x :: (cutAt c r).1, (cutAt c r).2.1, (cutAt c r).2.2)
/-- a path and a query, or an error -/
def behind (form : Int) (host rest : List UInt8) : Int × T :=
  let p := if (cutAt 63 rest).1 = [] ∧ form = 2 then [47] else (cutAt 63 rest).1
  if isPath p && isQuery (cutAt 63 rest).2.1 then (0, ⟨form, host, p, (cutAt 63 rest).2.1, (cutAt 63 rest).2.2⟩) else (23, zeroT)
def isHttp (l : List UInt8) : Bool := decide (7 ≤ l.length) && lower (l.take 7) == http
def hostOf (l : List UInt8) : List UInt8 := l.takeWhile fun c => !stop c
def afterHost (l : List UInt8) : List UInt8 := l.dropWhile fun c => !stop c
def parse (l : List UInt8) : Int × T :=
  if 65536 < l.length then (2, zeroT)
  else if l = [42] then (0, ⟨3, [], [], [], false⟩)
  else if isHttp l then (if isHost (hostOf (l.drop 7)) then behind 2 (lower (hostOf (l.drop 7))) (afterHost (l.drop 7)) else (23, zeroT))
  else behind 1 [] l

theorem cut_cutAt (c : UInt8) : ∀ l : List UInt8, Lib.cut l [c] = cutAt c l
  | [] => by simp [Lib.cut, Lib.index, cutAt]
  | x :: r => by
    have ih := cut_cutAt c r
    by_cases h : x = c
    · subst h
      have hx : Lib.index (x :: r) [x] = 0 := by rw [Lib.index]; simp [List.isPrefixOf]
      simp [Lib.cut, hx, cutAt]
    · have hg := Lib.index_ge r [c]
      have hp : ([c] : List UInt8).isPrefixOf (x :: r) = false := by simp [List.isPrefixOf, Ne.symm h]
      have hx : Lib.index (x :: r) [c] = if Lib.index r [c] == -1 then -1 else Lib.index r [c] + 1 := by rw [Lib.index, hp]; simp
      unfold cutAt
      rw [if_neg h, ← ih]
      unfold Lib.cut
      rw [hx]
      by_cases hm : Lib.index r [c] = -1
      · simp [hm]
      · have h0 : 0 ≤ Lib.index r [c] := by omega
        obtain ⟨j, hj⟩ : ∃ j : Nat, Lib.index r [c] = j := ⟨(Lib.index r [c]).toNat, by omega⟩
        have hb : (Lib.index r [c] == -1) = false := by simpa using hm
        rw [hb]
        simp only [Bool.false_eq_true, if_false]
        rw [if_pos (by omega), if_pos h0, hj]
        have e1 : ((j : Int) + 1).toNat = j + 1 := by omega
        rw [e1, Int.toNat_natCast]
        simp
end Go.Proofs.YthobmfnmenbkeaaDoor.Tg
end
/- The program's 'isHost', walked. -/
section
set_option linter.unusedVariables false
set_option linter.unusedSimpArgs false
namespace Go.Proofs.YthobmfnmenbkeaaDoor
open Go.RowKit Tg

theorem host_ascii : ∀ c : UInt8, hostB c = true → c.toNat < 128 := all_bytes _ (by decide +kernel)
theorem host_1 : ∀ c : UInt8, isLet c = true → hostB c = true := all_bytes _ (by decide +kernel)
theorem host_2 : ∀ c : UInt8, isDig c = true → hostB c = true := all_bytes _ (by decide +kernel)
theorem host_3 : ∀ c : UInt8, 0 ≤ Lib.indexByte [45, 46, 95, 58] c → hostB c = true := all_bytes _ (by decide +kernel)
theorem host_4 : ∀ c : UInt8, isLet c = false → isDig c = false → Lib.indexByte [45, 46, 95, 58] c < 0 → hostB c = false := all_bytes _ (by decide +kernel)
theorem all_drop (s : ByteArray) (k : Nat) (hk : k < s.size) (h : hostB s[k] = false) : s.data.toList.all hostB = false := by
  rw [List.all_eq_false]
  exact ⟨s[k], by have := List.mem_of_mem_take (i := k + 1) (a := s[k]) (l := s.data.toList) (by rw [take_snoc s k hk]; simp); exact this, by simp [h]⟩

theorem isHost_calls (s : ByteArray) (w : World) (hs : s.size ≤ 140737488355328) : Calls Tryd.prog 31 #[.string s] w fun e w' => e = .returned (.bool (isHost s.data.toList)) ∧ w = w' := by
  go_enter Tryd.func31, Tryd.ntmps31
  go_wp2
  go_loop [6] (fun i => ∃ k : Nat, k ≤ s.size ∧ i = .int .i64 k ∧ (s.data.toList.take k).all hostB = true) (fun i => s.size - (intOf i).toNat)
  case atStart => exact ⟨0, Nat.zero_le _, rfl, rfl⟩
  case round =>
    obtain ⟨k, hk, rfl, hno⟩ := hrel
    have HNO := Lib.hid hno
    clear hno
    by_cases hlt : k < s.size
    · have HT := Lib.hid (take_snoc s k hlt)
      go_wp2_with (first | (go_at_call 63; refine (letter_calls _ _).mono ?_; rintro e w' ⟨rfl, rfl⟩) | (go_at_call 64; refine (digit_calls _ _).mono ?_; rintro e w' ⟨rfl, rfl⟩) | (go_at_call 65; refine (indexByte_calls _ _ _).mono ?_; rintro e w' ⟨rfl, rfl⟩))
      · exact ⟨⟨k + 1, by omega, by go_num, by rw [HT.out, List.all_append, HNO.out]; simp [host_1 _ ‹isLet s[k] = true›]⟩, by simp [intOf]; omega⟩
      · exact ⟨⟨k + 1, by omega, by go_num, by rw [HT.out, List.all_append, HNO.out]; simp [host_2 _ ‹isDig s[k] = true›]⟩, by simp [intOf]; omega⟩
      · go_ret
        refine ⟨ret_bool ?_, rfl⟩
        have h := all_drop s k hlt (host_4 _ (by simpa using ‹¬isLet s[k] = true›) (by simpa using ‹¬isDig s[k] = true›) ‹_›)
        unfold isHost
        rw [h]; rfl
      · exact ⟨⟨k + 1, by omega, by go_num, by rw [HT.out, List.all_append, HNO.out]; simp [host_3 _ ‹0 ≤ Lib.indexByte [45, 46, 95, 58] s[k]›]⟩, by simp [intOf]; omega⟩
    · have HA := Lib.hid (take_all s hlt)
      have HH := Lib.hid (show isHost s.data.toList = (decide (1 ≤ s.size) && decide (s.size ≤ 255)) by
        have := HNO.out
        rw [HA.out] at this
        unfold isHost
        rw [this, len]; simp)
      go_wp2
      · go_ret
        refine ⟨ret_bool ?_, rfl⟩
        rw [HH.out]
        have : 1 ≤ s.size := by have : (1 : Int) ≤ s.size := ‹_›; omega
        simp [this]; omega
      · go_ret
        refine ⟨ret_bool ?_, rfl⟩
        rw [HH.out]
        have : ¬ 1 ≤ s.size := by have : (s.size : Int) < 1 := ‹_›; omega
        simp [this]
end Go.Proofs.YthobmfnmenbkeaaDoor
end
/- The program's 'Encode' and 'Decode', walked. -/
section
set_option linter.unusedVariables false
set_option linter.unusedSimpArgs false
namespace Go.Proofs.YthobmfnmenbkeaaDoor
open Go.RowKit Tg

/-- a strings.Builder of the call's own, in block b, that holds the bytes l -/
def Bld (B b : Nat) (l : List UInt8) (w : World) : Prop := Lib.IsBuilderF 66 5 B b (Lib.byteCells l) w

theorem bld_new (w : World) : Bld w.heap.size w.heap.size [] (w.alloc (.cells #[.pointer none, .slice none 0 0] 66)) := Lib.IsBuilderF.of (Lib.fresh_isBuilder 66 5 w)
theorem bld_drewN {B b : Nat} {l : List UInt8} {w : World} (h : Bld B b l w) (n : Nat) : Bld B b l (w.drewN n) := h
theorem bld_dr {B b : Nat} {l : List UInt8} {w w' : World} (h : Bld B b l w) (d : Dr w w') : Bld B b l w' := by obtain ⟨n, rfl⟩ := d; exact h
theorem bld_byte {B b : Nat} {l : List UInt8} {w : World} (c : UInt8) (h : Bld B b l w) (hl : l.length + 1 ≤ 140737488355328) (hB : B ≤ w.heap.size) :
    Calls Tryd.prog 40 #[.pointer (some ⟨b, 0, none⟩), .int .u8 c.toNat] w fun e w' => e = .returned .nilIface ∧ Bld B b (l ++ [c]) w' ∧ Below B w w' :=
  (Tryd.Builder_WriteByte_k B b _ c.toNat w h (by rw [Lib.byteCells_length]; exact hl) hB).mono fun e w' ⟨h1, h2, h3, _⟩ => ⟨h1, .inr (by rw [Lib.byteCells_append]; exact h2), h3⟩
theorem bld_str {B b : Nat} {l : List UInt8} {w : World} (t : ByteArray) (h : Bld B b l w) (hl : l.length + t.size ≤ 140737488355328) (hB : B ≤ w.heap.size) :
    Calls Tryd.prog 42 #[.pointer (some ⟨b, 0, none⟩), .string t] w fun e w' => e = .returned (.tuple #[.int .i64 t.size, .nilIface]) ∧ Bld B b (l ++ t.data.toList) w' ∧ Below B w w' :=
  (Tryd.Builder_WriteString_k B b _ t w h (by rw [Lib.byteCells_length]; exact hl) hB).mono fun e w' ⟨h1, h2, h3, _⟩ => ⟨h1, .inr (by rw [Lib.byteCells_append]; exact h2), h3⟩
theorem bld_done {B b : Nat} {l : List UInt8} {w : World} (h : Bld B b l w) (hB : B ≤ w.heap.size) :
    Calls Tryd.prog 45 #[.pointer (some ⟨b, 0, none⟩)] w fun e w' => e = .returned (.string ⟨l.toArray⟩) ∧ Below B w w' :=
  (Tryd.Builder_String_any_k B b l w h hB).mono fun e w' ⟨h1, _, h3, _⟩ => ⟨h1, h3⟩
theorem below_dr {B : Nat} {w w' w'' : World} (h : Below B w w') (d : Dr w' w'') : Below B w w'' := by
  obtain ⟨n, rfl⟩ := d
  exact ⟨h.os, h.tape, h.output, h.size, h.block⟩
theorem below_of_dr {w w' : World} (d : Dr w w') (B : Nat) : Below B w w' := below_dr (Below.refl _ _) d
theorem below_new (w : World) (o : Obj) : Below w.heap.size w (w.alloc o) := (Below.refl _ _).alloc (Nat.le_refl _) o

theorem encode_snoc (l : List UInt8) (c : UInt8) : encode (l ++ [c]) = encode l ++ (if unres c then [c] else coded c) := by simp [encode]
theorem encode_len (l : List UInt8) : (encode l).length ≤ 3 * l.length := by
  induction l with
  | nil => simp [encode]
  | cons c r ih =>
    unfold encode at ih ⊢
    rw [List.flatMap_cons, List.length_append, List.length_cons]
    have : (if unres c then [c] else coded c).length ≤ 3 := by split <;> simp [coded]
    omega

theorem encode_calls (s : ByteArray) (w : World) (hs : s.size ≤ 4294967280) : Calls Tryd.prog 23 #[.string s] w fun e w' => e = .returned (.string ⟨(encode s.data.toList).toArray⟩) ∧ Below w.heap.size w w' := by
  go_enter Tryd.func23, Tryd.ntmps23
  go_wp2
  have hb0 := bld_new w
  have hbl := below_new w (.cells #[.pointer none, .slice none 0 0] 66)
  have HB0 := Lib.hid hb0
  have HBL := Lib.hid hbl
  clear hb0 hbl
  go_loopw [7] (fun i wr => ∃ k : Nat, k ≤ s.size ∧ i = .int .i64 k ∧ Bld w.heap.size w.heap.size (encode (s.data.toList.take k)) wr ∧ Below w.heap.size w wr) (fun i _ => s.size - (intOf i).toNat)
  case atStart => exact ⟨0, Nat.zero_le _, rfl, by simpa [encode] using HB0.out, HBL.out⟩
  case round =>
    obtain ⟨k, hk, rfl, hb, hbw⟩ := hrel
    by_cases hlt : k < s.size
    · have HT := Lib.hid (take_snoc s k hlt)
      have hlen := encode_len (s.data.toList.take k)
      have hlen2 : (s.data.toList.take k).length ≤ k := List.length_take_le _ _
      have hz := hbw.size
      have HS := Lib.hid (encode_snoc (s.data.toList.take k) s[k])
      cases hu : unres s[k] with
      | true =>
        go_wp2_with (first | (go_at_call 41; refine (unreserved_calls _ _).mono ?_; rw [hu]; rintro e w' ⟨rfl, rfl⟩) | (go_at_call 40; refine (bld_byte _ hb (by omega) hz).mono ?_; rintro e w' ⟨rfl, hb', hbl'⟩))
        exact ⟨⟨k + 1, by omega, by go_num, by rw [HT.out, HS.out, hu]; exact hb', hbw.trans hbl'⟩, by simp [intOf]; omega⟩
      | false =>
        go_wp2_with fail
        refine (unreserved_calls _ _).mono ?_
        rw [hu]
        rintro e w' ⟨rfl, rfl⟩
        go_wp2_with fail
        refine (coded_calls _ _).mono ?_
        rintro e w' ⟨rfl, hd⟩
        have hb1 := bld_dr hb hd
        have hz1 := (below_dr hbw hd).size
        go_wp2_with fail
        refine (bld_str _ hb1 (by show _ + (coded _).length ≤ _; simp [coded]; omega) hz1).mono ?_
        rintro e w' ⟨rfl, hb', hbl'⟩
        go_wp2_with fail
        exact ⟨⟨k + 1, by omega, by go_num, by rw [HT.out, HS.out, hu]; exact hb', (below_dr hbw hd).trans hbl'⟩, by simp [intOf]; omega⟩
    · have HA := Lib.hid (take_all s hlt)
      have hz := hbw.size
      go_wp2_with (first | (go_at_call 45; refine (bld_done hb hz).mono ?_; rintro e w' ⟨rfl, hbl'⟩))
      go_ret
      exact ⟨ret_str (by rw [HA.out]), hbw.trans hbl'⟩

/-- an error by its number, as a value -/
def errV (n : Int) : Value := if n = 0 then .nilIface else .iface 56 (.int .i64 n)
/-- a text and an error -/
def textOr (r : Option (List UInt8)) (n : Int) : Value := match r with
  | some d => .tuple #[.string ⟨d.toArray⟩, .nilIface]
  | none => .tuple #[.string ⟨#[]⟩, .iface 56 (.int .i64 n)]

section
variable (s : ByteArray) (k : Nat)
theorem dec_some {v : UInt8} (hk : k < s.size) (hp : s[k] = 37) (hc : code (s.data.toList.drop k) = some v) : k + 2 < s.size ∧ decoded (s.data.toList.drop k) = (decoded (s.data.toList.drop (k + 3))).map (v :: ·) := by
  have h2 := (made_some slash true s k hk hp hc).1
  refine ⟨h2, ?_⟩
  rw [drop3 s k h2, hp] at hc ⊢
  rw [code_cons, if_pos rfl] at hc
  rw [decode_code hc]
theorem dec_none (hk : k < s.size) (hp : s[k] = 37) (hc : code (s.data.toList.drop k) = none) : decoded (s.data.toList.drop k) = none := by
  by_cases h2 : k + 2 < s.size
  · rw [drop3 s k h2, hp] at hc ⊢
    rw [code_cons, if_pos rfl] at hc
    rw [decoded, if_pos rfl]; simp only [hc]
  · rw [drop_at s k hk, hp]
    have hl : (s.data.toList.drop (k + 1)).length < 2 := by simp; omega
    match s.data.toList.drop (k + 1), hl with
    | [], _ => rfl
    | [_], _ => rfl
    | _ :: _ :: _, h => simp at h; omega
theorem dec_other (hk : k < s.size) (hp : s[k] ≠ 37) : decoded (s.data.toList.drop k) = (decoded (s.data.toList.drop (k + 1))).map (s[k] :: ·) := by
  rw [drop_at s k hk, decode_byte hp]
end
theorem map_cons_app (o : Option (List UInt8)) (pre : List UInt8) (v : UInt8) : (o.map (v :: ·)).map (pre ++ ·) = o.map (pre ++ [v] ++ ·) := by cases o <;> simp
theorem ret_tuple {a b : Value} (h : a = b) : Ending.returned a = .returned b := by rw [h]

theorem decode_calls (s : ByteArray) (w : World) (hs : s.size ≤ 140737488355328) : Calls Tryd.prog 19 #[.string s] w fun e w' => e = .returned (textOr (decoded s.data.toList) 23) ∧ Below w.heap.size w w' := by
  go_enter Tryd.func19, Tryd.ntmps19
  go_wp2
  have hb0 := bld_new w
  have hbl := below_new w (.cells #[.pointer none, .slice none 0 0] 66)
  have HB0 := Lib.hid hb0
  have HBL := Lib.hid hbl
  clear hb0 hbl
  go_loopw [5] (fun i wr => ∃ (k : Nat) (pre : List UInt8), k ≤ s.size ∧ i = .int .i64 k ∧ pre.length ≤ k ∧ decoded s.data.toList = (decoded (s.data.toList.drop k)).map (pre ++ ·) ∧ Bld w.heap.size w.heap.size pre wr ∧ Below w.heap.size w wr) (fun i _ => s.size - (intOf i).toNat)
  case atStart => exact ⟨0, [], Nat.zero_le _, rfl, Nat.zero_le _, by simp, HB0.out, HBL.out⟩
  case round =>
    obtain ⟨k, pre, hk, rfl, hpl, hno, hb, hbw⟩ := hrel
    have HNO := Lib.hid hno
    clear hno
    have hz := hbw.size
    by_cases hlt : k < s.size
    · by_cases hp : s[k] = 37
      · have hq := byte_beq1 hp
        cases hc : code (s.data.toList.drop k) with
        | none =>
          have HM := Lib.hid (dec_none s k hlt hp hc)
          have hcs : (code (s.data.toList.drop k)).isSome = false := by rw [hc]; rfl
          clear hp hc
          go_wp2_with (first | (go_at_call 39; refine (code_calls _ _ _ hs hlt).mono ?_; rintro e w' ⟨rfl, rfl⟩))
          go_ret2
          exact ⟨ret_tuple (by rw [HNO.out, HM.out]; rfl), hbw⟩
        | some v =>
          obtain ⟨h2, hm⟩ := dec_some s k hlt hp hc
          have HM := Lib.hid hm
          have hcs : (code (s.data.toList.drop k)).isSome = true := by rw [hc]; rfl
          have HR := Lib.hid (code_raw hc)
          clear hp hc hm
          go_wp2_with fail
          refine (code_calls _ _ _ hs hlt).mono ?_
          rintro e w' ⟨rfl, rfl⟩
          go_wp2_with fail
          refine (bld_byte _ hb (by omega) hz).mono ?_
          rintro e w' ⟨rfl, hb', hbl'⟩
          go_wp2_with fail
          exact ⟨⟨k + 3, pre ++ [v], by omega, by go_num, by simp; omega, by rw [HNO.out, HM.out, map_cons_app], by rw [← HR.out]; exact hb', hbw.trans hbl'⟩, by simp [intOf]; omega⟩
      · have hq := byte_bne1 hp
        have HM := Lib.hid (dec_other s k hlt hp)
        clear hp
        go_wp2_with (first | (go_at_call 40; refine (bld_byte _ hb (by omega) hz).mono ?_; rintro e w' ⟨rfl, hb', hbl'⟩))
        exact ⟨⟨k + 1, pre ++ [s[k]], by omega, by go_num, by simp; omega, by rw [HNO.out, HM.out, map_cons_app], hb', hbw.trans hbl'⟩, by simp [intOf]; omega⟩
    · go_wp2_with (first | (go_at_call 45; refine (bld_done hb hz).mono ?_; rintro e w' ⟨rfl, hbl'⟩))
      go_ret2
      exact ⟨ret_tuple (by rw [HNO.out, List.drop_of_length_le (by simp; omega), decode_nil]; simp [textOr]), hbw.trans hbl'⟩
end Go.Proofs.YthobmfnmenbkeaaDoor
end
/- strings.Split at one byte, in the words of this seat's laws. -/
section
set_option linter.unusedVariables false
set_option linter.unusedSimpArgs false
namespace Go.Proofs.YthobmfnmenbkeaaDoor
open Go.RowKit Tg

theorem index_cons (x c : UInt8) (r : List UInt8) (h : x ≠ c) : Lib.index (x :: r) [c] = if Lib.index r [c] == -1 then -1 else Lib.index r [c] + 1 := by
  have hp : ([c] : List UInt8).isPrefixOf (x :: r) = false := by simp [List.isPrefixOf, Ne.symm h]
  rw [Lib.index, hp]; simp
theorem index_head (c : UInt8) (r : List UInt8) : Lib.index (c :: r) [c] = 0 := by
  rw [Lib.index]; simp [List.isPrefixOf]
theorem index_count (c : UInt8) : ∀ r : List UInt8, Lib.index r [c] = -1 ↔ r.count c = 0
  | [] => by simp [Lib.index]
  | x :: r => by
    by_cases h : x = c
    · subst h; rw [index_head]; simp
    · have ih := index_count c r
      have hg := Lib.index_ge r [c]
      rw [index_cons x c r h, List.count_cons_of_ne (by simpa using h)]
      constructor
      · intro e
        split at e
        · rename_i h1; exact ih.1 (by simpa using h1)
        · rename_i h1; simp at h1; omega
      · intro e
        rw [if_pos (by simpa using ih.2 e)]
theorem splitK_cuts (c : UInt8) : ∀ s : List UInt8, Lib.splitK [c] 0 (s.count c) s = cuts c s
  | [] => rfl
  | x :: r => by
    have ih := splitK_cuts c r
    by_cases h : x = c
    · subst h
      rw [List.count_cons_self, Lib.splitK, index_head, cuts_cons_eq]
      simpa using ih
    · rw [List.count_cons_of_ne (by simpa using h)]
      obtain ⟨hd, tl, e⟩ := cuts_form c r
      rw [cuts_cons_ne h e]
      cases hn : r.count c with
      | zero =>
        rw [hn] at ih
        rw [Lib.splitK] at ih ⊢
        rw [e] at ih
        simp only [List.cons.injEq] at ih
        rw [ih.1, ih.2]
      | succ m =>
        rw [hn, Lib.splitK] at ih
        have hne : ¬ Lib.index r [c] = -1 := fun k => by have := (index_count c r).1 k; omega
        have hg := Lib.index_ge r [c]
        obtain ⟨j, hj⟩ : ∃ j : Nat, Lib.index r [c] = j := ⟨(Lib.index r [c]).toNat, by omega⟩
        rw [if_neg (by simpa using hne), e] at ih
        rw [Lib.splitK, index_cons x c r h]
        have hnb : ¬ (Lib.index r [c] == -1) = true := by simpa using hne
        rw [if_neg hnb, if_neg (by simp; omega)]
        rw [hj] at ih ⊢
        simp only [List.cons.injEq] at ih
        have e1 : ((j : Int) + 1).toNat = j + 1 := by omega
        rw [e1]
        simp only [Int.toNat_natCast, Nat.add_zero, List.length_cons, List.length_nil, Nat.zero_add] at ih ⊢
        rw [List.take_succ_cons, ih.1]
        have : List.drop (j + 1 + 1) (x :: r) = List.drop (j + 1) r := rfl
        rw [this, ih.2]

theorem countB_one (s : ByteArray) (c : UInt8) : Lib.countB s ⟨#[c]⟩ = s.data.toList.count c := Lib.count_one c s.data.toList
theorem split_data (s : ByteArray) (c : UInt8) : (Lib.splitB ⟨#[c]⟩ 0 (Lib.countB s ⟨#[c]⟩) s).map (·.data.toList) = cuts c s.data.toList := by
  rw [Lib.splitB_data, countB_one]; exact splitK_cuts c s.data.toList

theorem split_calls (s : ByteArray) (c : UInt8) (w : World) (hs : s.size < 4294967281) (hr : ∃ m, w.cell? ⟨1, 0, none⟩ = some (.int .i64 m)) : Calls Tryd.prog 44 #[.string s, .string ⟨#[c]⟩] w fun e w' =>
    ∃ l : List ByteArray, l.map (·.data.toList) = cuts c s.data.toList ∧ e = .returned (.slice (some ⟨w.heap.size, 0, none⟩) l.length l.length) ∧ w' = w.alloc (.cells (l.map Value.string).toArray 9) := by
  obtain ⟨m, hm⟩ := hr
  refine (Tryd.strings_Split s ⟨#[c]⟩ m w hs hm (Nat.le_refl 1)).mono ?_
  rintro e w' ⟨h1, h2⟩
  refine ⟨_, split_data s c, ?_, h2⟩
  rw [h1, Lib.splitB_all ⟨#[c]⟩ (Nat.le_refl 1) 0 _ s rfl]
end Go.Proofs.YthobmfnmenbkeaaDoor
end
/- The program's 'Normal', walked. -/
section
set_option linter.unusedVariables false
set_option linter.unusedSimpArgs false
namespace Go.Proofs.YthobmfnmenbkeaaDoor
open Go.RowKit Tg

/-- the library's variables that the calls read: one holds some number, the others their tables -/
structure Rdy (w : World) : Prop where mk :: (out : ∃ m, w.cell? ⟨1, 0, none⟩ = some (.int .i64 m)) (cas : Lib.CaseVar 0 Lib.caseA w) (utf : Lib.Utf8Tabs 2 3 w)
theorem Rdy.below {w w' : World} (h : Rdy w) (hb : Below w.heap.size w w') : Rdy w' := by
  obtain ⟨m, hm⟩ := h.out
  exact ⟨⟨m, (hb.cell (p := ⟨1, 0, none⟩) (World.block_lt_of_cell? w _ hm)).trans hm⟩, Lib.CaseVar_below h.cas hb, Utf8Tabs_below h.utf hb⟩
theorem Rdy.lt {w : World} (h : Rdy w) : 1 < w.heap.size := by
  obtain ⟨m, hm⟩ := h.out
  exact World.block_lt_of_cell? w _ hm

theorem meant_none {c : UInt8} {r : List UInt8} (h : code (c :: r) = none) : meant (c :: r) = c :: meant r := by
  match r with
  | [] => simp [meant]
  | [x] => simp [meant]
  | x :: y :: r =>
    rw [code_cons] at h
    rw [meant]
    have : code [c, x, y] = none := by rw [code_cons]; exact h
    rw [this]
theorem mean_none (s : ByteArray) (k : Nat) (hk : k < s.size) (hc : code (s.data.toList.drop k) = none) : meant (s.data.toList.drop k) = s[k] :: meant (s.data.toList.drop (k + 1)) := by
  rw [drop_at s k hk] at hc ⊢
  exact meant_none hc
theorem code_37_of {l : List UInt8} {v : UInt8} (h : code l = some v) : ∃ r, l = 37 :: r := by
  match l, h with
  | p :: x :: y :: r, h =>
    rw [code_cons] at h
    split at h
    · rename_i e; subst e; exact ⟨_, rfl⟩
    · cases h
theorem mean_some (s : ByteArray) (k : Nat) {v : UInt8} (hk : k < s.size) (hc : code (s.data.toList.drop k) = some v) :
    k + 2 < s.size ∧ meant (s.data.toList.drop k) = (if unres v then [v] else coded v) ++ meant (s.data.toList.drop (k + 3)) := by
  have hp : s[k] = 37 := by
    obtain ⟨r, hr⟩ := code_37_of hc
    rw [drop_at s k hk] at hr
    exact (List.cons.inj hr).1
  have h2 := (made_some slash true s k hk hp hc).1
  refine ⟨h2, ?_⟩
  rw [drop3 s k h2, hp] at hc ⊢
  rw [code_cons, if_pos rfl] at hc
  rw [meant_code hc]

theorem path_head {l : List UInt8} (h : isPath l = true) : ∃ t, meant l = 47 :: t := by
  cases l with
  | nil => simp [isPath] at h
  | cons c r => simp [isPath] at h; obtain ⟨rfl, _⟩ := h; exact ⟨_, meant_byte (by decide) r⟩
theorem str_tail (t : List UInt8) : (⟨(47 :: t).toArray⟩ : ByteArray).extract 1 (t.length + 1) = ⟨t.toArray⟩ := by
  apply ByteArray.ext
  apply Array.ext'
  rw [Lib.extract_data]
  simp

theorem cuts_len (c : UInt8) : ∀ l : List UInt8, (cuts c l).length ≤ l.length + 1
  | [] => by simp [cuts]
  | x :: r => by
    have ih := cuts_len c r
    by_cases h : x = c
    · subst h; rw [cuts_cons_eq]; simp; exact ih
    · obtain ⟨hd, tl, e⟩ := cuts_form c r
      rw [e] at ih
      rw [cuts_cons_ne h e]; simp at ih ⊢; omega
theorem strs_cell (w : World) (l : List ByteArray) (j : Nat) (hj : j < l.length) : (w.alloc (.cells (l.map Value.string).toArray 9)).cell? ⟨w.heap.size, j, none⟩ = some (.string l[j]) := by
  rw [World.cell?_alloc_new]
  simp [hj]

theorem own_slice {w : World} {base n : Nat} {e : TypeId} {size : Nat} {v : Value} {xs : List Value} (h : w.ownsRow base e size v n xs) : ∃ A c, v = .slice A n c := by
  rcases h.2 with ⟨rfl, rfl⟩ | ⟨g, cap, cur, rfl, _⟩
  · exact ⟨none, 0, rfl⟩
  · exact ⟨_, cap, rfl⟩
theorem own_base {w : World} {base : Nat} {e : TypeId} {size n : Nat} {v : Value} {xs : List Value} (h : w.ownsRow base e size v n xs) (k : Nat) (hk : v.ownBlock = some k) : base ≤ k := by
  rcases h.2 with ⟨rfl, _⟩ | ⟨g, cap, cur, rfl, hb, _⟩
  · simp [Value.ownBlock] at hk
  · have : g = k := by simpa [Value.ownBlock] using hk
    omega
theorem own_form {w : World} {base n : Nat} {e : TypeId} {size : Nat} {v : Value} {xs : List Value} (h : w.ownsRow base e size v n xs) (hn : 0 < n) :
    ∃ g cap, v = .slice (some ⟨g, 0, none⟩) n cap ∧ base ≤ g ∧ g < w.heap.size ∧ n ≤ cap ∧ cap ≤ maxLen := by
  rcases h.2 with ⟨_, h0⟩ | ⟨g, cap, cur, rfl, hb, hh, h1, h2, _⟩
  · omega
  · exact ⟨g, cap, rfl, hb, (Array.getElem?_eq_some_iff.1 hh).1, h1, h2⟩
theorem info9 : (Tryd.prog.info? 9).map (fun i => (i.zero, i.size, i.bytes)) = some (some (.string ⟨#[]⟩), 1, 16) := by kernel_rfl
theorem str_is {s : ByteArray} {x : List UInt8} (h : s.data.toList = x) : (s.toList == x) = true := by rw [ByteArray.toList_eq, h]; simp
theorem str_not {s : ByteArray} {x : List UInt8} (h : ¬ s.data.toList = x) : (s.toList == x) = false := by rw [ByteArray.toList_eq]; simpa using h
theorem drop_last (l : List ByteArray) (j : Nat) (hj : j + 1 = l.length) : (l.map (·.data.toList)).drop (j + 1) = [] := List.drop_of_length_le (by simp; omega)
theorem drop_ne (l : List ByteArray) (j : Nat) (hj : j + 1 < l.length) : (l.map (·.data.toList)).drop (j + 1) ≠ [] := by
  intro h
  have := congrArg List.length h
  simp at this; omega
theorem join_glue (l : List (List UInt8)) (h : l ≠ []) : 47 :: Lib.join l [47] = glue l := by
  cases l with
  | nil => exact absurd rfl h
  | cons a r =>
    rw [Lib.join_cons, glue_cons, Lib.joinTail]
    congr 2
theorem str_cons (l : List UInt8) : (⟨#[47]⟩ ++ ⟨l.toArray⟩ : ByteArray) = ⟨(47 :: l).toArray⟩ := by
  apply ByteArray.ext
  apply Array.ext'
  simp
theorem add_plain (g j : Nat) : (⟨g, 0, none⟩ : Addr).add j = ⟨g, j, none⟩ := by unfold Addr.add; split <;> simp_all
theorem segs_drop (l : List ByteArray) (j : Nat) (hj : j < l.length) : (l.map (·.data.toList)).drop j = l[j].data.toList :: (l.map (·.data.toList)).drop (j + 1) := by
  rw [List.drop_eq_getElem_cons (by simpa using hj)]; simp

set_option maxHeartbeats 4000000 in
theorem normal_no (s : ByteArray) (w : World) (hs : s.size ≤ 140737488355328) (hp : isPath s.data.toList = false) : Calls Tryd.prog 14 #[.string s] w fun e w' => e = .returned (textOr (normal s.data.toList) 23) ∧ Below w.heap.size w w' := by
  have HN := Lib.hid (show normal s.data.toList = none by unfold normal segs; rw [hp]; rfl)
  have HP := Lib.hid hp
  clear hp
  go_enter Tryd.func14, Tryd.ntmps14
  go_wp2_with (first | (go_at_call 33; refine (isPath_calls _ _ hs).mono ?_; rw [HP.out]; rintro e w' ⟨rfl, rfl⟩))
  go_ret2
  exact ⟨ret_tuple (by rw [HN.out]; rfl), Below.refl _ _⟩

set_option maxRecDepth 100000 in
set_option maxHeartbeats 4000000 in
theorem normal_yes (s : ByteArray) (w : World) (hs : s.size ≤ 4294967280) (hr : Rdy w) (hp : isPath s.data.toList = true) : Calls Tryd.prog 14 #[.string s] w fun e w' => e = .returned (textOr (normal s.data.toList) 23) ∧ Below w.heap.size w w' := by
  have HP := Lib.hid hp
  clear hp
  have hs' : s.size ≤ 140737488355328 := by omega
  go_enter Tryd.func14, Tryd.ntmps14
  go_wp2_with (first | (go_at_call 33; refine (isPath_calls _ _ hs').mono ?_; rw [HP.out]; rintro e w' ⟨rfl, rfl⟩))
  have HB0 := Lib.hid (bld_new w)
  have HBL := Lib.hid (below_new w (.cells #[.pointer none, .slice none 0 0] 66))
  go_loopw [5] (fun i wr => ∃ (k : Nat) (pre : List UInt8), k ≤ s.size ∧ i = .int .i64 k ∧ pre.length ≤ k ∧ meant s.data.toList = pre ++ meant (s.data.toList.drop k) ∧ Bld w.heap.size w.heap.size pre wr ∧ Below w.heap.size w wr) (fun i _ => s.size - (intOf i).toNat)
  case atStart => exact ⟨0, [], Nat.zero_le _, rfl, Nat.zero_le _, by simp, HB0.out, HBL.out⟩
  case round =>
    obtain ⟨k, pre, hk, rfl, hpl, hno, hb, hbw⟩ := hrel
    have HNO := Lib.hid hno
    clear hno
    have hz := hbw.size
    by_cases hlt : k < s.size
    · cases hc : code (s.data.toList.drop k) with
      | none =>
        have HM := Lib.hid (mean_none s k hlt hc)
        have hcs : (code (s.data.toList.drop k)).isSome = false := by rw [hc]; rfl
        clear hc
        go_wp2_with (first | (go_at_call 39; refine (code_calls _ _ _ hs' hlt).mono ?_; rintro e w' ⟨rfl, rfl⟩) | (go_at_call 40; refine (bld_byte _ hb (by omega) hz).mono ?_; rintro e w' ⟨rfl, hb', hbl'⟩))
        exact ⟨⟨k + 1, pre ++ [s[k]], by omega, by go_num, by simp; omega, by rw [HNO.out, HM.out]; simp, hb', hbw.trans hbl'⟩, by simp [intOf]; omega⟩
      | some v =>
        obtain ⟨h2, hm⟩ := mean_some s k hlt hc
        have HM := Lib.hid hm
        have hcs : (code (s.data.toList.drop k)).isSome = true := by rw [hc]; rfl
        have HR := Lib.hid (code_raw hc)
        clear hc hm
        go_wp2_with fail
        refine (code_calls _ _ _ hs' hlt).mono ?_
        rintro e w' ⟨rfl, rfl⟩
        go_wp2_with fail
        refine (unreserved_calls _ _).mono ?_
        cases hu : unres v with
        | true =>
          rw [HR.out, hu]
          rintro e w' ⟨rfl, rfl⟩
          go_wp2_with fail
          refine (bld_byte _ hb (by omega) hz).mono ?_
          rintro e w' ⟨rfl, hb', hbl'⟩
          go_wp2_with fail
          exact ⟨⟨k + 3, pre ++ [v], by omega, by go_num, by simp; omega, by rw [HNO.out, HM.out, hu]; simp, hb', hbw.trans hbl'⟩, by simp [intOf]; omega⟩
        | false =>
          rw [HR.out, hu]
          rintro e w' ⟨rfl, rfl⟩
          go_wp2_with fail
          refine (coded_calls _ _).mono ?_
          rintro e w' ⟨rfl, hd⟩
          have hb1 := bld_dr hb hd
          have hz1 := (below_dr hbw hd).size
          go_wp2_with fail
          refine (bld_str _ hb1 (by show _ + (coded _).length ≤ _; simp [coded]; omega) hz1).mono ?_
          rintro e w' ⟨rfl, hb', hbl'⟩
          go_wp2_with fail
          exact ⟨⟨k + 3, pre ++ coded v, by omega, by go_num, by simp [coded]; omega, by rw [HNO.out, HM.out, hu]; simp, hb', (below_dr hbw hd).trans hbl'⟩, by simp [intOf]; omega⟩
    · have HM := Lib.hid (show meant s.data.toList = pre by rw [HNO.out, List.drop_of_length_le (by simp; omega), meant_nil, List.append_nil])
      obtain ⟨t, ht⟩ := path_head HP.out
      obtain rfl : pre = 47 :: t := by rw [← HM.out]; exact ht
      have ht1 : t.length + 1 ≤ k := by simpa using hpl
      have HX := Lib.hid (str_tail t)
      clear HNO hpl ht
      go_wp2_with fail
      refine (bld_done hb hz).mono ?_
      rintro e w2 ⟨rfl, hbl'⟩
      have hbw2 := hbw.trans hbl'
      have hr2 := (hr.below hbw2).out
      go_wp2_with fail
      rw [HX.out]
      refine (split_calls _ 47 _ (by show t.length < _; omega) hr2).mono ?_
      rintro e w3 ⟨l, hl, rfl, rfl⟩
      have hl' : l.map (·.data.toList) = cuts 47 t := hl
      have HLL := Lib.hid hl'
      have hll : l.length ≤ t.length + 1 := by
        have h1 := congrArg List.length hl'
        rw [List.length_map] at h1
        rw [h1]; exact cuts_len 47 t
      have hl0 : 0 < l.length := by
        have h1 := congrArg List.length hl'
        rw [List.length_map] at h1
        rw [h1]; exact List.length_pos_iff.2 (cuts_ne 47 t)
      have HSG := Lib.hid (show segs s.data.toList = dots [] (l.map (·.data.toList)) by
        unfold segs; rw [if_pos HP.out, HM.out, HLL.out]; rfl)
      have hcl := fun j (hj : j < l.length) => strs_cell w2 l j hj
      obtain ⟨wb, hwb⟩ : ∃ wb, wb = w2.alloc (.cells (l.map Value.string).toArray 9) := ⟨_, rfl⟩
      have hbw3 : Below w.heap.size w wb := by rw [hwb]; exact hbw2.alloc hbw2.size _
      have hlt3 : w2.heap.size < wb.heap.size := by rw [hwb]; simp
      rw [← hwb] at hcl ⊢
      have HCL := Lib.hid hcl
      clear hl hl' hcl hwb
      go_wp2_with fail
      go_loopw [9, 51] (fun ov i wr => ∃ (k : Nat) (outs : List ByteArray), k ≤ l.length ∧ i = .int .i64 k ∧ wr.ownsRow wb.heap.size 9 1 ov outs.length (outs.map Value.string) ∧
        dots [] (l.map (·.data.toList)) = dots (outs.map (·.data.toList)) ((l.map (·.data.toList)).drop k) ∧ outs.length ≤ k ∧ Below wb.heap.size wb wr) (fun _ i _ => l.length - (intOf i).toNat)
      case atStart => exact ⟨0, [], Nat.zero_le _, rfl, World.ownsRow_nil _ _ _ _, rfl, Nat.zero_le _, Below.refl _ _⟩
      case round =>
        obtain ⟨j, outs, hj, rfl, hown, hdt, hol, hbb⟩ := hrel
        have HDT := Lib.hid hdt
        clear hdt
        have hz4 := hbb.size
        have hz3 := hbw3.size
        by_cases hjl : j < l.length
        · have hc := (hbb.cell (p := ⟨w2.heap.size, j, none⟩) hlt3).trans (HCL.out j hjl)
          have HSD := Lib.hid (segs_drop l j hjl)
          obtain ⟨i0, hi, hz0, hz1, hz2⟩ := info_parts info9
          have hjs : j + 1 ≤ l.length := hjl
          by_cases h2 : l[j].data.toList = [46, 46]
          · have e2 := str_is h2
            have H2 := Lib.hid h2
            clear h2
            rcases List.eq_nil_or_concat outs with rfl | ⟨init, x, hx⟩
            · obtain ⟨A, c, rfl⟩ := own_slice hown
              have HN := Lib.hid (show normal s.data.toList = none by
                unfold normal; rw [HSG.out, HDT.out, HSD.out, H2.out]; rfl)
              go_wp2_with fail
              go_ret2
              exact ⟨ret_tuple (by rw [HN.out]; rfl), hbw3.trans ⟨hbb.os, hbb.tape, hbb.output, hbb.size, fun i hi => hbb.block i (by omega)⟩⟩
            · rw [List.concat_eq_append] at hx
              subst hx
              rw [List.length_append, List.length_singleton] at hown hol
              obtain ⟨g, cap, rfl, hg1, hg2, hg3, hg4⟩ := own_form hown (by omega)
              rw [List.map_append] at hown
              have hpop := ownsRow_pop (by simp) hown
              have hne : (((init.length : Int) + 1) == 0) = false := by rw [beq_eq_false_iff_ne]; omega
              unfold maxLen at hg4
              have HD2 := Lib.hid (show ∀ t, t ≠ [] → dots ((init ++ [x]).map (·.data.toList)) ([46, 46] :: t) = dots (init.map (·.data.toList)) t by
                intro t ht; rw [List.map_append]; exact dots_two _ _ ht)
              have HD3 := Lib.hid (show dots ((init ++ [x]).map (·.data.toList)) [[46, 46]] = some (init.map (·.data.toList) ++ [[]]) by simp [dots])
              by_cases hlast : j + 1 = l.length
              · have hb : ((j : Int) == (l.length : Int) - 1) = true := by rw [beq_iff_eq]; omega
                have HLA := Lib.hid hlast
                clear hlast
                go_wp2_with (at_builtin; refine wpList_append_own _ rfl _ _ 38 rfl wb.heap.size 9 i0 (.string ⟨#[]⟩) 1 16 Tryd.underlying38 hi hz0 hz1 hz2 rfl (by decide) _ _ _ rfl (hpop.alloc _) ⟨wr.heap.size, 0, none⟩ 1 1 [.string ⟨#[]⟩] rfl rfl (cell_one_new _ _ _) ?c2 ?c3 ?c4 ?c5 ?c6)
                case c2 => simp [Value.oneCell']
                case c3 => unfold maxLen; omega
                case c4 => omega
                case c5 => omega
                case c6 =>
                  intro v' w1 hown' hgrow hnil
                  go_wp2_with fail
                  have hbw1 := (hbb.alloc hz4 _).grown hgrow (by rw [World.size_alloc]; omega) (fun k e => own_base hpop k e)
                  exact ⟨⟨j + 1, init ++ [⟨#[]⟩], by omega, by go_num, by simpa using hown', by rw [HDT.out, HSD.out, drop_last l j HLA.out, H2.out, HD3.out, dots_nil]; simp, by simp; omega, hbw1⟩, by simp [intOf]; omega⟩
              · have hb : ((j : Int) == (l.length : Int) - 1) = false := by rw [beq_eq_false_iff_ne]; omega
                have HLA := Lib.hid hlast
                clear hlast
                go_wp2_with fail
                exact ⟨⟨j + 1, init, by omega, by go_num, hpop, by rw [HDT.out, HSD.out, H2.out, HD2.out _ (drop_ne l j (by have := HLA.out; omega))], by omega, hbb⟩, by simp [intOf]; omega⟩
          · have e2 := str_not h2
            by_cases h1 : l[j].data.toList = [46]
            · have e1 := str_is h1
              have H1 := Lib.hid h1
              clear h1 h2
              by_cases hlast : j + 1 = l.length
              · have hb : ((j : Int) == (l.length : Int) - 1) = true := by rw [beq_iff_eq]; omega
                have HLA := Lib.hid hlast
                clear hlast
                go_wp2_with (at_builtin; refine wpList_append_own _ rfl _ _ 38 rfl wb.heap.size 9 i0 (.string ⟨#[]⟩) 1 16 Tryd.underlying38 hi hz0 hz1 hz2 rfl (by decide) _ _ _ rfl (hown.alloc _) ⟨wr.heap.size, 0, none⟩ 1 1 [.string ⟨#[]⟩] rfl rfl (cell_one_new _ _ _) ?c2 ?c3 ?c4 ?c5 ?c6)
                case c2 => simp [Value.oneCell']
                case c3 => unfold maxLen; omega
                case c4 => omega
                case c5 => omega
                case c6 =>
                  intro v' w1 hown' hgrow hnil
                  go_wp2_with fail
                  have hbw1 := (hbb.alloc hz4 _).grown hgrow (by rw [World.size_alloc]; omega) (fun k e => own_base hown k e)
                  exact ⟨⟨j + 1, outs ++ [⟨#[]⟩], by omega, by go_num, by simpa using hown', by rw [HDT.out, HSD.out, drop_last l j HLA.out, H1.out, dots_nil]; simp [dots], by simp; omega, hbw1⟩, by simp [intOf]; omega⟩
              · have hb : ((j : Int) == (l.length : Int) - 1) = false := by rw [beq_eq_false_iff_ne]; omega
                have HLA := Lib.hid hlast
                clear hlast
                go_wp2_with fail
                exact ⟨⟨j + 1, outs, by omega, by go_num, hown, by rw [HDT.out, HSD.out, H1.out, dots_one _ (drop_ne l j (by have := HLA.out; omega))], by omega, hbb⟩, by simp [intOf]; omega⟩
            · have e1 := str_not h1
              have HND := Lib.hid (show noDot l[j].data.toList from ⟨h1, h2⟩)
              clear h1 h2
              go_wp2_with (at_builtin; refine wpList_append_own _ rfl _ _ 38 rfl wb.heap.size 9 i0 (.string ⟨#[]⟩) 1 16 Tryd.underlying38 hi hz0 hz1 hz2 rfl (by decide) _ _ _ rfl (hown.alloc _) ⟨wr.heap.size, 0, none⟩ 1 1 [.string l[j]] rfl rfl (cell_one_new _ _ _) ?c2 ?c3 ?c4 ?c5 ?c6)
              case c2 => simp [Value.oneCell']
              case c3 => unfold maxLen; omega
              case c4 => omega
              case c5 => omega
              case c6 =>
                intro v' w1 hown' hgrow hnil
                go_wp2_with fail
                have hbw1 := (hbb.alloc hz4 _).grown hgrow (by rw [World.size_alloc]; omega) (fun k e => own_base hown k e)
                exact ⟨⟨j + 1, outs ++ [l[j]], by omega, by go_num, by simpa using hown', by rw [HDT.out, HSD.out, dots_plain HND.out]; simp, by simp; omega, hbw1⟩, by simp [intOf]; omega⟩
        · have hdf : dots [] (l.map (·.data.toList)) = some (outs.map (·.data.toList)) := by
            rw [HDT.out, List.drop_of_length_le (by simp; omega), dots_nil]
          have hne := dots_ne _ _ _ (.inl (fun h => by have := congrArg List.length h; rw [List.length_map, List.length_nil] at this; omega)) hdf
          have hol0 : 0 < outs.length := by
            cases outs with
            | nil => simp at hne
            | cons _ _ => simp
          have hgl := dots_len _ _ _ hdf
          rw [HLL.out, glue_cuts, glue_nil] at hgl
          simp only [List.length_nil, List.length_cons, Nat.zero_add] at hgl
          have HJ := Lib.hid (join_glue _ hne)
          have hjl2 : (Lib.join (outs.map (·.data.toList)) [47]).length + 1 = (glue (outs.map (·.data.toList))).length := by rw [← HJ.out]; rfl
          have HNO := Lib.hid (show normal s.data.toList = some (glue (outs.map (·.data.toList))) by unfold normal; rw [HSG.out, hdf]; rfl)
          obtain ⟨g, cap, rfl, hg1, hg2, hg3, hg4⟩ := own_form hown hol0
          clear hdf hne hol0
          go_wp2_with fail
          refine (Tryd.strings_Join g 0 cap outs ⟨#[47]⟩ _ (fun j x hx => ?_) hg2 (by omega) hg3 (by show (Lib.join (outs.map (·.data.toList)) [47]).length ≤ _; omega)).mono ?_
          · have := hown.cells (g := g) rfl j (.string x) (by simp [hx])
            rw [add_plain] at this; rw [Nat.zero_add]; exact this
          · rintro e w5 ⟨rfl, hb5⟩
            go_wp2_with fail
            go_ret2
            have hb6 := hbb.trans ⟨hb5.os, hb5.tape, hb5.output, hb5.size, fun i hi => hb5.block i (by omega)⟩
            refine ⟨ret_tuple ?_, hbw3.trans ⟨hb6.os, hb6.tape, hb6.output, hb6.size, fun i hi => hb6.block i (by omega)⟩⟩
            rw [HNO.out]
            show Value.tuple #[.string (⟨#[47]⟩ ++ ⟨(Lib.join (outs.map (·.data.toList)) [47]).toArray⟩), .nilIface] = .tuple #[.string ⟨(glue (outs.map (·.data.toList))).toArray⟩, .nilIface]
            rw [← HJ.out, str_cons]
end Go.Proofs.YthobmfnmenbkeaaDoor
end
/- The program's 'Parse', walked. -/
section
set_option linter.unusedVariables false
set_option linter.unusedSimpArgs false
namespace Go.Proofs.YthobmfnmenbkeaaDoor
open Go.RowKit Tg

/-- a text, of a list -/
abbrev txt (l : List UInt8) : ByteArray := ⟨l.toArray⟩
def tgtV (t : T) : Value := .agg #[.int .i64 t.form, .string (txt t.host), .string (txt t.path), .string (txt t.query), .bool t.has]
def parseV (r : Int × T) : Value := .tuple #[tgtV r.2, errV r.1]
theorem cut_calls (s : ByteArray) (w : World) (hs : s.size < 4294967281) (hr : ∃ m, w.cell? ⟨1, 0, none⟩ = some (.int .i64 m)) :
    Calls Tryd.prog 32 #[.string s, .string ⟨#[63]⟩] w fun e w' => e = .returned (.tuple #[.string (txt (cutAt 63 s.data.toList).1), .string (txt (cutAt 63 s.data.toList).2.1), .bool (cutAt 63 s.data.toList).2.2]) ∧ Dr w w' := by
  obtain ⟨m, hm⟩ := hr
  refine (Tryd.strings_Cut s ⟨#[63]⟩ m w hs hm).mono ?_
  rintro e w' ⟨h1, h2⟩
  have : Lib.cut s.data.toList [63] = cutAt 63 s.data.toList := cut_cutAt 63 _
  rw [← this]
  exact ⟨h1, ⟨h2⟩⟩

set_option maxRecDepth 100000 in
set_option maxHeartbeats 1000000 in
theorem parse_long (s : ByteArray) (w : World) (hl : 65536 < s.size) : Calls Tryd.prog 10 #[.string s] w fun e w' => e = .returned (parseV (parse s.data.toList)) ∧ Below w.heap.size w w' := by
  have HP := Lib.hid (show parse s.data.toList = (2, zeroT) by unfold parse; rw [if_pos (by rw [len]; omega)])
  go_enter Tryd.func10, Tryd.ntmps10
  go_wp2_with fail
  refine bodyPost_ret (v := parseV (2, zeroT)) (by simp [results, Tryd.results10, go_sem, parseV, tgtV, zeroT, errV]) rfl ⟨by rw [HP.out], below_new _ _⟩

theorem cutAt_len (c : UInt8) : ∀ l : List UInt8, (cutAt c l).1.length ≤ l.length ∧ (cutAt c l).2.1.length ≤ l.length
  | [] => ⟨Nat.le_refl _, Nat.le_refl _⟩
  | x :: r => by
    have ih := cutAt_len c r
    unfold cutAt
    split
    · simp
    · simp; omega
theorem txt_size (l : List UInt8) : (txt l).size = l.length := by simp [txt, ByteArray.size]
theorem txt_data (l : List UInt8) : (txt l).data.toList = l := by simp [txt]

theorem bel_drewN {B : Nat} {w w' : World} (h : Below B w w') (n : Nat) : Below B w (w'.drewN n) := below_dr h ⟨⟨n, rfl⟩⟩
/-- the path that is looked at -/
def pathOf (form : Int) (rest : List UInt8) : List UInt8 := if (cutAt 63 rest).1 = [] ∧ form = 2 then [47] else (cutAt 63 rest).1
theorem pathOf_1 (rest : List UInt8) : pathOf 1 rest = (cutAt 63 rest).1 := by unfold pathOf; rw [if_neg (by omega)]
theorem behind_bad {form : Int} {host rest : List UInt8} (h : isPath (pathOf form rest) = false ∨ isQuery (cutAt 63 rest).2.1 = false) : behind form host rest = (23, zeroT) := by
  unfold behind
  unfold pathOf at h
  rw [if_neg]
  rcases h with h | h <;> simp [h]
theorem behind_good {form : Int} {host rest : List UInt8} (h : isPath (pathOf form rest) = true) (g : isQuery (cutAt 63 rest).2.1 = true) :
    behind form host rest = (0, ⟨form, host, pathOf form rest, (cutAt 63 rest).2.1, (cutAt 63 rest).2.2⟩) := by
  unfold behind
  unfold pathOf at h ⊢
  rw [if_pos]
  simp [h, g]

set_option maxRecDepth 100000 in
set_option maxHeartbeats 4000000 in
theorem parse_plain (s : ByteArray) (w : World) (hr : Rdy w) (hl : s.size ≤ 65536) (h1 : ¬ s.data.toList = [42]) (h7 : s.size < 7) : Calls Tryd.prog 10 #[.string s] w fun e w' => e = .returned (parseV (parse s.data.toList)) ∧ Below w.heap.size w w' := by
  have e1 := str_not h1
  have hr2 := (hr.below (((Below.refl w.heap.size w).alloc (Nat.le_refl _) (.cells #[.int .i64 0, .string ⟨#[]⟩, .string ⟨#[]⟩, .string ⟨#[]⟩, .bool false] 23)).alloc (by simp) (.cells #[.int .i64 1, .string ⟨#[]⟩, .string ⟨#[]⟩, .string ⟨#[]⟩, .bool false] 23))).out
  have hcl := cutAt_len 63 s.data.toList
  rw [len] at hcl
  have HP := Lib.hid (show parse s.data.toList = behind 1 [] s.data.toList by
    unfold parse
    rw [if_neg (by rw [len]; omega), if_neg h1]
    have : isHttp s.data.toList = false := by unfold isHttp; rw [len]; simp; omega
    rw [this]; rfl)
  go_enter Tryd.func10, Tryd.ntmps10
  go_wp2_with fail
  refine (cut_calls _ _ (by omega) hr2).mono ?_
  rintro e w' ⟨rfl, ⟨n, rfl⟩⟩
  go_wp2_with (first | (go_at_call 33; refine (isPath_calls _ _ (by rw [txt_size]; first | omega | simp)).mono ?_; rintro e w' ⟨rfl, rfl⟩) | (go_at_call 34; refine (isQuery_calls _ _ (by rw [txt_size]; omega)).mono ?_; rintro e w' ⟨rfl, rfl⟩))
  all_goals clear hr2
  · refine bodyPost_ret (v := parseV (23, zeroT)) ?h1 rfl ?h3
    case h1 => simp [results, Tryd.results10, go_sem, parseV, tgtV, zeroT, errV]
    case h3 =>
      refine ⟨ret_tuple ?_, ?_⟩
      · rw [HP.out, behind_bad (.inl (by rw [pathOf_1]; simp [*]))]
      · repeat (first | (with_reducible refine Below.setCell ?_ (by simp) _) | (with_reducible refine bel_drewN ?_ _) | (with_reducible refine Below.alloc ?_ (by simp) _) | (with_reducible exact Below.refl _ _))
  · refine bodyPost_ret (v := parseV (23, zeroT)) ?h1 rfl ?h3
    case h1 => simp [results, Tryd.results10, go_sem, parseV, tgtV, zeroT, errV]
    case h3 =>
      refine ⟨ret_tuple ?_, ?_⟩
      · rw [HP.out, behind_bad (.inr (by simpa using ‹(!isQuery _) = true›))]
      · repeat (first | (with_reducible refine Below.setCell ?_ (by simp) _) | (with_reducible refine bel_drewN ?_ _) | (with_reducible refine Below.alloc ?_ (by simp) _) | (with_reducible exact Below.refl _ _))
  · refine bodyPost_ret (v := parseV (0, ⟨1, [], (cutAt 63 s.data.toList).1, (cutAt 63 s.data.toList).2.1, (cutAt 63 s.data.toList).2.2⟩)) ?h1 rfl ?h3
    case h1 => simp [results, Tryd.results10, go_sem, parseV, tgtV, zeroT, errV]
    case h3 =>
      refine ⟨ret_tuple ?_, ?_⟩
      · rw [HP.out, behind_good (by rw [pathOf_1]; simp [*]) (by simpa using ‹(!isQuery _) = false›), pathOf_1]
      · repeat (first | (with_reducible refine Below.setCell ?_ (by simp) _) | (with_reducible refine bel_drewN ?_ _) | (with_reducible refine Below.alloc ?_ (by simp) _) | (with_reducible exact Below.refl _ _))
  · refine bodyPost_ret (v := parseV (23, zeroT)) ?h1 rfl ?h3
    case h1 => simp [results, Tryd.results10, go_sem, parseV, tgtV, zeroT, errV]
    case h3 =>
      refine ⟨ret_tuple ?_, ?_⟩
      · rw [HP.out, behind_bad (.inl (by rw [pathOf_1]; simp [*]))]
      · repeat (first | (with_reducible refine Below.setCell ?_ (by simp) _) | (with_reducible refine bel_drewN ?_ _) | (with_reducible refine Below.alloc ?_ (by simp) _) | (with_reducible exact Below.refl _ _))
end Go.Proofs.YthobmfnmenbkeaaDoor
end
/- The program's 'Parse' where letters are made small, walked. -/
section
set_option linter.unusedVariables false
set_option linter.unusedSimpArgs false
namespace Go.Proofs.YthobmfnmenbkeaaDoor
open Go.RowKit Tg

theorem bcell {W w1 : World} (hb : Below W.heap.size W w1) : (∀ b o, b < W.heap.size → w1.cell? ⟨b, o, none⟩ = W.cell? ⟨b, o, none⟩) ∧ (∀ b o, b < W.heap.size → w1.frozen? ⟨b, o, none⟩ = W.frozen? ⟨b, o, none⟩) :=
  ⟨fun b o h => hb.cell (p := ⟨b, o, none⟩) h, fun b o h => hb.frozen (p := ⟨b, o, none⟩) h⟩

/-- letters made small: what is asked of the call at a text -/
def LowOn (x : ByteArray) : Prop := ∀ w, Rdy w → Calls Tryd.prog 29 #[.string x] w fun e w' => ∃ y : List UInt8, e = .returned (.string (txt y)) ∧ ((y == http) = (lower x.data.toList == http)) ∧ Below w.heap.size w w'
theorem low_A (l : List UInt8) : Lib.toLowerA l = lower l := by
  unfold Lib.toLowerA lower
  apply List.map_congr_left
  intro c _
  rfl
theorem lowOn_ascii (x : ByteArray) (hx : x.size ≤ 65536) (ha : ∀ c ∈ x.data.toList, c.toNat < 128) : LowOn x := by
  intro w _
  refine (Tryd.strings_ToLower_ascii x w (by omega) (fun j b hj => ha b (List.mem_of_getElem? hj))).mono ?_
  rintro e w' ⟨h1, h2⟩
  exact ⟨_, h1, by rw [low_A], h2⟩

set_option maxRecDepth 100000 in
set_option maxHeartbeats 4000000 in
theorem parse_other (s : ByteArray) (w : World) (hr : Rdy w) (hl : s.size ≤ 65536) (h1 : ¬ s.data.toList = [42]) (h7 : 7 ≤ s.size) (hL : LowOn (s.extract 0 7)) (hn : lower (s.data.toList.take 7) ≠ http) :
    Calls Tryd.prog 10 #[.string s] w fun e w' => e = .returned (parseV (parse s.data.toList)) ∧ Below w.heap.size w w' := by
  have e1 := str_not h1
  have hbl := (((Below.refl w.heap.size w).alloc (Nat.le_refl _) (.cells #[.int .i64 0, .string ⟨#[]⟩, .string ⟨#[]⟩, .string ⟨#[]⟩, .bool false] 23)).alloc (by simp) (.cells #[.int .i64 1, .string ⟨#[]⟩, .string ⟨#[]⟩, .string ⟨#[]⟩, .bool false] 23))
  have HBL := Lib.hid hbl
  clear hbl
  have hcl := cutAt_len 63 s.data.toList
  rw [len] at hcl
  have HP := Lib.hid (show parse s.data.toList = behind 1 [] s.data.toList by
    unfold parse
    rw [if_neg (by rw [len]; omega), if_neg h1]
    have : isHttp s.data.toList = false := by
      unfold isHttp; rw [len]
      have : (lower (s.data.toList.take 7) == http) = false := by simpa using hn
      rw [this, Bool.and_false]
    rw [this]; rfl)
  have HNE := Lib.hid (show (lower (s.extract 0 7).data.toList == http) = false by rw [Lib.extract_from_zero]; simpa using hn)
  clear hn h1
  go_enter Tryd.func10, Tryd.ntmps10
  go_wp2_with fail
  refine (hL _ (by exact hr.below HBL.out)).mono ?_
  rintro e w1 ⟨y, rfl, hy, hb⟩
  have hy2 : (y == http) = false := hy.trans HNE.out
  have hne2 : (y == [104, 116, 116, 112, 58, 47, 47]) = false := hy2
  have HBL1 := Lib.hid (HBL.out.trans ⟨hb.os, hb.tape, hb.output, hb.size, fun i hi => hb.block i (by simp; omega)⟩)
  have hr2 := (hr.below HBL1.out).out
  obtain ⟨hc, hf⟩ := bcell hb
  have HR := Lib.hid (show ∀ i, i < 5 → (w1.cell? ⟨w.heap.size, i, none⟩).isSome = true by
    intro i hi
    rw [hc _ _ (by simp; omega)]
    match i, hi with
    | 0, _ => simp [go_sem]
    | 1, _ => simp [go_sem]
    | 2, _ => simp [go_sem]
    | 3, _ => simp [go_sem]
    | 4, _ => simp [go_sem])
  have hz : w.heap.size + 1 < w1.heap.size := by have := hb.size; simp at this; omega
  clear hy hy2 hb
  go_wp2_with fail
  refine (cut_calls _ _ (by omega) hr2).mono ?_
  rintro e w' ⟨rfl, ⟨n, rfl⟩⟩
  go_wp2_with (first | (go_at_call 33; refine (isPath_calls _ _ (by rw [txt_size]; first | omega | simp)).mono ?_; rintro e w' ⟨rfl, rfl⟩) | (go_at_call 34; refine (isQuery_calls _ _ (by rw [txt_size]; omega)).mono ?_; rintro e w' ⟨rfl, rfl⟩))
  all_goals clear hr2
  · refine bodyPost_ret (v := parseV (23, zeroT)) ?h1 rfl ?h3
    case h1 => simp [results, Tryd.results10, go_sem, parseV, tgtV, zeroT, errV, HR.out 0 (by decide), HR.out 1 (by decide), HR.out 2 (by decide), HR.out 3 (by decide), HR.out 4 (by decide)]
    case h3 =>
      refine ⟨ret_tuple ?_, ?_⟩
      · rw [HP.out, behind_bad (.inl (by rw [pathOf_1]; simp [*]))]
      · repeat (first | (with_reducible exact HBL1.out) | (with_reducible refine Below.setCell ?_ (by simp) _) | (with_reducible refine bel_drewN ?_ _) | (with_reducible refine Below.alloc ?_ (by simp) _))
  · refine bodyPost_ret (v := parseV (23, zeroT)) ?h1 rfl ?h3
    case h1 => simp [results, Tryd.results10, go_sem, parseV, tgtV, zeroT, errV, HR.out 0 (by decide), HR.out 1 (by decide), HR.out 2 (by decide), HR.out 3 (by decide), HR.out 4 (by decide)]
    case h3 =>
      refine ⟨ret_tuple ?_, ?_⟩
      · rw [HP.out, behind_bad (.inr (by simpa using ‹(!isQuery _) = true›))]
      · repeat (first | (with_reducible exact HBL1.out) | (with_reducible refine Below.setCell ?_ (by simp) _) | (with_reducible refine bel_drewN ?_ _) | (with_reducible refine Below.alloc ?_ (by simp) _))
  · refine bodyPost_ret (v := parseV (0, ⟨1, [], (cutAt 63 s.data.toList).1, (cutAt 63 s.data.toList).2.1, (cutAt 63 s.data.toList).2.2⟩)) ?h1 rfl ?h3
    case h1 => simp [results, Tryd.results10, go_sem, parseV, tgtV, zeroT, errV, HR.out 0 (by decide), HR.out 1 (by decide), HR.out 2 (by decide), HR.out 3 (by decide), HR.out 4 (by decide)]
    case h3 =>
      refine ⟨ret_tuple ?_, ?_⟩
      · rw [HP.out, behind_good (by rw [pathOf_1]; simp [*]) (by simpa using ‹(!isQuery _) = false›), pathOf_1]
      · repeat (first | (with_reducible exact HBL1.out) | (with_reducible refine Below.setCell ?_ (by simp) _) | (with_reducible refine bel_drewN ?_ _) | (with_reducible refine Below.alloc ?_ (by simp) _))
  · refine bodyPost_ret (v := parseV (23, zeroT)) ?h1 rfl ?h3
    case h1 => simp [results, Tryd.results10, go_sem, parseV, tgtV, zeroT, errV, HR.out 0 (by decide), HR.out 1 (by decide), HR.out 2 (by decide), HR.out 3 (by decide), HR.out 4 (by decide)]
    case h3 =>
      refine ⟨ret_tuple ?_, ?_⟩
      · rw [HP.out, behind_bad (.inl (by rw [pathOf_1]; simp [*]))]
      · repeat (first | (with_reducible exact HBL1.out) | (with_reducible refine Below.setCell ?_ (by simp) _) | (with_reducible refine bel_drewN ?_ _) | (with_reducible refine Below.alloc ?_ (by simp) _))

/-- the first place of a byte that ends a host: what is asked of the call at a text -/
def stopAt (l : List UInt8) : Int := Lib.indexAny l [47, 63]
def AnyOn (x : ByteArray) : Prop := ∀ w, Rdy w → Calls Tryd.prog 30 #[.string x, .string ⟨#[47, 63]⟩] w fun e w' => e = .returned (.int .i64 (stopAt x.data.toList)) ∧ Below w.heap.size w w'
theorem anyOn_ascii (x : ByteArray) (hx : x.size ≤ 65536) (ha : ∀ c ∈ x.data.toList, c.toNat < 128) : AnyOn x := by
  intro w _
  exact Tryd.strings_IndexAny_laid x ⟨#[47, 63]⟩ w (by omega) (by decide) (fun j b hj => ha b (List.mem_of_getElem? hj)) (fun j b hj => by
    match j, hj with
    | 0, hj => simp at hj; subst hj; decide
    | 1, hj => simp at hj; subst hj; decide
    | j + 2, hj => simp at hj)
theorem stop_has : ∀ c : UInt8, ([47, 63] : List UInt8).contains c = Tg.stop c := all_bytes _ (by decide +kernel)
/-- -1, or the place: what stands ahead of it and behind it -/
theorem stopAt_facts : ∀ l : List UInt8, (stopAt l = -1 ∧ hostOf l = l ∧ afterHost l = []) ∨ (∃ k : Nat, stopAt l = k ∧ k < l.length ∧ hostOf l = l.take k ∧ afterHost l = l.drop k)
  | [] => .inl ⟨rfl, rfl, rfl⟩
  | x :: r => by
    have ih := stopAt_facts r
    unfold stopAt at ih ⊢
    rw [Lib.indexAny, stop_has]
    unfold hostOf afterHost at ih ⊢
    rw [List.takeWhile_cons, List.dropWhile_cons]
    cases hx : Tg.stop x with
    | true => exact .inr ⟨0, by simp⟩
    | false =>
      simp only [Bool.not_false, if_true, Bool.false_eq_true, if_false]
      rcases ih with ⟨h1, h2, h3⟩ | ⟨k, h1, h2, h3, h4⟩
      · exact .inl ⟨by rw [h1]; rfl, by rw [h2], h3⟩
      · refine .inr ⟨k + 1, ?_, by simpa using h2, by rw [h3]; rfl, by rw [h4]; rfl⟩
        rw [h1, if_neg (by rw [beq_iff_eq]; omega)]; omega

end Go.Proofs.YthobmfnmenbkeaaDoor
end
/- The program's 'Parse' at a target with a host, walked; and at every target whose letters are asked of the two calls. -/
section
set_option linter.unusedVariables false
set_option linter.unusedSimpArgs false
namespace Go.Proofs.YthobmfnmenbkeaaDoor
open Go.RowKit Tg

/-- the two blocks of 'Parse': the result's, and the target's -/
structure Two (R : Nat) (f : Int) (h p q : ByteArray) (b : Bool) (w : World) : Prop where
  res : w.heap[R]? = some (.cells #[.int .i64 0, .string ⟨#[]⟩, .string ⟨#[]⟩, .string ⟨#[]⟩, .bool false] 23 (0, 0))
  tgt : w.heap[R + 1]? = some (.cells #[.int .i64 f, .string h, .string p, .string q, .bool b] 23 (0, 0))
section
variable {R : Nat} {f : Int} {h p q : ByteArray} {b : Bool} {w w' : World}
theorem Two.lt (t : Two R f h p q b w) : R + 1 < w.heap.size := (Array.getElem?_eq_some_iff.1 t.tgt).1
theorem Two.below (t : Two R f h p q b w) (hb : Below w.heap.size w w') : Two R f h p q b w' :=
  ⟨(hb.block R (by have := t.lt; omega)).trans t.res, (hb.block (R + 1) t.lt).trans t.tgt⟩
theorem Two.dr (t : Two R f h p q b w) (d : Dr w w') : Two R f h p q b w' := by obtain ⟨n, rfl⟩ := d; exact ⟨t.res, t.tgt⟩
theorem Two.put0 (t : Two R f h p q b w) (f' : Int) : Two R f' h p q b (w.setCell ⟨R + 1, 0, none⟩ (.int .i64 f')) :=
  ⟨(heap_setCell_other w _ _ _ (by simp)).trans t.res, by rw [heap_setCell_same w _ _ _ _ _ t.tgt]; rfl⟩
theorem Two.put1 (t : Two R f h p q b w) (h' : ByteArray) : Two R f h' p q b (w.setCell ⟨R + 1, 1, none⟩ (.string h')) :=
  ⟨(heap_setCell_other w _ _ _ (by simp)).trans t.res, by rw [heap_setCell_same w _ _ _ _ _ t.tgt]; rfl⟩
theorem Two.rs (t : Two R f h p q b w) : w.cell? ⟨R, 0, none⟩ = some (.int .i64 0) ∧ w.cell? ⟨R, 1, none⟩ = some (.string ⟨#[]⟩) ∧ w.cell? ⟨R, 2, none⟩ = some (.string ⟨#[]⟩) ∧ w.cell? ⟨R, 3, none⟩ = some (.string ⟨#[]⟩) ∧ w.cell? ⟨R, 4, none⟩ = some (.bool false) := by
  simp [World.cell?, t.res]
theorem Two.ts (t : Two R f h p q b w) : w.cell? ⟨R + 1, 0, none⟩ = some (.int .i64 f) ∧ w.cell? ⟨R + 1, 1, none⟩ = some (.string h) ∧ w.cell? ⟨R + 1, 2, none⟩ = some (.string p) ∧ w.cell? ⟨R + 1, 3, none⟩ = some (.string q) ∧ w.cell? ⟨R + 1, 4, none⟩ = some (.bool b) := by
  simp [World.cell?, t.tgt]
theorem Two.fz (t : Two R f h p q b w) : (∀ o, w.frozen? ⟨R, o, none⟩ = false) ∧ ∀ o, w.frozen? ⟨R + 1, o, none⟩ = false := by
  refine ⟨fun o => ?_, fun o => ?_⟩
  · simp [World.frozen?, t.res]
  · simp [World.frozen?, t.tgt]
end
theorem two_new (w : World) : Two w.heap.size 1 ⟨#[]⟩ ⟨#[]⟩ ⟨#[]⟩ false ((w.alloc (.cells #[.int .i64 0, .string ⟨#[]⟩, .string ⟨#[]⟩, .string ⟨#[]⟩, .bool false] 23)).alloc (.cells #[.int .i64 1, .string ⟨#[]⟩, .string ⟨#[]⟩, .string ⟨#[]⟩, .bool false] 23)) := by
  refine ⟨?_, ?_⟩
  · show ((w.heap.push _).push _)[w.heap.size]? = _
    simp [Array.getElem?_push]
  · show ((w.heap.push _).push _)[w.heap.size + 1]? = _
    rw [Array.getElem?_push, if_pos (by simp)]

theorem lowOn_ok (x : ByteArray) (hx : x.size ≤ 65536) (h : isHost x.data.toList = true) : ∀ w, Calls Tryd.prog 29 #[.string x] w fun e w' => e = .returned (.string (txt (lower x.data.toList))) ∧ Below w.heap.size w w' := by
  intro w
  have ha : ∀ c ∈ x.data.toList, c.toNat < 128 := by
    intro c hc
    unfold isHost at h
    simp only [Bool.and_eq_true, List.all_eq_true] at h
    exact host_ascii c (h.1.1 c hc)
  refine (Tryd.strings_ToLower_ascii x w (by omega) (fun j b hj => ha b (List.mem_of_getElem? hj))).mono ?_
  rintro e w' ⟨h1, h2⟩
  exact ⟨by rw [h1, low_A], h2⟩

theorem isHost_calls2 (s : ByteArray) (b : Bool) (w : World) (hs : s.size ≤ 65536) (hb : isHost s.data.toList = b) : Calls Tryd.prog 31 #[.string s] w fun e w' => e = .returned (.bool b) ∧ w = w' := by
  rw [← hb]; exact isHost_calls s w (by omega)
theorem low_calls2 (s : ByteArray) (l : List UInt8) (w : World) (hs : s.size ≤ 65536) (hl : s.data.toList = l) (h : isHost l = true) : Calls Tryd.prog 29 #[.string s] w fun e w' => e = .returned (.string (txt (lower l))) ∧ Below w.heap.size w w' := by
  rw [← hl] at h ⊢; exact lowOn_ok s hs h w
theorem cut_calls2 (s : ByteArray) (l : List UInt8) (w : World) (hs : s.size ≤ 65536) (hl : s.data.toList = l) (hr : ∃ m, w.cell? ⟨1, 0, none⟩ = some (.int .i64 m)) :
    Calls Tryd.prog 32 #[.string s, .string ⟨#[63]⟩] w fun e w' => e = .returned (.tuple #[.string (txt (cutAt 63 l).1), .string (txt (cutAt 63 l).2.1), .bool (cutAt 63 l).2.2]) ∧ Dr w w' := by
  rw [← hl]; exact cut_calls s w (by omega) hr
theorem pathOf_0 (rest : List UInt8) (h : (cutAt 63 rest).1 = []) : pathOf 2 rest = [47] := by unfold pathOf; rw [if_pos ⟨h, rfl⟩]
theorem pathOf_2 (rest : List UInt8) (h : ¬ (cutAt 63 rest).1 = []) : pathOf 2 rest = (cutAt 63 rest).1 := by unfold pathOf; rw [if_neg (fun k => h k.1)]
theorem isPath_47 : isPath [47] = true := by decide

set_option maxRecDepth 100000 in
set_option maxHeartbeats 4000000 in
theorem parse_host (s : ByteArray) (w : World) (hr : Rdy w) (hl : s.size ≤ 65536) (h1 : ¬ s.data.toList = [42]) (h7 : 7 ≤ s.size) (hL : LowOn (s.extract 0 7)) (hA : AnyOn (s.extract 7 s.size)) (hn : lower (s.data.toList.take 7) = http) :
    Calls Tryd.prog 10 #[.string s] w fun e w' => e = .returned (parseV (parse s.data.toList)) ∧ Below w.heap.size w w' := by
  have e1 := str_not h1
  have hbl := (((Below.refl w.heap.size w).alloc (Nat.le_refl _) (.cells #[.int .i64 0, .string ⟨#[]⟩, .string ⟨#[]⟩, .string ⟨#[]⟩, .bool false] 23)).alloc (by simp) (.cells #[.int .i64 1, .string ⟨#[]⟩, .string ⟨#[]⟩, .string ⟨#[]⟩, .bool false] 23))
  have HBL := Lib.hid hbl
  clear hbl
  have HP := Lib.hid (show parse s.data.toList = (if isHost (hostOf (s.data.toList.drop 7)) then behind 2 (lower (hostOf (s.data.toList.drop 7))) (afterHost (s.data.toList.drop 7)) else (23, zeroT)) by
    unfold parse
    rw [if_neg (by rw [len]; omega), if_neg h1]
    have : isHttp s.data.toList = true := by
      unfold isHttp; rw [len]
      have : (lower (s.data.toList.take 7) == http) = true := by simpa using hn
      rw [this, Bool.and_true]; simpa using h7
    rw [if_pos this])
  have HNE := Lib.hid (show (lower (s.extract 0 7).data.toList == http) = true by rw [Lib.extract_from_zero]; simpa using hn)
  have HX := Lib.hid (show (s.extract 7 s.size).data.toList = s.data.toList.drop 7 from Lib.extract_to_end s 7)
  clear hn h1
  go_enter Tryd.func10, Tryd.ntmps10
  go_wp2_with fail
  refine (hL _ (by exact hr.below HBL.out)).mono ?_
  rintro e w1 ⟨y, rfl, hy, hb⟩
  have hy2 : (y == http) = true := hy.trans HNE.out
  have hne2 : (y == [104, 116, 116, 112, 58, 47, 47]) = true := hy2
  have HBL1 := Lib.hid (HBL.out.trans ⟨hb.os, hb.tape, hb.output, hb.size, fun i hi => hb.block i (by simp; omega)⟩)
  have T1 := (two_new w).below hb
  have T2 := T1.put0 2
  have hf1 := T1.fz
  have hr1 := T1.rs
  have ht1 := T1.ts
  have hz := T1.lt
  clear hy hy2 hb T1
  go_wp2_with fail
  refine (hA _ (by exact hr.below (HBL1.out.setCell (p := ⟨w.heap.size + 1, 0, none⟩) (by simp) _))).mono ?_
  rintro e w2 ⟨rfl, hb2⟩
  have T3 := T2.below hb2
  have HBL2 := Lib.hid (show Below w.heap.size w w2 from (HBL1.out.setCell (p := ⟨w.heap.size + 1, 0, none⟩) (by simp) _).trans ⟨hb2.os, hb2.tape, hb2.output, hb2.size, fun i hi => hb2.block i (by simp; omega)⟩)
  have hxs : (s.extract 7 s.size).size = s.size - 7 := by simp
  rw [HX.out]
  obtain ⟨X, hX⟩ : ∃ X, s.extract 7 s.size = X := ⟨_, rfl⟩
  rw [hX] at hxs HX ⊢
  obtain ⟨D, hD⟩ : ∃ D, s.data.toList.drop 7 = D := ⟨_, rfl⟩
  have HX2 := Lib.hid (show X.data.toList = D from HX.out.trans hD)
  rw [hD] at HP ⊢
  have hX65 : X.size ≤ 65536 := by omega
  have T4 := fun x => T3.put1 x
  have hf3 := T3.fz
  have ht3 := T3.ts
  have hr3 := T3.rs
  have hz3 := T3.lt
  clear hf1 ht1 hr1 hz T2 T3 hb2 hA hL hX hD HX hxs
  rcases stopAt_facts D with ⟨n1, n2, n3⟩ | ⟨k, n1, n2, n3, n4⟩
  · have HH := Lib.hid n2
    have HA := Lib.hid n3
    rw [n1]
    clear n1 n2 n3
    go_wp2_with fail
    have hRs : (ByteArray.empty).data.toList = afterHost D := by rw [HA.out]; first | rfl | (rw [Lib.extract_to_end, HX2.out])
    have hHs : (X).data.toList = hostOf D := by rw [HH.out]; first | exact HX2.out | (rw [Lib.extract_from_zero, HX2.out])
    have hRz : (ByteArray.empty).size ≤ 65536 := by first | omega | (simp; omega) | simp
    have hHz : (X).size ≤ 65536 := by first | omega | (simp; omega)
    have hcl := cutAt_len 63 (afterHost D)
    rw [← hRs, len, hRs] at hcl
    have T4 := T4 (X)
    have HRs := Lib.hid hRs
    have HHs := Lib.hid hHs
    clear hRs hHs
    have HB4 := Lib.hid (show Below w.heap.size w (w2.setCell ⟨w.heap.size + 1, 1, none⟩ (.string (X))) from HBL2.out.setCell (p := ⟨w.heap.size + 1, 1, none⟩) (by simp) _)
    cases hi : isHost (hostOf D) with
    | false =>
      have HI := Lib.hid hi
      refine (isHost_calls2 _ false _ hHz (by rw [HHs.out]; exact HI.out)).mono ?_
      clear hi
      rintro e w' ⟨rfl, rfl⟩
      go_wp2_with fail
      refine bodyPost_ret (v := parseV (23, zeroT)) ?h1 rfl ?h3
      case h1 => simp [results, Tryd.results10, go_sem, parseV, tgtV, zeroT, errV, hr3]
      case h3 =>
        refine ⟨ret_tuple ?_, ?_⟩
        · rw [HP.out, HI.out]; rfl
        · repeat (first | (with_reducible exact HBL2.out) | (with_reducible refine Below.setCell ?_ (by simp) _) | (with_reducible refine bel_drewN ?_ _))
    | true =>
      have HI := Lib.hid hi
      refine (isHost_calls2 _ true _ hHz (by rw [HHs.out]; exact HI.out)).mono ?_
      clear hi
      rintro e w' ⟨rfl, rfl⟩
      go_wp2_with fail
      refine (low_calls2 _ (hostOf D) _ hHz HHs.out HI.out).mono ?_
      rintro e w3 ⟨rfl, hb3⟩
      have T5 := T4.below hb3
      have HBL3 := Lib.hid (show Below w.heap.size w w3 from HB4.out.trans ⟨hb3.os, hb3.tape, hb3.output, hb3.size, fun i hi => hb3.block i (by simp; omega)⟩)
      have hr2 := (hr.below (HBL3.out.setCell (p := ⟨w.heap.size + 1, 1, none⟩) (by simp) (.string (txt (lower (hostOf D)))))).out
      have T6 := T5.put1 (txt (lower (hostOf D)))
      have HBL4 := Lib.hid (HBL3.out.setCell (p := ⟨w.heap.size + 1, 1, none⟩) (by simp) (.string (txt (lower (hostOf D)))))
      have hf5 := T5.fz
      have ht5 := T5.ts
      have hz5 := T5.lt
      clear hf3 ht3 hr3 hz3 hb3 T4 T5
      go_wp2_with fail
      refine (cut_calls2 _ (afterHost D) _ hRz HRs.out hr2).mono ?_
      rintro e w5 ⟨rfl, hd5⟩
      have HBL5 := Lib.hid (below_dr HBL4.out hd5)
      have T7 := T6.dr hd5
      clear hf5 ht5 hz5 hr2 hd5 T6
      have hf6 := T7.fz
      have ht6 := T7.ts
      have hr6 := T7.rs
      have hz6 := T7.lt
      clear T7
      have h47 := isPath_47
      go_wp2_with (first | (go_at_call 33; refine (isPath_calls _ _ (by rw [txt_size]; first | omega | simp)).mono ?_; rintro e w' ⟨rfl, rfl⟩) | (go_at_call 34; refine (isQuery_calls _ _ (by rw [txt_size]; omega)).mono ?_; rintro e w' ⟨rfl, rfl⟩))
      · refine bodyPost_ret (v := parseV (23, zeroT)) ?h1 rfl ?h3
        case h1 => simp [results, Tryd.results10, go_sem, parseV, tgtV, zeroT, errV, hr6]
        case h3 =>
          refine ⟨ret_tuple ?_, ?_⟩
          · rw [HP.out, HI.out, if_pos rfl, behind_bad (.inr (by simpa using ‹(!isQuery (cutAt 63 (afterHost D)).2.1) = true›))]
          · repeat (first | (with_reducible exact HBL5.out) | (with_reducible refine Below.setCell ?_ (by simp) _) | (with_reducible refine bel_drewN ?_ _))
      · refine bodyPost_ret (v := parseV (0, ⟨2, lower (hostOf D), [47], (cutAt 63 (afterHost D)).2.1, (cutAt 63 (afterHost D)).2.2⟩)) ?h1 rfl ?h3
        case h1 => simp [results, Tryd.results10, go_sem, parseV, tgtV, zeroT, errV, hr6]
        case h3 =>
          refine ⟨ret_tuple ?_, ?_⟩
          · rw [HP.out, HI.out, if_pos rfl, behind_good (by rw [pathOf_0 _ ‹(cutAt 63 (afterHost D)).1 = []›]; exact isPath_47) (by simpa using ‹(!isQuery (cutAt 63 (afterHost D)).2.1) = false›), pathOf_0 _ ‹(cutAt 63 (afterHost D)).1 = []›]
          · repeat (first | (with_reducible exact HBL5.out) | (with_reducible refine Below.setCell ?_ (by simp) _) | (with_reducible refine bel_drewN ?_ _))
      · refine bodyPost_ret (v := parseV (23, zeroT)) ?h1 rfl ?h3
        case h1 => simp [results, Tryd.results10, go_sem, parseV, tgtV, zeroT, errV, hr6]
        case h3 =>
          refine ⟨ret_tuple ?_, ?_⟩
          · rw [HP.out, HI.out, if_pos rfl, behind_bad (.inr (by simpa using ‹(!isQuery (cutAt 63 (afterHost D)).2.1) = true›))]
          · repeat (first | (with_reducible exact HBL5.out) | (with_reducible refine Below.setCell ?_ (by simp) _) | (with_reducible refine bel_drewN ?_ _))
      · refine bodyPost_ret (v := parseV (0, ⟨2, lower (hostOf D), (cutAt 63 (afterHost D)).1, (cutAt 63 (afterHost D)).2.1, (cutAt 63 (afterHost D)).2.2⟩)) ?h1 rfl ?h3
        case h1 => simp [results, Tryd.results10, go_sem, parseV, tgtV, zeroT, errV, hr6]
        case h3 =>
          refine ⟨ret_tuple ?_, ?_⟩
          · rw [HP.out, HI.out, if_pos rfl, behind_good (by rw [pathOf_2 _ ‹¬(cutAt 63 (afterHost D)).1 = []›]; exact ‹isPath (cutAt 63 (afterHost D)).1 = true›) (by simpa using ‹(!isQuery (cutAt 63 (afterHost D)).2.1) = false›), pathOf_2 _ ‹¬(cutAt 63 (afterHost D)).1 = []›]
          · repeat (first | (with_reducible exact HBL5.out) | (with_reducible refine Below.setCell ?_ (by simp) _) | (with_reducible refine bel_drewN ?_ _))
      · refine bodyPost_ret (v := parseV (23, zeroT)) ?h1 rfl ?h3
        case h1 => simp [results, Tryd.results10, go_sem, parseV, tgtV, zeroT, errV, hr6]
        case h3 =>
          refine ⟨ret_tuple ?_, ?_⟩
          · rw [HP.out, HI.out, if_pos rfl, behind_bad (.inl (by rw [pathOf_2 _ ‹¬(cutAt 63 (afterHost D)).1 = []›]; simpa using ‹¬isPath (cutAt 63 (afterHost D)).1 = true›))]
          · repeat (first | (with_reducible exact HBL5.out) | (with_reducible refine Below.setCell ?_ (by simp) _) | (with_reducible refine bel_drewN ?_ _))
  · have HH := Lib.hid n3
    have HA := Lib.hid n4
    have hkX : k < X.size := by rw [← len X, HX2.out]; exact n2
    rw [n1]
    clear n1 n2 n3 n4
    go_wp2_with fail
    have hRs : (X.extract k X.size).data.toList = afterHost D := by rw [HA.out]; first | rfl | (rw [Lib.extract_to_end, HX2.out])
    have hHs : (X.extract 0 k).data.toList = hostOf D := by rw [HH.out]; first | exact HX2.out | (rw [Lib.extract_from_zero, HX2.out])
    have hRz : (X.extract k X.size).size ≤ 65536 := by first | omega | (simp; omega) | simp
    have hHz : (X.extract 0 k).size ≤ 65536 := by first | omega | (simp; omega)
    have hcl := cutAt_len 63 (afterHost D)
    rw [← hRs, len, hRs] at hcl
    have T4 := T4 (X.extract 0 k)
    have HRs := Lib.hid hRs
    have HHs := Lib.hid hHs
    clear hRs hHs
    have HB4 := Lib.hid (show Below w.heap.size w (w2.setCell ⟨w.heap.size + 1, 1, none⟩ (.string (X.extract 0 k))) from HBL2.out.setCell (p := ⟨w.heap.size + 1, 1, none⟩) (by simp) _)
    cases hi : isHost (hostOf D) with
    | false =>
      have HI := Lib.hid hi
      refine (isHost_calls2 _ false _ hHz (by rw [HHs.out]; exact HI.out)).mono ?_
      clear hi
      rintro e w' ⟨rfl, rfl⟩
      go_wp2_with fail
      refine bodyPost_ret (v := parseV (23, zeroT)) ?h1 rfl ?h3
      case h1 => simp [results, Tryd.results10, go_sem, parseV, tgtV, zeroT, errV, hr3]
      case h3 =>
        refine ⟨ret_tuple ?_, ?_⟩
        · rw [HP.out, HI.out]; rfl
        · repeat (first | (with_reducible exact HBL2.out) | (with_reducible refine Below.setCell ?_ (by simp) _) | (with_reducible refine bel_drewN ?_ _))
    | true =>
      have HI := Lib.hid hi
      refine (isHost_calls2 _ true _ hHz (by rw [HHs.out]; exact HI.out)).mono ?_
      clear hi
      rintro e w' ⟨rfl, rfl⟩
      go_wp2_with fail
      refine (low_calls2 _ (hostOf D) _ hHz HHs.out HI.out).mono ?_
      rintro e w3 ⟨rfl, hb3⟩
      have T5 := T4.below hb3
      have HBL3 := Lib.hid (show Below w.heap.size w w3 from HB4.out.trans ⟨hb3.os, hb3.tape, hb3.output, hb3.size, fun i hi => hb3.block i (by simp; omega)⟩)
      have hr2 := (hr.below (HBL3.out.setCell (p := ⟨w.heap.size + 1, 1, none⟩) (by simp) (.string (txt (lower (hostOf D)))))).out
      have T6 := T5.put1 (txt (lower (hostOf D)))
      have HBL4 := Lib.hid (HBL3.out.setCell (p := ⟨w.heap.size + 1, 1, none⟩) (by simp) (.string (txt (lower (hostOf D)))))
      have hf5 := T5.fz
      have ht5 := T5.ts
      have hz5 := T5.lt
      clear hf3 ht3 hr3 hz3 hb3 T4 T5
      go_wp2_with fail
      refine (cut_calls2 _ (afterHost D) _ hRz HRs.out hr2).mono ?_
      rintro e w5 ⟨rfl, hd5⟩
      have HBL5 := Lib.hid (below_dr HBL4.out hd5)
      have T7 := T6.dr hd5
      clear hf5 ht5 hz5 hr2 hd5 T6
      have hf6 := T7.fz
      have ht6 := T7.ts
      have hr6 := T7.rs
      have hz6 := T7.lt
      clear T7
      have h47 := isPath_47
      go_wp2_with (first | (go_at_call 33; refine (isPath_calls _ _ (by rw [txt_size]; first | omega | simp)).mono ?_; rintro e w' ⟨rfl, rfl⟩) | (go_at_call 34; refine (isQuery_calls _ _ (by rw [txt_size]; omega)).mono ?_; rintro e w' ⟨rfl, rfl⟩))
      · refine bodyPost_ret (v := parseV (23, zeroT)) ?h1 rfl ?h3
        case h1 => simp [results, Tryd.results10, go_sem, parseV, tgtV, zeroT, errV, hr6]
        case h3 =>
          refine ⟨ret_tuple ?_, ?_⟩
          · rw [HP.out, HI.out, if_pos rfl, behind_bad (.inr (by simpa using ‹(!isQuery (cutAt 63 (afterHost D)).2.1) = true›))]
          · repeat (first | (with_reducible exact HBL5.out) | (with_reducible refine Below.setCell ?_ (by simp) _) | (with_reducible refine bel_drewN ?_ _))
      · refine bodyPost_ret (v := parseV (0, ⟨2, lower (hostOf D), [47], (cutAt 63 (afterHost D)).2.1, (cutAt 63 (afterHost D)).2.2⟩)) ?h1 rfl ?h3
        case h1 => simp [results, Tryd.results10, go_sem, parseV, tgtV, zeroT, errV, hr6]
        case h3 =>
          refine ⟨ret_tuple ?_, ?_⟩
          · rw [HP.out, HI.out, if_pos rfl, behind_good (by rw [pathOf_0 _ ‹(cutAt 63 (afterHost D)).1 = []›]; exact isPath_47) (by simpa using ‹(!isQuery (cutAt 63 (afterHost D)).2.1) = false›), pathOf_0 _ ‹(cutAt 63 (afterHost D)).1 = []›]
          · repeat (first | (with_reducible exact HBL5.out) | (with_reducible refine Below.setCell ?_ (by simp) _) | (with_reducible refine bel_drewN ?_ _))
      · refine bodyPost_ret (v := parseV (23, zeroT)) ?h1 rfl ?h3
        case h1 => simp [results, Tryd.results10, go_sem, parseV, tgtV, zeroT, errV, hr6]
        case h3 =>
          refine ⟨ret_tuple ?_, ?_⟩
          · rw [HP.out, HI.out, if_pos rfl, behind_bad (.inr (by simpa using ‹(!isQuery (cutAt 63 (afterHost D)).2.1) = true›))]
          · repeat (first | (with_reducible exact HBL5.out) | (with_reducible refine Below.setCell ?_ (by simp) _) | (with_reducible refine bel_drewN ?_ _))
      · refine bodyPost_ret (v := parseV (0, ⟨2, lower (hostOf D), (cutAt 63 (afterHost D)).1, (cutAt 63 (afterHost D)).2.1, (cutAt 63 (afterHost D)).2.2⟩)) ?h1 rfl ?h3
        case h1 => simp [results, Tryd.results10, go_sem, parseV, tgtV, zeroT, errV, hr6]
        case h3 =>
          refine ⟨ret_tuple ?_, ?_⟩
          · rw [HP.out, HI.out, if_pos rfl, behind_good (by rw [pathOf_2 _ ‹¬(cutAt 63 (afterHost D)).1 = []›]; exact ‹isPath (cutAt 63 (afterHost D)).1 = true›) (by simpa using ‹(!isQuery (cutAt 63 (afterHost D)).2.1) = false›), pathOf_2 _ ‹¬(cutAt 63 (afterHost D)).1 = []›]
          · repeat (first | (with_reducible exact HBL5.out) | (with_reducible refine Below.setCell ?_ (by simp) _) | (with_reducible refine bel_drewN ?_ _))
      · refine bodyPost_ret (v := parseV (23, zeroT)) ?h1 rfl ?h3
        case h1 => simp [results, Tryd.results10, go_sem, parseV, tgtV, zeroT, errV, hr6]
        case h3 =>
          refine ⟨ret_tuple ?_, ?_⟩
          · rw [HP.out, HI.out, if_pos rfl, behind_bad (.inl (by rw [pathOf_2 _ ‹¬(cutAt 63 (afterHost D)).1 = []›]; simpa using ‹¬isPath (cutAt 63 (afterHost D)).1 = true›))]
          · repeat (first | (with_reducible exact HBL5.out) | (with_reducible refine Below.setCell ?_ (by simp) _) | (with_reducible refine bel_drewN ?_ _))
end Go.Proofs.YthobmfnmenbkeaaDoor
end
/- The program's 'Parse' at every target, what is asked of its letters given. -/
section
set_option linter.unusedVariables false
set_option linter.unusedSimpArgs false
namespace Go.Proofs.YthobmfnmenbkeaaDoor
open Go.RowKit Tg

set_option maxRecDepth 100000 in
set_option maxHeartbeats 1000000 in
theorem parse_star (s : ByteArray) (w : World) (h1 : s.data.toList = [42]) : Calls Tryd.prog 10 #[.string s] w fun e w' => e = .returned (parseV (parse s.data.toList)) ∧ Below w.heap.size w w' := by
  have HP := Lib.hid (show parse s.data.toList = (0, ⟨3, [], [], [], false⟩) by rw [h1]; decide)
  have hs : s.size = 1 := by rw [← len, h1]; rfl
  have hs2 : (s.size : Int) ≤ 65536 := by omega
  have e1 := str_is h1
  have HS := Lib.hid hs
  clear h1 hs
  go_enter Tryd.func10, Tryd.ntmps10
  go_wp2_with fail
  refine bodyPost_ret (v := parseV (0, ⟨3, [], [], [], false⟩)) ?h1 rfl ?h3
  case h1 => simp [results, Tryd.results10, go_sem, parseV, tgtV, zeroT, errV]
  case h3 =>
    refine ⟨by rw [HP.out], ?_⟩
    repeat (first | (with_reducible refine Below.setCell ?_ (by simp) _) | (with_reducible refine bel_drewN ?_ _) | (with_reducible refine Below.alloc ?_ (by simp) _) | (with_reducible exact Below.refl _ _))

theorem parse_calls (s : ByteArray) (w : World) (hr : Rdy w) (hL : 7 ≤ s.size → s.size ≤ 65536 → LowOn (s.extract 0 7)) (hA : 7 ≤ s.size → s.size ≤ 65536 → AnyOn (s.extract 7 s.size)) :
    Calls Tryd.prog 10 #[.string s] w fun e w' => e = .returned (parseV (parse s.data.toList)) ∧ Below w.heap.size w w' := by
  by_cases hl : s.size ≤ 65536
  · by_cases h1 : s.data.toList = [42]
    · exact parse_star s w h1
    · by_cases h7 : s.size < 7
      · exact parse_plain s w hr hl h1 h7
      · by_cases hn : lower (s.data.toList.take 7) = http
        · exact parse_host s w hr hl h1 (by omega) (hL (by omega) hl) (hA (by omega) hl) hn
        · exact parse_other s w hr hl h1 (by omega) (hL (by omega) hl) hn
  · exact parse_long s w (by omega)

theorem parse_ascii (s : ByteArray) (w : World) (hr : Rdy w) (ha : ∀ c ∈ s.data.toList, c.toNat < 128) : Calls Tryd.prog 10 #[.string s] w fun e w' => e = .returned (parseV (parse s.data.toList)) ∧ Below w.heap.size w w' := by
  refine parse_calls s w hr (fun _ h => lowOn_ascii _ (by simp; omega) fun c hc => ha c ?_) (fun _ h => anyOn_ascii _ (by simp; omega) fun c hc => ha c ?_)
  · rw [Lib.extract_from_zero] at hc; exact List.mem_of_mem_take hc
  · rw [Lib.extract_to_end] at hc; exact List.mem_of_mem_drop hc
end Go.Proofs.YthobmfnmenbkeaaDoor
end
/- What strings.ToLower and strings.IndexAny make of texts that are not ASCII, as far as a target's reading asks: plain words; no program stands in this text. -/
section
namespace Go.Proofs.YthobmfnmenbkeaaDoor.Tg

theorem dec_high (s : ByteArray) (p : Nat) (h : 128 ≤ (s.get! p).toNat) : 128 ≤ (Utf8.decode s p).1 ∧ ∀ j, j < (Utf8.decode s p).2 → 128 ≤ (s.get! (p + j)).toNat := by
  unfold Utf8.decode Utf8.runeError
  dsimp only
  rw [if_neg (show ¬ (s.get! (p + 0)).toNat < 128 by rw [Nat.add_zero]; omega)]
  have one : ∀ j, j < 1 → 128 ≤ (s.get! (p + j)).toNat := fun j hj => (show j = 0 by omega) ▸ h
  split
  · rename_i c
    simp only [Bool.and_eq_true, decide_eq_true_eq, beq_iff_eq] at c
    split
    · refine ⟨by omega, fun j hj => ?_⟩
      have hj2 : j = 0 ∨ j = 1 := by dsimp only at hj; omega
      rcases hj2 with rfl | rfl
      · exact h
      · have := c.2.2; omega
    · exact ⟨by decide, one⟩
  · split
    · rename_i c
      simp only [Bool.and_eq_true, decide_eq_true_eq, beq_iff_eq] at c
      split
      · rename_i d
        simp only [Bool.and_eq_true, decide_eq_true_eq] at d
        refine ⟨by omega, fun j hj => ?_⟩
        have hj2 : j = 0 ∨ j = 1 ∨ j = 2 := by dsimp only at hj; omega
        rcases hj2 with rfl | rfl | rfl
        · exact h
        · have := c.1.2.2; omega
        · have := c.2.2; omega
      · exact ⟨by decide, one⟩
    · split
      · rename_i c
        simp only [Bool.and_eq_true, decide_eq_true_eq, beq_iff_eq] at c
        split
        · rename_i d
          simp only [Bool.and_eq_true, decide_eq_true_eq] at d
          refine ⟨by omega, fun j hj => ?_⟩
          have hj2 : j = 0 ∨ j = 1 ∨ j = 2 ∨ j = 3 := by dsimp only at hj; omega
          rcases hj2 with rfl | rfl | rfl | rfl
          · exact h
          · have := c.1.1.2.2; omega
          · have := c.1.2.2; omega
          · have := c.2.2; omega
        · exact ⟨by decide, one⟩
      · exact ⟨by decide, one⟩

/-- the letters of the scheme's head -/
def inHead (x : Int) : Prop := x = 104 ∨ x = 116 ∨ x = 112 ∨ x = 58 ∨ x = 47
/-- no row of the table leads from beyond ASCII to one of these letters -/
def rowOff (x : Lib.CaseRow) : Bool := [104, 116, 112, 58, 47].all fun c : Int => decide (1114111 < x.delta 1) || decide (c - x.delta 1 < 128) || decide (c - x.delta 1 < x.1) || decide ((x.2.1 : Int) < c - x.delta 1)
set_option maxRecDepth 100000 in
theorem rows_off : Lib.caseT.all rowOff = true := by decide +kernel
theorem rowOff_at (i : Nat) (hi : i < Lib.caseA.size) : rowOff (Lib.caseA.getD i (0, 0, 0, 0, 0)) = true := by
  have h := List.all_eq_true.1 rows_off
  unfold Lib.caseA at hi ⊢
  have hl : i < Lib.caseT.length := by simpa using hi
  have : Lib.caseT.toArray.getD i (0, 0, 0, 0, 0) = Lib.caseT[i] := by simp [Array.getD, hl]
  rw [this]
  exact h _ (List.getElem_mem hl)
theorem lookup_in (T : Array Lib.CaseRow) (r : Int) : ∀ (f lo hi i : Nat), hi ≤ T.size → Lib.lookupIdx T r f lo hi = some i → i < T.size ∧ ((T.getD i (0, 0, 0, 0, 0)).1 : Int) ≤ r ∧ r ≤ ((T.getD i (0, 0, 0, 0, 0)).2.1 : Int)
  | 0, _, _, _, _, h => by simp [Lib.lookupIdx] at h
  | f + 1, lo, hi, i, hh, h => by
    rw [Lib.lookupIdx] at h
    by_cases h1 : lo < hi
    · rw [if_pos h1] at h
      by_cases h2 : ((T.getD ((lo + hi) / 2) (0, 0, 0, 0, 0)).1 : Int) ≤ r ∧ r ≤ ((T.getD ((lo + hi) / 2) (0, 0, 0, 0, 0)).2.1 : Int)
      · rw [if_pos h2] at h
        obtain rfl := Option.some.inj h
        exact ⟨by omega, h2⟩
      · rw [if_neg h2] at h
        by_cases h3 : r < ((T.getD ((lo + hi) / 2) (0, 0, 0, 0, 0)).1 : Int)
        · rw [if_pos h3] at h; exact lookup_in T r f _ _ i (by omega) h
        · rw [if_neg h3] at h; exact lookup_in T r f _ _ i hh h
    · rw [if_neg h1] at h; cases h
theorem low_off (r : Int) (hr : 128 ≤ r) : ¬ inHead (Lib.toLowerU r) := by
  unfold Lib.toLowerU
  rw [if_neg (by omega)]
  unfold Lib.toR Lib.lookupGo
  cases h : Lib.lookupIdx Lib.caseA r (Lib.caseA.size + 1) 0 Lib.caseA.size with
  | none => simp only [Option.map_none]; unfold inHead; omega
  | some i =>
    obtain ⟨h1, h2, h3⟩ := lookup_in _ _ _ _ _ _ (Nat.le_refl _) h
    have ho := rowOff_at i h1
    simp only [Option.map_some]
    generalize Lib.caseA.getD i (0, 0, 0, 0, 0) = x at *
    unfold rowOff at ho
    simp only [List.all_cons, List.all_nil, Bool.and_true, Bool.and_eq_true, Bool.or_eq_true, decide_eq_true_eq] at ho
    unfold Lib.convertR inHead
    split
    · have : ((1 % 2 : Nat) : Int) = 1 := rfl
      rw [this]; omega
    · omega

theorem enc_high (x : Int) (h : ¬ (0 ≤ x ∧ x ≤ 127)) (h0 : 0 ≤ x) : ∃ b t, Lib.encodeRune x = b :: t ∧ 128 ≤ b.toNat := by
  unfold Lib.encodeRune Lib.encodeRuneZ
  rw [if_neg h]
  have cv : ∀ n : Int, 192 ≤ n → n ≤ 255 → 128 ≤ (n.toNat.toUInt8).toNat := fun n h1 h2 => by
    have : n.toNat < 256 := by omega
    simp [Nat.toUInt8, Nat.mod_eq_of_lt this]; omega
  split
  · exact ⟨_, _, rfl, cv _ (by omega) (by omega)⟩
  · split
    · exact ⟨_, _, rfl, cv _ (by omega) (by omega)⟩
    · split
      · exact ⟨_, _, rfl, cv _ (by omega) (by omega)⟩
      · exact ⟨_, _, rfl, cv _ (by omega) (by omega)⟩

theorem dec_high_list (b : UInt8) (t : List UInt8) (h : 128 ≤ b.toNat) : 128 ≤ (Lib.decodeL (b :: t)).1 :=
  (dec_high ⟨(b :: t).toArray⟩ 0 (by simpa [ByteArray.get!] using h)).1

/-- a text whose small letters are all of the head's is ASCII, and made small byte by byte -/
theorem lowD_head : ∀ (n : Nat) (l : List UInt8), l.length ≤ n → (∀ c ∈ Lib.toLowerD l, inHead c.toNat) → ∀ b ∈ l, b.toNat < 128
  | 0, l, hl, _ => by obtain rfl : l = [] := List.eq_nil_of_length_eq_zero (by omega)
                      simp
  | n + 1, [], _, _ => by simp
  | n + 1, b :: t, hl, h => by
    unfold Lib.toLowerD at h
    rw [Lib.mapD_step Lib.toLowerU (b :: t) (by simp)] at h
    by_cases hb : b.toNat < 128
    · rw [Lib.decodeL_ascii b t hb] at h
      intro c hc
      rcases List.mem_cons.1 hc with rfl | hc
      · exact hb
      · exact lowD_head n t (by simp at hl; omega) (fun x hx => h x (by simp at hx ⊢; exact .inr hx)) c hc
    · exfalso
      have hd := dec_high_list b t (by omega)
      have hd2 := Lib.decodeL_rune (b :: t)
      generalize (Lib.decodeL (b :: t)).1 = r at *
      have hrg := Lib.toLowerU_range r hd2
      rw [if_pos hrg.1] at h
      have hof := low_off (r : Int) (by omega)
      by_cases hx : Lib.toLowerU r ≤ 127
      · have e : Lib.encodeRune (Lib.toLowerU r) = [(Lib.toLowerU (r : Int)).toNat.toUInt8] := by
          unfold Lib.encodeRune; rw [Lib.encodeRuneZ_one hrg.1 hx]; rfl
        rw [e] at h
        have := h _ (List.mem_append_left _ (List.mem_singleton.2 rfl))
        apply hof
        have e2 : ((Lib.toLowerU (r : Int)).toNat.toUInt8).toNat = (Lib.toLowerU (r : Int)).toNat := by
          have : (Lib.toLowerU (r : Int)).toNat < 256 := by omega
          simp [Nat.toUInt8, Nat.mod_eq_of_lt this]
        rw [e2] at this
        rwa [Int.toNat_of_nonneg hrg.1] at this
      · obtain ⟨c, u, e, hc⟩ := enc_high (Lib.toLowerU r) (by omega) hrg.1
        rw [e] at h
        have := h c (by simp)
        unfold inHead at this; omega

theorem lowD_http (l : List UInt8) : (Lib.toLowerD l == http) = (lower l == http) := by
  have lowA : Lib.toLowerA l = lower l := by
    unfold Lib.toLowerA lower
    exact List.map_congr_left fun c _ => rfl
  by_cases ha : ∀ b ∈ l, b.toNat < 128
  · rw [Lib.toLowerD_ascii l ha, lowA]
  · have h1 : (Lib.toLowerD l == http) = false := by
      rw [beq_eq_false_iff_ne]
      intro e
      apply ha
      exact lowD_head l.length l (Nat.le_refl _) (by rw [e]; unfold http inHead; simp)
    have h2 : (lower l == http) = false := by
      rw [beq_eq_false_iff_ne]
      intro e
      apply ha
      intro b hb
      have hm : low b ∈ lower l := List.mem_map.2 ⟨b, hb, rfl⟩
      rw [e] at hm
      unfold http low at hm
      split at hm
      · rename_i c
        simp only [Bool.and_eq_true, decide_eq_true_eq, UInt8.le_iff_toNat_le] at c
        have := c.2; simp at this; omega
      · simp at hm
        rcases hm with rfl | rfl | rfl | rfl | rfl <;> decide
    rw [h1, h2]

theorem stop_has' : ∀ c : UInt8, ([47, 63] : List UInt8).contains c = Tg.stop c := all_bytes _ (by decide +kernel)
theorem any_none : ∀ l : List UInt8, (∀ j, j < l.length → Tg.stop (l.getD j 0) = false) → Lib.indexAny l [47, 63] = -1
  | [], _ => rfl
  | x :: r, h => by
    rw [Lib.indexAny, stop_has', show Tg.stop x = false from h 0 (by simp)]
    rw [any_none r (fun j hj => by have := h (j + 1) (by simp; omega); simpa using this)]
    rfl
theorem any_at : ∀ (l : List UInt8) (p : Nat), p < l.length → (∀ j, j < p → Tg.stop (l.getD j 0) = false) → Tg.stop (l.getD p 0) = true → Lib.indexAny l [47, 63] = p
  | [], p, hp, _, _ => absurd hp (by simp)
  | x :: r, 0, _, _, h => by
    rw [Lib.indexAny, stop_has', show Tg.stop x = true from h]; rfl
  | x :: r, p + 1, hp, h1, h2 => by
    rw [Lib.indexAny, stop_has', show Tg.stop x = false from h1 0 (by omega)]
    rw [any_at r p (by simpa using hp) (fun j hj => by have := h1 (j + 1) (by omega); simpa using this) (by simpa using h2)]
    simp only [Bool.false_eq_true, if_false]
    rw [if_neg (by rw [beq_iff_eq]; omega)]; omega
end Go.Proofs.YthobmfnmenbkeaaDoor.Tg
end
/- strings.IndexRune and strings.IndexAny at the two bytes that end a host, for every rune and every text: walked. -/
section
set_option linter.unusedVariables false
set_option linter.unusedSimpArgs false
namespace Go.Proofs.YthobmfnmenbkeaaDoor
open Go.RowKit Tg

/-- an iterator's block, set -/
def setObj' (w : World) (k : Nat) (o : Obj) : World := { w with heap := w.heap.setIfInBounds k o }
theorem below_setObj {B : Nat} {w w' : World} (h : Below B w w') (k : Nat) (hk : B ≤ k) (o : Obj) : Below B w (setObj' w' k o) :=
  ⟨h.os, h.tape, h.output, by simpa [setObj'] using h.size, fun i hi => by
    rw [← h.block i hi]
    simp only [setObj']
    rw [Array.getElem?_setIfInBounds]
    split
    · omega
    · rfl⟩
theorem setObj_at {w : World} {k : Nat} {o p : Obj} (h : w.heap[k]? = some o) : (setObj' w k p).heap[k]? = some p := by
  have := (Array.getElem?_eq_some_iff.1 h).1
  simp [setObj', Array.getElem?_setIfInBounds, this]
theorem run_next_at {P : Program} {w : World} {k : Nat} {s : ByteArray} {pos : Nat} (hk : w.heap[k]? = some (.stringIter s pos)) (h : pos < s.size) (ty : TypeId) :
    (Instr.next (.pointer (some ⟨k, 0, none⟩)) true ty).run P w = .ok (.tuple #[.bool true, .int .i64 pos, .int .i32 (Utf8.decode s pos).1]) (setObj' w k (.stringIter s (pos + (Utf8.decode s pos).2))) := by
  simp only [Instr.next, getObj, setObj, Sem.run_bind, Sem.run, hk, Result.andThen, h, if_true]
  simp [goInt, setObj']
theorem run_next_out {P : Program} {w : World} {k : Nat} {s : ByteArray} {pos : Nat} (hk : w.heap[k]? = some (.stringIter s pos)) (h : ¬ pos < s.size) (ty : TypeId) :
    (Instr.next (.pointer (some ⟨k, 0, none⟩)) true ty).run P w = .ok (.tuple #[.bool false]) w := by
  simp [Instr.next, getObj, Sem.run, hk, h]

set_option maxRecDepth 100000 in
set_option maxHeartbeats 4000000 in
theorem rune_fffd (w : World) : Calls Tryd.prog 59 #[.string ⟨#[47, 63]⟩, .int .i32 65533] w fun e w' => e = .returned (.int .i64 (-1)) ∧ Below w.heap.size w w' := by
  go_enter Tryd.func59, Tryd.ntmps59
  go_wp2_with fail
  go_loopg [5, 6] 2 (fun g _ _ wx => ∃ i : Nat, i + g = 2 ∧ wx = w.iter ⟨#[47, 63]⟩ i)
  case atStart => exact ⟨0, by omega, rfl⟩
  case round =>
    obtain ⟨i, hig, rfl⟩ := hrel
    cases gk with
    | zero =>
      obtain rfl : i = 2 := by omega
      have hnx := fun ty => run_next_end (P := Tryd.prog) w ⟨#[47, 63]⟩ 2 ty (by decide)
      go_wp2_with fail
      go_ret
      exact ⟨rfl, (Below.refl _ _).alloc (Nat.le_refl _) _⟩
    | succ g =>
      have hi : i = 0 ∨ i = 1 := by omega
      rcases hi with rfl | rfl
      · have hnx : ∀ ty, (Instr.next (.pointer (some ⟨w.heap.size, 0, none⟩)) true ty).run Tryd.prog (w.iter ⟨#[47, 63]⟩ 0) = .ok (.tuple #[.bool true, .int .i64 0, .int .i32 47]) (w.iter ⟨#[47, 63]⟩ 1) := fun ty => run_next_ascii w ⟨#[47, 63]⟩ 0 ty (by decide) (by decide)
        go_wp2_with fail
        go_roundg g
        case measure => omega
        case rel => exact ⟨1, by omega, rfl⟩
      · have hnx : ∀ ty, (Instr.next (.pointer (some ⟨w.heap.size, 0, none⟩)) true ty).run Tryd.prog (w.iter ⟨#[47, 63]⟩ 1) = .ok (.tuple #[.bool true, .int .i64 1, .int .i32 63]) (w.iter ⟨#[47, 63]⟩ 2) := fun ty => run_next_ascii w ⟨#[47, 63]⟩ 1 ty (by decide) (by decide)
        go_wp2_with fail
        go_roundg g
        case measure => omega
        case rel => exact ⟨2, by omega, rfl⟩

theorem two_bytes (q : ByteArray) (h : q.size = 2) : ∃ a b, q = ⟨#[a, b]⟩ := by
  obtain ⟨⟨l⟩⟩ := q
  match l, h with
  | [a, b], _ => exact ⟨a, b, rfl⟩
theorem valid_of {r : Int} (h : Lib.validRune r = true) : Utf8.valid r = true := by
  unfold Lib.validRune at h
  unfold Utf8.valid
  simp only [decide_eq_true_eq] at h
  simp only [Bool.or_eq_true, Bool.and_eq_true, decide_eq_true_eq]
  omega

set_option maxRecDepth 100000 in
set_option maxHeartbeats 4000000 in
theorem rune_high (r : Int) (w : World) (h1 : 128 ≤ r) (h2 : r ≤ 1114111) : Calls Tryd.prog 59 #[.string ⟨#[47, 63]⟩, .int .i32 r] w fun e w' => e = .returned (.int .i64 (-1)) ∧ Below w.heap.size w w' := by
  by_cases hf : r = 65533
  · subst hf; exact rune_fffd w
  · have hfe : (r == 65533) = false := by rw [beq_eq_false_iff_ne]; exact hf
    cases hv : Lib.validRune r with
    | false =>
      go_enter Tryd.func59, Tryd.ntmps59
      go_wp2_with fail
      refine (Tryd.utf8_ValidRune _ _).mono ?_
      rw [hv]
      rintro e w' ⟨rfl, rfl⟩
      go_wp2_with fail
      go_ret
      exact ⟨rfl, Below.refl _ _⟩
    | true =>
      obtain ⟨q, hq, f1, f2, f3⟩ : ∃ q : ByteArray, Utf8.encode r = q ∧ 2 ≤ q.size ∧ q.size ≤ 4 ∧ ∀ h : q.size - 1 < q.size, 128 ≤ (q[q.size - 1]'h).toNat := ⟨_, rfl, encode_facts r (valid_of hv) h1⟩
      have HV := Lib.hid hv
      have HQ := Lib.hid hq
      clear hv hq
      have f4 := f3 (by omega)
      clear f3
      have hcv : ∀ W : World, (convert 21 9 (.int .i32 r)).run Tryd.prog W = .ok (.string q) W := fun W => by
        rw [run_convert_int_string W 21 9 .i32 r (by kernel_rfl) Tryd.underlying9, HQ.out]
      by_cases hn : q.size = 2
      · obtain ⟨a, b, rfl⟩ := two_bytes q hn
        have f5 : 128 ≤ b.toNat := f4
        have hb : ∀ (p : 1 < ({ data := #[47, 63] } : ByteArray).size) (q : 1 < ({ data := #[a, b] } : ByteArray).size), ((((({ data := #[47, 63] } : ByteArray)[1]'p).toNat : Int)) != ((({ data := #[a, b] } : ByteArray)[1]'q).toNat : Int)) = true := fun _ _ => by
          show ((63 : Int) != (b.toNat : Int)) = true
          rw [bne_iff_ne]; omega
        clear hn f1 f2 f4
        go_enter Tryd.func59, Tryd.ntmps59
        go_wp2_with fail
        refine (Tryd.utf8_ValidRune _ _).mono ?_
        rw [HV.out]
        rintro e w' ⟨rfl, rfl⟩
        go_wp2_with fail
        go_step3
        go_wp2_with fail
        refine wp_loop_rounds 1 ?_
        rw [rounds_succ]
        go_wp2_with fail
        go_step3
        go_wp2_with fail
        go_quiet (fail)
        go_wp2_with fail
        have hbq := below_of_dr (w := w') ⟨⟨nq, rfl⟩⟩ w'.heap.size
        generalize w'.drewN nq = wq at *
        have hib : ∀ c : UInt8, Lib.indexByte ByteArray.empty.data.toList c = -1 := fun c => rfl
        go_quiet ((go_at_call 65; exact quiet_eq (indexByte_calls _ _ _)))
        go_wp2_with fail
        rw [Exit.noGoto_ret]
        go_wp2_with fail
        rw [Exit.noGoto_ret]
        go_ret
        exact ⟨rfl, bel_drewN hbq _⟩
      · have hn3 : 3 ≤ q.size := by omega
        clear hn f4
        go_enter Tryd.func59, Tryd.ntmps59
        go_wp2_with fail
        refine (Tryd.utf8_ValidRune _ _).mono ?_
        rw [HV.out]
        rintro e w' ⟨rfl, rfl⟩
        go_wp2_with fail
        go_step3
        go_wp2_with fail
        refine wp_loop_rounds 1 ?_
        rw [rounds_succ]
        go_wp2_with fail
        rw [Exit.noGoto_ret]
        go_ret
        exact ⟨rfl, Below.refl _ _⟩

theorem get_of (s : ByteArray) (i : Nat) (h : i < s.size) : s.get! i = s[i] := by
  simp [ByteArray.get!, getElem!_pos, h]
  rfl
theorem stop_high : ∀ c : UInt8, 128 ≤ c.toNat → Tg.stop c = false := all_bytes _ (by decide +kernel)
theorem iterPos_of {w : World} {k : Nat} {s : ByteArray} {p : Nat} (h : w.heap[k]? = some (.stringIter s p)) : w.iterPos k = p := by simp [World.iterPos, h]
theorem stop_idx : ∀ c : UInt8, decide (0 ≤ Lib.indexByte [47, 63] c) = Tg.stop c := all_bytes _ (by decide +kernel)
theorem getD_of (s : ByteArray) (i : Nat) (h : i < s.size) : s.data.toList.getD i 0 = s[i] := by
  rw [List.getD_eq_getElem?_getD, List.getElem?_eq_getElem (by simpa using h)]
  rfl
theorem getD_get (s : ByteArray) (i : Nat) : s.data.toList.getD i 0 = s.get! i := by
  by_cases h : i < s.size
  · rw [getD_of s i h, get_of s i h]
  · have h1 : s.data.toList.getD i 0 = 0 := by
      rw [List.getD_eq_getElem?_getD, List.getElem?_eq_none (by simp; omega)]; rfl
    rw [h1]
    have h2 : ¬ i < s.data.size := h
    show (0 : UInt8) = s.data[i]!
    rw [getElem!_neg s.data i h2]; rfl
set_option maxRecDepth 100000 in
set_option maxHeartbeats 4000000 in
theorem any_short (s : ByteArray) (w : World) (h8 : s.size ≤ 8) : Calls Tryd.prog 30 #[.string s, .string ⟨#[47, 63]⟩] w fun e w' => e = .returned (.int .i64 (stopAt s.data.toList)) ∧ Below w.heap.size w w' := by
  have hsa : ∀ W : World, Calls Tryd.prog 60 #[.int .i64 s.size] W fun e w' => e = .returned (.bool false) ∧ W = w' := fun W => by
    refine (Tryd.strings_shouldUseASCIISet _ W).mono ?_
    rintro e w' ⟨rfl, rfl⟩
    exact ⟨ret_bool (decide_eq_false (by omega)), rfl⟩
  have HSA := Lib.hid hsa
  clear hsa
  go_enter Tryd.func30, Tryd.ntmps30
  go_wp2_with fail
  refine (HSA.out _).mono ?_
  rintro e w' ⟨rfl, rfl⟩
  go_wp2_with fail
  have HB0 := Lib.hid (below_new w (.stringIter s 0))
  have HI0 := Lib.hid (World.iter_heap w s 0)
  go_loopw [9, 10] (fun _ _ wr => ∃ i : Nat, wr.heap[w.heap.size]? = some (.stringIter s i) ∧ (∀ j, j < i → Tg.stop (s.data.toList.getD j 0) = false) ∧ Below w.heap.size w wr) (fun _ _ wr => s.size - wr.iterPos w.heap.size)
  case atStart => exact ⟨0, HI0.out, fun j hj => absurd hj (by omega), HB0.out⟩
  case round =>
    obtain ⟨i, hit, hno, hbw⟩ := hrel
    have HPW := Lib.hid (iterPos_of hit)
    have HIT := Lib.hid hit
    have HNO := Lib.hid hno
    have hz := hbw.size
    clear hno
    by_cases hlt : i < s.size
    · obtain ⟨wq, hwq⟩ : ∃ wq, wq = setObj' wr w.heap.size (.stringIter s (i + (Utf8.decode s i).2)) := ⟨_, rfl⟩
      have hnx : ∀ ty, (Instr.next (.pointer (some ⟨w.heap.size, 0, none⟩)) true ty).run Tryd.prog wr = .ok (.tuple #[.bool true, .int .i64 i, .int .i32 (Utf8.decode s i).1]) wq := fun ty => by rw [hwq]; exact run_next_at hit hlt ty
      have hitq : wq.heap[w.heap.size]? = some (.stringIter s (i + (Utf8.decode s i).2)) := by rw [hwq]; exact setObj_at hit
      have hbq : Below w.heap.size w wq := by rw [hwq]; exact below_setObj hbw _ (Nat.le_refl _) _
      have hzq := hbq.size
      have hw1 := Lib.decode_width_pos s i hlt
      have HITQ := Lib.hid hitq
      have HPQ := Lib.hid (iterPos_of hitq)
      clear hwq hitq hit
      by_cases ha : s[i].toNat < 128
      · have hd := decode_ascii s i hlt ha
        rw [hd] at hnx HITQ HPQ
        have hcon : decide (0 ≤ Lib.indexByte [47, 63] s[i]) = Tg.stop s[i] := stop_idx s[i]
        have hback : ((s[i].toNat : Int)).toNat.toUInt8 = s[i] := by simp
        have HGD := Lib.hid (getD_of s i hlt)
        clear hd
        go_wp2_with fail
        refine (Tryd.strings_IndexRune_ascii _ _ _ (by omega) (by omega)).mono ?_
        rw [hback]
        rintro e w' ⟨rfl, rfl⟩
        cases hst : Tg.stop s[i] with
        | true =>
          rw [hst] at hcon
          go_wp2_with fail
          go_ret
          exact ⟨ret_int (by unfold stopAt; rw [any_at _ i (by simpa using hlt) HNO.out (by rw [HGD.out]; exact hst)]), hbq⟩
        | false =>
          rw [hst] at hcon
          go_wp2_with fail
          exact ⟨⟨i + 1, HITQ.out, fun j hj => by
            rcases Nat.lt_or_ge j i with h | h
            · exact HNO.out j h
            · obtain rfl : j = i := by omega
              rw [HGD.out]; exact hst, hbq⟩, by rw [HPW.out, HPQ.out]; omega⟩
      · obtain ⟨h1, h2⟩ := Tg.dec_high s i (by rw [get_of s i hlt]; omega)
        have H2 := Lib.hid h2
        have h3 := Lib.rune_le s i
        clear h2
        generalize (Utf8.decode s i).1 = r at *
        generalize (Utf8.decode s i).2 = n at *
        go_wp2_with fail
        refine (rune_high _ _ (by omega) (by omega)).mono ?_
        rintro e w6 ⟨rfl, hb6⟩
        have hbw6 := hbq.trans ⟨hb6.os, hb6.tape, hb6.output, hb6.size, fun i hi => hb6.block i (by omega)⟩
        have hit6 := (hb6.block w.heap.size (Array.getElem?_eq_some_iff.1 HITQ.out).1).trans HITQ.out
        have HP6 := Lib.hid (iterPos_of hit6)
        have HIT6 := Lib.hid hit6
        clear hit6 hb6
        go_wp2_with fail
        exact ⟨⟨i + n, HIT6.out, fun j hj => by
          rcases Nat.lt_or_ge j i with h | h
          · exact HNO.out j h
          · have := H2.out (j - i) (by omega)
            rw [show i + (j - i) = j by omega] at this
            rw [getD_get]; exact stop_high _ this, hbw6⟩, by rw [HPW.out, HP6.out]; omega⟩
    · have hnx := run_next_out (P := Tryd.prog) hit hlt
      clear hit
      go_wp2_with fail
      go_ret
      exact ⟨ret_int (by unfold stopAt; rw [any_none _ (fun j hj => HNO.out j (by simp at hj; omega))]), hbw⟩

theorem anyOn_any (x : ByteArray) (hx : x.size ≤ 65536) : AnyOn x := by
  intro w _
  by_cases h8 : x.size ≤ 8
  · exact any_short x w h8
  · refine (Tryd.strings_IndexAny_long (fun w => by kernel_rfl) x ⟨#[47, 63]⟩ w (by decide) (by omega) (by omega) (by decide) (fun j b hj => by
      match j, hj with
      | 0, hj => simp at hj; subst hj; decide
      | 1, hj => simp at hj; subst hj; decide
      | j + 2, hj => simp at hj)).mono ?_
    rintro e w' ⟨rfl, rfl⟩
    exact ⟨rfl, ((Below.refl _ _).alloc (Nat.le_refl _) _).alloc (by simp) _⟩
theorem lowOn_any (x : ByteArray) (hx : x.size ≤ 65536) : LowOn x := by
  intro w hr
  refine (Tryd.strings_ToLower_any x w (by omega) hr.cas hr.utf).mono ?_
  rintro e w' ⟨h1, h2⟩
  exact ⟨_, h1, Tg.lowD_http _, h2⟩
/-- the program's Parse, at every text -/
theorem parse_any (s : ByteArray) (w : World) (hr : Rdy w) : Calls Tryd.prog 10 #[.string s] w fun e w' => e = .returned (parseV (parse s.data.toList)) ∧ Below w.heap.size w w' :=
  parse_calls s w hr (fun _ h => lowOn_any _ (by simp; omega)) (fun _ h => anyOn_any _ (by simp; omega))
end Go.Proofs.YthobmfnmenbkeaaDoor
end
/- The program's 'Segments', walked; and how a list of texts lies in memory. -/
section
set_option linter.unusedVariables false
set_option linter.unusedSimpArgs false
namespace Go.Proofs.YthobmfnmenbkeaaDoor
open Go.RowKit Tg

theorem normal_calls (s : ByteArray) (w : World) (hs : s.size ≤ 4294967280) (hr : Rdy w) : Calls Tryd.prog 14 #[.string s] w fun e w' => e = .returned (textOr (normal s.data.toList) 23) ∧ Below w.heap.size w w' := by
  cases h : isPath s.data.toList with
  | false => exact normal_no s w (by omega) h
  | true => exact normal_yes s w hs hr h

/-- a list of texts, as it lies in memory -/
def StrsAt (w : World) (v : Value) (xs : List (List UInt8)) : Prop :=
  (xs = [] ∧ v = .slice none 0 0) ∨ ∃ b cap, v = .slice (some ⟨b, 0, none⟩) xs.length cap ∧ b < w.heap.size ∧ ∀ j (h : j < xs.length), w.cell? ⟨b, j, none⟩ = some (.string (txt xs[j]))
theorem StrsAt.below {w w' : World} {v : Value} {xs : List (List UInt8)} (h : StrsAt w v xs) (hb : Below w.heap.size w w') : StrsAt w' v xs := by
  rcases h with h | ⟨b, cap, h1, h2, h3⟩
  · exact .inl h
  · exact .inr ⟨b, cap, h1, Nat.lt_of_lt_of_le h2 hb.size, fun j hj => (hb.cell (p := ⟨b, j, none⟩) h2).trans (h3 j hj)⟩

/-- the segments of a path, decoded; or an error's number -/
def segsOut (l : List UInt8) : Int × List (List UInt8) := match normal l with
  | none => (23, [])
  | some p => if 64 < (cuts 47 p.tail).length then (2, []) else (0, (cuts 47 p.tail).map fun x => (decoded x).getD [])
def SegsIs (l : List UInt8) (w : World) (e : Ending) (w' : World) : Prop := ∃ v, e = .returned (.tuple #[v, errV (segsOut l).1]) ∧ StrsAt w' v (segsOut l).2 ∧ Below w.heap.size w w'

theorem meant_len : ∀ (n : Nat) (l : List UInt8), l.length ≤ n → (meant l).length ≤ l.length := by
  intro n
  induction n with
  | zero => intro l hl; obtain rfl : l = [] := List.eq_nil_of_length_eq_zero (by omega); simp [meant]
  | succ n ih =>
    intro l hl
    match l with
    | [] => simp [meant]
    | c :: r =>
      cases hc : code (c :: r) with
      | none =>
        rw [meant_none hc]
        have := ih r (by simp at hl; omega)
        simp; omega
      | some v =>
        obtain ⟨q, hq⟩ := code_37_of hc
        simp only [List.cons.injEq] at hq
        obtain ⟨rfl, rfl⟩ := hq
        match r, hc, hl with
        | [], hc, _ => simp [code] at hc
        | [x], hc, _ => simp [code] at hc
        | x :: y :: q, hc, hl =>
          rw [code_cons, if_pos rfl] at hc
          rw [meant_code hc]
          have := ih q (by simp at hl; omega)
          have h3 : (if unres v then [v] else coded v).length ≤ 3 := by split <;> simp [coded]
          simp at h3 ⊢; omega
theorem normal_len {l p : List UInt8} (h : normal l = some p) : p.length ≤ l.length := by
  unfold normal segs at h
  by_cases hp : isPath l = true
  · rw [if_pos hp] at h
    obtain ⟨t, ht⟩ := path_head hp
    rw [ht, List.tail_cons] at h
    cases hd : dots [] (cuts 47 t) with
    | none => rw [hd] at h; cases h
    | some out =>
      rw [hd] at h
      simp only [Option.map_some, Option.some.injEq] at h
      have h1 := dots_len _ _ _ hd
      rw [glue_cuts, glue_nil, h] at h1
      have h2 := meant_len l.length l (Nat.le_refl _)
      rw [ht] at h2
      simp at h1 h2; omega
  · rw [if_neg hp] at h; cases h

theorem segs_none (s : ByteArray) (w : World) (hs : s.size ≤ 4294967280) (hr : Rdy w) (hn : normal s.data.toList = none) : Calls Tryd.prog 16 #[.string s] w (SegsIs s.data.toList w) := by
  have HS := Lib.hid (show segsOut s.data.toList = (23, []) by unfold segsOut; rw [hn])
  have HN := Lib.hid (show textOr (normal s.data.toList) 23 = .tuple #[.string ⟨#[]⟩, .iface 56 (.int .i64 23)] by rw [hn]; rfl)
  clear hn
  go_enter Tryd.func16, Tryd.ntmps16
  go_wp2_with fail
  refine (normal_calls _ _ hs hr).mono ?_
  rw [HN.out]
  rintro e w1 ⟨rfl, hb⟩
  go_wp2_with fail
  go_ret2
  exact ⟨.slice none 0 0, ret_tuple (by rw [HS.out]; rfl), .inl ⟨by rw [HS.out], rfl⟩, hb⟩

theorem cuts_mem_len (c : UInt8) : ∀ (l x : List UInt8), x ∈ cuts c l → x.length ≤ l.length
  | [], x, h => by simp [cuts] at h; subst h; simp
  | y :: r, x, h => by
    by_cases hy : y = c
    · subst hy; rw [cuts_cons_eq] at h
      rcases List.mem_cons.1 h with rfl | h
      · simp
      · have := cuts_mem_len y r x h; simp; omega
    · obtain ⟨hd, tl, e⟩ := cuts_form c r
      rw [cuts_cons_ne hy e] at h
      rcases List.mem_cons.1 h with rfl | h
      · have := cuts_mem_len c r hd (by rw [e]; simp); simp; omega
      · have := cuts_mem_len c r x (by rw [e]; simp [h]); simp; omega
theorem cells_at (w : World) (b : Nat) (c : Array Value) (t : TypeId) (h : w.heap[b]? = some (.cells c t (0, 0))) (j : Nat) : w.cell? ⟨b, j, none⟩ = c[j]? ∧ w.frozen? ⟨b, j, none⟩ = false := by
  constructor
  · simp [World.cell?, h]
  · simp [World.frozen?, h]
/-- the texts decoded so far, and the rest -/
def half (l : List ByteArray) (j : Nat) : Array Value := ((l.take j).map (fun x => Value.string (txt ((decoded x.data.toList).getD []))) ++ (l.drop j).map Value.string).toArray
theorem half_size (l : List ByteArray) (j : Nat) (hj : j ≤ l.length) : (half l j).size = l.length := by simp [half]; omega
theorem half_at (l : List ByteArray) (j : Nat) (hj : j < l.length) : (half l j)[j]? = some (.string l[j]) := by
  simp [half, List.getElem?_append, hj, Nat.min_eq_left (Nat.le_of_lt hj)]
theorem half_set (l : List ByteArray) (j : Nat) (hj : j < l.length) : (half l j).setIfInBounds j (.string (txt ((decoded l[j].data.toList).getD []))) = half l (j + 1) := by
  unfold half
  rw [List.setIfInBounds_toArray]
  congr 1
  rw [List.drop_eq_getElem_cons hj, List.map_cons, List.take_succ_eq_append_getElem hj, List.map_append]
  rw [List.set_append_right _ _ (by simp; omega)]
  simp [Nat.min_eq_left (Nat.le_of_lt hj)]
theorem textOr_parts (o : Option (List UInt8)) : ∃ v, textOr o 23 = .tuple #[.string (txt (o.getD [])), v] := by
  cases o with
  | none => exact ⟨_, rfl⟩
  | some d => exact ⟨_, rfl⟩

set_option maxRecDepth 100000 in
set_option maxHeartbeats 4000000 in
theorem segs_some (s : ByteArray) (p : List UInt8) (w : World) (hs : s.size ≤ 4294967280) (hr : Rdy w) (hn : normal s.data.toList = some p) : Calls Tryd.prog 16 #[.string s] w (SegsIs s.data.toList w) := by
  have HN := Lib.hid (show textOr (normal s.data.toList) 23 = .tuple #[.string (txt p), .nilIface] by rw [hn]; rfl)
  have HS := Lib.hid (show segsOut s.data.toList = (if 64 < (cuts 47 p.tail).length then (2, []) else (0, (cuts 47 p.tail).map fun x => (decoded x).getD [])) by unfold segsOut; rw [hn])
  have hpl := normal_len hn
  rw [len] at hpl
  obtain ⟨out, ho, ho1, _⟩ := normal_facts hn
  obtain ⟨t, ht⟩ : ∃ t, p = 47 :: t := by
    cases out with
    | nil => exact absurd rfl ho1
    | cons a l => exact ⟨_, by rw [ho, glue_cons]⟩
  subst ht
  rw [List.tail_cons] at HS
  have hpl2 : t.length + 1 ≤ s.size := by simpa using hpl
  have HX := Lib.hid (str_tail t)
  clear hn ho ho1 hpl
  go_enter Tryd.func16, Tryd.ntmps16
  go_wp2_with fail
  refine (normal_calls _ _ hs hr).mono ?_
  rw [HN.out]
  rintro e w1 ⟨rfl, hb⟩
  have hr2 := (hr.below hb).out
  go_wp2_with fail
  rw [HX.out]
  refine (split_calls _ 47 _ (by show t.length < _; omega) hr2).mono ?_
  rintro e w3 ⟨l, hl, rfl, rfl⟩
  have hl' : l.map (·.data.toList) = cuts 47 t := hl
  have HLL := Lib.hid hl'
  have hll : l.length = (cuts 47 t).length := by rw [← hl', List.length_map]
  have HLN := Lib.hid hll
  have HBK := Lib.hid (show (w1.alloc (.cells (l.map Value.string).toArray 9)).heap[w1.heap.size]? = some (.cells (half l 0) 9 (0, 0)) by
    show (w1.heap.push _)[w1.heap.size]? = _
    rw [Array.getElem?_push, if_pos rfl]; simp [half])
  have hb3 := Lib.hid (hb.alloc hb.size (.cells (l.map Value.string).toArray 9))
  obtain ⟨wb, hwb⟩ : ∃ wb, wb = w1.alloc (.cells (l.map Value.string).toArray 9) := ⟨_, rfl⟩
  rw [← hwb] at HBK hb3 ⊢
  have hzb : w1.heap.size < wb.heap.size := (Array.getElem?_eq_some_iff.1 HBK.out).1
  have hzw := hb.size
  clear hl hl' hll hwb hb
  by_cases h64 : l.length ≤ 64
  · have HS2 := Lib.hid (show segsOut s.data.toList = (0, (cuts 47 t).map fun x => (decoded x).getD []) by rw [HS.out, if_neg (by rw [← HLN.out]; omega)])
    go_wp2_with fail
    go_loopw [25] (fun i wr => ∃ k : Nat, k ≤ l.length ∧ i = .int .i64 k ∧ wr.heap[w1.heap.size]? = some (.cells (half l k) 9 (0, 0)) ∧ Below w.heap.size w wr) (fun i _ => l.length - (intOf i).toNat)
    case atStart => exact ⟨0, Nat.zero_le _, rfl, HBK.out, hb3.out⟩
    case round =>
      obtain ⟨k, hk, rfl, hbk, hbw⟩ := hrel
      have HB := Lib.hid hbk
      have hlt2 := (Array.getElem?_eq_some_iff.1 hbk).1
      clear hbk
      by_cases hlt : k < l.length
      · have hc1 := (cells_at _ _ _ _ HB.out k).1.trans (half_at l k hlt)
        have hlk : (l[k]).size ≤ 140737488355328 := by
          have hm : l[k].data.toList ∈ cuts 47 t := by rw [← HLL.out]; exact List.mem_map.2 ⟨_, List.getElem_mem hlt, rfl⟩
          have := cuts_mem_len 47 t _ hm
          rw [len] at this; omega
        have HST := Lib.hid (half_set l k hlt)
        obtain ⟨v, hv⟩ := textOr_parts (decoded l[k].data.toList)
        have HV := Lib.hid hv
        clear hv
        go_wp2_with fail
        refine (decode_calls _ _ hlk).mono ?_
        rw [HV.out]
        rintro e w5 ⟨rfl, hb5⟩
        have hbk5 := (hb5.block w1.heap.size hlt2).trans HB.out
        have HB5 := Lib.hid hbk5
        have hc5 := (cells_at _ _ _ _ hbk5 k).1.trans (half_at l k hlt)
        have hf5 := (cells_at _ _ _ _ hbk5 k).2
        have hbw5 := Lib.hid (show Below w.heap.size w w5 from hbw.trans ⟨hb5.os, hb5.tape, hb5.output, hb5.size, fun i hi => hb5.block i (by have := hbw.size; omega)⟩)
        clear hbk5 hb5
        go_wp2_with fail
        refine ⟨⟨k + 1, by omega, by go_num, ?_, hbw5.out.setCell (p := ⟨w1.heap.size, k, none⟩) hzw _⟩, by simp [intOf]; omega⟩
        rw [Go.heap_setCell_same _ _ _ _ _ _ HB5.out, HST.out]
      · go_wp2_with fail
        go_ret2
        have HT := HS2.out
        have e1 : half l k = ((cuts 47 t).map fun x => Value.string (txt ((decoded x).getD []))).toArray := by
          unfold half
          rw [List.take_of_length_le (by omega), List.drop_of_length_le (by omega), ← HLL.out]; simp
        refine ⟨.slice (some ⟨w1.heap.size, 0, none⟩) l.length l.length, ret_tuple (by rw [HT]; rfl), ?_, hbw⟩
        rw [HT]
        refine .inr ⟨w1.heap.size, l.length, by simp [HLN.out], hlt2, fun j hj => ?_⟩
        rw [(cells_at _ _ _ _ HB.out j).1, e1]
        simp at hj
        simp [hj]
  · go_wp2_with fail
    go_ret2
    have HS2 := HS.out
    rw [if_pos (by rw [← HLN.out]; omega)] at HS2
    exact ⟨.slice none 0 0, ret_tuple (by rw [HS2]; rfl), .inl ⟨by rw [HS2], rfl⟩, hb3.out⟩

theorem segments_calls (s : ByteArray) (w : World) (hs : s.size ≤ 4294967280) (hr : Rdy w) : Calls Tryd.prog 16 #[.string s] w (SegsIs s.data.toList w) := by
  cases h : normal s.data.toList with
  | none => exact segs_none s w hs hr h
  | some p => exact segs_some s p w hs hr h
end Go.Proofs.YthobmfnmenbkeaaDoor
end
/- The head of this layer's statements, 'works', and the numbers of errors, walked. -/
section
set_option linter.unusedVariables false
set_option linter.unusedSimpArgs false
namespace Go.Proofs.YthobmfnmenbkeaaDoor
open Go.RowKit Tg

theorem textOr_some (d : List UInt8) (n : Int) : textOr (some d) n = .tuple #[.string ⟨d.toArray⟩, .nilIface] := rfl
theorem textOr_none (n : Int) : textOr none n = .tuple #[.string ⟨#[]⟩, .iface 56 (.int .i64 n)] := rfl
set_option maxRecDepth 100000 in
theorem num_nil (w : World) : Calls Tryd.prog 12 #[.nilIface] w fun e w' => e = .returned (.int .i64 0) ∧ w = w' := by
  go_enter Tryd.func12, Tryd.ntmps12
  go_wp2
  go_ret
  exact ⟨rfl, rfl⟩
set_option maxRecDepth 100000 in
theorem num_some (n : Int) (w : World) : Calls Tryd.prog 12 #[.iface 56 (.int .i64 n)] w fun e w' => e = .returned (.int .i64 n) ∧ w = w' := by
  have hta : ∀ w, (Instr.typeAssert (.iface 56 (.int .i64 n)) 25 56 true).run Tryd.prog w = .ok (.tuple #[.int .i64 n, .bool true]) w := fun _ => by kernel_rfl
  go_enter Tryd.func12, Tryd.ntmps12
  go_wp2
  go_ret
  exact ⟨rfl, rfl⟩
theorem num_calls (n : Int) (w : World) : Calls Tryd.prog 12 #[errV n] w fun e w' => e = .returned (.int .i64 n) ∧ w = w' := by
  unfold errV
  by_cases h : n = 0
  · subst h; rw [if_pos rfl]; exact num_nil w
  · rw [if_neg h]; exact num_some n w

theorem n1 : normal [47, 97, 47, 46, 47, 98, 47, 46, 46, 47, 37, 55, 101, 99, 37, 50, 102] = some [47, 97, 47, 126, 99, 37, 50, 70] := by decide +kernel
theorem n2 : normal [47, 46, 46] = none := by decide +kernel
theorem n3 : parse [104, 116, 116, 112, 58, 47, 47, 72, 58, 56, 48, 63, 120] = (0, ⟨2, [104, 58, 56, 48], [47], [120], true⟩) := by decide +kernel
theorem n4 : segsOut [47, 97, 37, 50, 48, 98, 47] = (0, [[97, 32, 98], []]) := by decide +kernel
theorem a3 : ∀ c ∈ ([104, 116, 116, 112, 58, 47, 47, 72, 58, 56, 48, 63, 120] : List UInt8), c.toNat < 128 := by decide

theorem works_segs (w : World) (hr : Rdy w) : Calls Tryd.prog 16 #[.string ⟨#[47, 97, 37, 50, 48, 98, 47]⟩] w fun e w' => ∃ b cap, e = .returned (.tuple #[.slice (some ⟨b, 0, none⟩) 2 cap, .nilIface]) ∧
    b < w'.heap.size ∧ w'.cell? ⟨b, 0, none⟩ = some (.string ⟨#[97, 32, 98]⟩) ∧ Below w.heap.size w w' := by
  refine (segments_calls ⟨#[47, 97, 37, 50, 48, 98, 47]⟩ w (by decide) hr).mono ?_
  rintro e w' ⟨v, he, hs, hb⟩
  rw [show (⟨#[47, 97, 37, 50, 48, 98, 47]⟩ : ByteArray).data.toList = [47, 97, 37, 50, 48, 98, 47] from rfl, n4] at he hs
  rcases hs with ⟨h, _⟩ | ⟨b, cap, rfl, h2, h3⟩
  · cases h
  · exact ⟨b, cap, he, h2, h3 0 (by decide), hb⟩

set_option maxRecDepth 100000 in
set_option maxHeartbeats 4000000 in
theorem works_calls (w : World) (hr : Rdy w) : Calls Tryd.prog 13 #[] w fun e w' => e = .returned (.bool true) ∧ Below w.heap.size w w' := by
  go_enter Tryd.func13, Tryd.ntmps13
  go_wp2_with fail
  refine (normal_calls ⟨#[47, 97, 47, 46, 47, 98, 47, 46, 46, 47, 37, 55, 101, 99, 37, 50, 102]⟩ _ (by decide) hr).mono ?_
  rw [show (⟨#[47, 97, 47, 46, 47, 98, 47, 46, 46, 47, 37, 55, 101, 99, 37, 50, 102]⟩ : ByteArray).data.toList = [47, 97, 47, 46, 47, 98, 47, 46, 46, 47, 37, 55, 101, 99, 37, 50, 102] from rfl, n1, textOr_some]
  rintro e w1 ⟨rfl, hb1⟩
  have hr1 := hr.below hb1
  go_wp2_with fail
  refine (normal_calls ⟨#[47, 46, 46]⟩ _ (by decide) hr1).mono ?_
  rw [show (⟨#[47, 46, 46]⟩ : ByteArray).data.toList = [47, 46, 46] from rfl, n2, textOr_none]
  rintro e w2 ⟨rfl, hb2⟩
  have hr2 := hr1.below hb2
  go_wp2_with fail
  refine (parse_ascii ⟨#[104, 116, 116, 112, 58, 47, 47, 72, 58, 56, 48, 63, 120]⟩ _ hr2 a3).mono ?_
  rw [show (⟨#[104, 116, 116, 112, 58, 47, 47, 72, 58, 56, 48, 63, 120]⟩ : ByteArray).data.toList = [104, 116, 116, 112, 58, 47, 47, 72, 58, 56, 48, 63, 120] from rfl, n3,
    show parseV (0, ⟨2, [104, 58, 56, 48], [47], [120], true⟩) = Value.tuple #[.agg #[.int .i64 2, .string ⟨#[104, 58, 56, 48]⟩, .string ⟨#[47]⟩, .string ⟨#[120]⟩, .bool true], .nilIface] from rfl]
  rintro e w3 ⟨rfl, hb3⟩
  have hr3 := hr2.below hb3
  have HB3 := Lib.hid (show Below w.heap.size w w3 from (hb1.trans ⟨hb2.os, hb2.tape, hb2.output, hb2.size, fun i hi => hb2.block i (by have := hb1.size; omega)⟩).trans ⟨hb3.os, hb3.tape, hb3.output, hb3.size, fun i hi => hb3.block i (by have := hb1.size; have := hb2.size; omega)⟩)
  clear hb1 hb2 hb3 hr hr1 hr2
  have hr4 := hr3.below (below_new w3 (.cells #[.int .i64 2, .string ⟨#[104, 58, 56, 48]⟩, .string ⟨#[47]⟩, .string ⟨#[120]⟩, .bool true] 23))
  have HB4 := Lib.hid (HB3.out.alloc HB3.out.size (.cells #[.int .i64 2, .string ⟨#[104, 58, 56, 48]⟩, .string ⟨#[47]⟩, .string ⟨#[120]⟩, .bool true] 23))
  have hq : ((3 : Int) = 3) := rfl
  go_wp2_with fail
  refine (works_segs _ hr4).mono ?_
  rintro e w4 ⟨b, cap, rfl, hlt, hc0, hb4⟩
  have hz : w3.heap.size < (w3.alloc (.cells #[.int .i64 2, .string ⟨#[104, 58, 56, 48]⟩, .string ⟨#[47]⟩, .string ⟨#[120]⟩, .bool true] 23)).heap.size := by simp
  have f1 := (hb4.cell (p := ⟨w3.heap.size, 1, none⟩) hz).trans (by simp : _ = some (.string ⟨#[104, 58, 56, 48]⟩))
  have f2 := (hb4.cell (p := ⟨w3.heap.size, 2, none⟩) hz).trans (by simp : _ = some (.string ⟨#[47]⟩))
  have f3 := (hb4.cell (p := ⟨w3.heap.size, 3, none⟩) hz).trans (by simp : _ = some (.string ⟨#[120]⟩))
  have HB5 := Lib.hid (HB4.out.trans ⟨hb4.os, hb4.tape, hb4.output, hb4.size, fun i hi => hb4.block i (by have := HB3.out.size; simp; omega)⟩)
  clear hb4 hz hr3 hr4 hq hlt
  go_wp2_with (first | (go_at_call 12; refine (num_some 23 _).mono ?_; rintro e w' ⟨rfl, rfl⟩))
  go_ret
  exact ⟨rfl, HB5.out⟩
end Go.Proofs.YthobmfnmenbkeaaDoor
end
/- The statement 'TargetPrefix', walked. -/
section
set_option linter.unusedVariables false
set_option linter.unusedSimpArgs false
namespace Go.Proofs.YthobmfnmenbkeaaDoor
open Go.RowKit Tg

theorem Below.trans2 {B : Nat} {w w1 w2 : World} (h1 : Below B w w1) (hb : B ≤ w1.heap.size) (h2 : Below w1.heap.size w1 w2) : Below B w w2 :=
  h1.trans ⟨h2.os, h2.tape, h2.output, h2.size, fun i hi => h2.block i (by omega)⟩
def PreIs (w : World) (e : Ending) (w' : World) : Prop := e = .returned (.bool true) ∧ Below w.heap.size w w'

set_option maxRecDepth 100000 in
set_option maxHeartbeats 1000000 in
theorem prefix_none (s : ByteArray) (k : Int) (tw : Bool) (w : World) (hs : s.size ≤ 1048576) (hr : Rdy w) (hn : normal s.data.toList = none) :
    Calls Tryd.prog 6 #[.string s, .int .i64 k, .bool tw] w (PreIs w) := by
  have HN := Lib.hid (show textOr (normal s.data.toList) 23 = .tuple #[.string ⟨#[]⟩, .iface 56 (.int .i64 23)] by rw [hn]; rfl)
  clear hn
  go_enter Tryd.func6, Tryd.ntmps6
  go_wp2_with fail
  refine (normal_calls _ _ (by omega) hr).mono ?_
  rw [HN.out]
  rintro e w1 ⟨rfl, hb⟩
  have hr1 := hr.below hb
  go_wp2_with fail
  refine (works_calls _ hr1).mono ?_
  rintro e w2 ⟨rfl, hb2⟩
  go_wp2_with fail
  go_ret
  exact ⟨rfl, Below.trans2 hb hb.size hb2⟩

set_option maxRecDepth 100000 in
set_option maxHeartbeats 1000000 in
theorem prefix_big (s : ByteArray) (k : Int) (tw : Bool) (w : World) (hs : s.size ≤ 1048576) (hr : Rdy w) (p : List UInt8) (hn : normal s.data.toList = some p) (hl : 20000 < p.length) :
    Calls Tryd.prog 6 #[.string s, .int .i64 k, .bool tw] w (PreIs w) := by
  have HN := Lib.hid (show textOr (normal s.data.toList) 23 = .tuple #[.string (txt p), .nilIface] by rw [hn]; rfl)
  have hpl := normal_len hn
  rw [len] at hpl
  clear hn
  have hq := (txt_size p)
  generalize txt p = q at HN hq
  go_enter Tryd.func6, Tryd.ntmps6
  go_wp2_with fail
  refine (normal_calls _ _ (by omega) hr).mono ?_
  rw [HN.out]
  rintro e w1 ⟨rfl, hb⟩
  have hr1 := hr.below hb
  go_wp2_with (first | (go_at_call 13; refine (works_calls _ hr1).mono ?_; rintro e w2 ⟨rfl, hb2⟩))
  go_ret
  exact ⟨rfl, Below.trans2 hb hb.size hb2⟩

theorem start_at (k : Int) (L : Nat) (h0 : 0 < L) (hl : L ≤ 20000) : ∃ j : Nat, j < L ∧ (wrap64 (k.tmod L + L)).tmod L = j := by
  have h1 : (k.tmod L).natAbs < L := by
    have := Int.natAbs_tmod k L
    rw [this]
    exact Nat.mod_lt _ (by simpa using h0)
  have e : wrap64 (k.tmod L + L) = k.tmod L + L := by unfold wrap64; omega
  rw [e]
  have h2 : 0 ≤ k.tmod L + L := by omega
  refine ⟨((k.tmod L + L).tmod L).toNat, ?_, ?_⟩
  · have := Int.tmod_lt_of_pos (k.tmod L + L) (b := (L : Int)) (by omega)
    have := Int.tmod_nonneg (a := k.tmod L + L) (L : Int) h2
    omega
  · have := Int.tmod_nonneg (a := k.tmod L + L) (L : Int) h2
    omega
theorem laid_list (q : ByteArray) (j : Nat) (m : Array UInt8) : (q.extract 0 j ++ ⟨m⟩ ++ q.extract j q.size).data.toList = q.data.toList.take j ++ m.toList ++ q.data.toList.drop j := by
  have h : q.data.size = q.size := rfl
  simp only [ByteArray.data_append, ByteArray.data_extract, Array.toList_append, Array.toList_extract, List.extract_eq_take_drop, List.drop_zero, Nat.sub_zero]
  rw [List.take_of_length_le (l := List.drop j q.data.toList) (by simp [h])]
theorem laid_size (q : ByteArray) (j : Nat) (hj : j < q.size) (m : Array UInt8) : (q.extract 0 j ++ ⟨m⟩ ++ q.extract j q.size).size = q.size + m.size := by
  have e := congrArg List.length (laid_list q j m)
  simp only [List.length_append, List.length_take, List.length_drop, Array.length_toList] at e
  have h : q.data.size = q.size := rfl
  have h2 : ∀ b : ByteArray, b.data.size = b.size := fun _ => rfl
  rw [h2, h] at e
  omega
theorem part_at (q : ByteArray) (j : Nat) (hj : j < q.size) (hc : ((q[j].toNat : Int) == 47) = true) : q.data.toList = q.data.toList.take j ++ 47 :: q.data.toList.drop (j + 1) := by
  have h47 : q[j] = 47 := by
    have h := eq_of_beq hc
    exact UInt8.toNat_inj.1 (by have : ((47 : UInt8).toNat) = 47 := rfl; omega)
  have := List.drop_eq_getElem_cons (i := j) (l := q.data.toList) (by simpa using hj)
  conv => lhs; rw [← List.take_append_drop j q.data.toList]
  rw [this]
  congr 2
theorem laid_one {s p : List UInt8} (hn : normal s = some p) (q : ByteArray) (hq : q.data.toList = p) (j : Nat) (hj : j < q.size) (hc : ((q[j].toNat : Int) == 47) = true) :
    normal (q.extract 0 j ++ ⟨#[47, 46]⟩ ++ q.extract j q.size).data.toList = some p := by
  subst hq
  have e := part_at q j hj hc
  rw [laid_list, e]
  have hd : (List.take j q.data.toList ++ 47 :: List.drop (j + 1) q.data.toList).drop j = 47 :: List.drop (j + 1) q.data.toList := by rw [List.drop_left' (by simp; omega)]
  have ht : (List.take j q.data.toList ++ 47 :: List.drop (j + 1) q.data.toList).take j = List.take j q.data.toList := by rw [List.take_left' (by simp; omega)]
  rw [hd, ht]
  exact normal_dot (by rw [← e]; exact hn)
theorem laid_two {s p : List UInt8} (hn : normal s = some p) (q : ByteArray) (hq : q.data.toList = p) (j : Nat) (hj : j < q.size) (hc : ((q[j].toNat : Int) == 47) = true) :
    normal (q.extract 0 j ++ ⟨#[47, 120, 47, 37, 50, 69, 46]⟩ ++ q.extract j q.size).data.toList = some p := by
  subst hq
  have e := part_at q j hj hc
  rw [laid_list, e]
  have hd : (List.take j q.data.toList ++ 47 :: List.drop (j + 1) q.data.toList).drop j = 47 :: List.drop (j + 1) q.data.toList := by rw [List.drop_left' (by simp; omega)]
  have ht : (List.take j q.data.toList ++ 47 :: List.drop (j + 1) q.data.toList).take j = List.take j q.data.toList := by rw [List.take_left' (by simp; omega)]
  rw [hd, ht]
  exact normal_dots (by rw [← e]; exact hn)
theorem glue_head {out : List (List UInt8)} (h : out ≠ []) : ∃ r, glue out = 47 :: r := by
  cases out with
  | nil => exact absurd rfl h
  | cons a r => exact ⟨_, rfl⟩

set_option maxRecDepth 100000 in
set_option maxHeartbeats 4000000 in
theorem prefix_main (s : ByteArray) (k : Int) (tw : Bool) (w : World) (hs : s.size ≤ 1048576) (hr : Rdy w) (hk1 : -9223372036854775808 ≤ k) (hk2 : k ≤ 9223372036854775807) (p : List UInt8) (hn : normal s.data.toList = some p) (hl : p.length ≤ 20000) :
    Calls Tryd.prog 6 #[.string s, .int .i64 k, .bool tw] w (PreIs w) := by
  obtain ⟨out, hg, hne, -⟩ := normal_facts hn
  obtain ⟨r, hgr⟩ := glue_head hne
  have hp0 : p = 47 :: r := hg.trans hgr
  have HN := Lib.hid (show textOr (normal s.data.toList) 23 = .tuple #[.string (txt p), .nilIface] by rw [hn]; rfl)
  have HNN := Lib.hid hn
  have hpl := normal_len hn
  rw [len] at hpl
  have hq := txt_size p
  have hqd := Lib.hid (txt_data p)
  have h0 : 0 < (txt p).size := by rw [hq, hp0]; simp
  have h0e : ((txt p)[0]).toNat = 47 := by
    have : (txt p)[0] = p[0]'(by rw [← hq]; exact h0) := rfl
    rw [this]; simp [hp0]
  rw [← hq] at hl hpl
  have HQ := Lib.hid hq
  clear hq
  generalize txt p = q at HN HQ hqd h0 h0e hl hpl
  have hb0 : (((q[0]).toNat : Int) == 47) = true := by rw [h0e]; rfl
  have he := nonempty_of h0
  have he2 := ne_of_nonempty he
  clear hn hg hgr hp0 h0e
  go_enter Tryd.func6, Tryd.ntmps6
  go_wp2_with fail
  refine (normal_calls _ _ (by omega) hr).mono ?_
  rw [HN.out]
  rintro e w1 ⟨rfl, hb⟩
  have hr1 := hr.below hb
  go_wp2_with fail
  obtain ⟨j0, hj0, ej0⟩ := start_at k q.size h0 hl
  rw [ej0]
  have hzero : ∀ j : Nat, ∀ h : j < q.size, ¬ ((q[j].toNat : Int) == 47) = true → 0 < j := by
    intro j h hne
    cases j with
    | zero => exact absurd hb0 hne
    | succ j => omega
  clear hb0
  go_loop [1] (fun i => ∃ j : Nat, j < q.size ∧ i = .int .i64 j) (fun i => (intOf i).toNat)
  case atStart => exact ⟨j0, by omega, rfl⟩
  case round =>
    obtain ⟨j, hj, rfl⟩ := hrel
    cases hc : ((q[j].toNat : Int) == 47) with
    | false =>
      have := hzero j hj (by rw [hc]; simp)
      go_wp2_with fail
      go_round
      case rel => exact ⟨j - 1, by omega, by congr 1; omega⟩
      case measure => simp [intOf]; omega
    | true =>
      cases tw with
      | false =>
        have HL := Lib.hid (show textOr (normal (q.extract 0 j ++ ⟨#[47, 46]⟩ ++ q.extract j q.size).data.toList) 23 = .tuple #[.string q, .nilIface] by
          rw [laid_one HNN.out q hqd.out j hj hc, ← hqd.out]; rfl)
        have hsz := laid_size q j hj #[47, 46]
        go_wp2_with fail
        refine wp_region_any (by kernel_rfl) ?_
        change wpAny _ _ _ _ _ _ _ (World.drew _)
        refine wpAny_take (i := 0) (v := ?v0false) rfl (by kernel_rfl) (by kernel_rfl) (by kernel_rfl) (fun _ _ _ h => h) (Or.inl ⟨by rfl, ?hy0false⟩) ?rest0false
        case hy0false => intro w; go_simp; (try with_reducible rfl); try (first | rw [if_pos (by omega)] | rw [if_neg (by omega)]); (try go_simp); (try with_reducible rfl)
        refine wpAny_take (i := 1) (v := ?v1false) rfl (by kernel_rfl) (by kernel_rfl) (by kernel_rfl) (fun _ _ _ h => h) (Or.inl ⟨by rfl, ?hy1false⟩) ?rest1false
        case hy1false => intro w; go_simp; (try with_reducible rfl); try (first | rw [if_pos (by omega)] | rw [if_neg (by omega)]); (try go_simp); (try with_reducible rfl)
        refine wpAny_take (i := 2) (v := ?v2false) rfl (by kernel_rfl) (by kernel_rfl) (by kernel_rfl) (fun _ _ _ h => h) (Or.inl ⟨by rfl, ?hy2false⟩) ?rest2false
        case hy2false => intro w; go_simp; (try with_reducible rfl); try (first | rw [if_pos (by omega)] | rw [if_neg (by omega)]); (try go_simp); (try with_reducible rfl)
        refine wpAny_take (i := 3) (v := ?v3false) rfl (by kernel_rfl) (by kernel_rfl) (by kernel_rfl) (fun _ _ _ h => h) (Or.inl ⟨by rfl, ?hy3false⟩) ?rest3false
        case hy3false => intro w; go_simp; (try with_reducible rfl); try (first | rw [if_pos (by omega)] | rw [if_neg (by omega)]); (try go_simp); (try with_reducible rfl)
        refine wpAny_take (i := 4) (v := ?v4false) rfl (by kernel_rfl) (by kernel_rfl) (by kernel_rfl) (fun _ _ _ h => h) (Or.inl ⟨by rfl, ?hy4false⟩) ?rest4false
        case hy4false => intro w; go_simp; (try with_reducible rfl); try (first | rw [if_pos (by omega)] | rw [if_neg (by omega)]); (try go_simp); (try with_reducible rfl)
        refine wpAny_take (i := 5) (v := ?v5false) rfl (by kernel_rfl) (by kernel_rfl) (by kernel_rfl) (fun _ _ _ h => h) (Or.inl ⟨by rfl, ?hy5false⟩) ?rest5false
        case hy5false => intro w; go_simp; (try with_reducible rfl); try (first | rw [if_pos (by omega)] | rw [if_neg (by omega)]); (try go_simp); (try with_reducible rfl)
        refine wpAny_take (i := 6) (v := ?v6false) rfl (by kernel_rfl) (by kernel_rfl) (by kernel_rfl) (fun _ _ _ h => h) (Or.inl ⟨by rfl, ?hy6false⟩) ?rest6false
        case hy6false => intro w; go_simp; (try with_reducible rfl); try (first | rw [if_pos (by omega)] | rw [if_neg (by omega)]); (try go_simp); (try with_reducible rfl)
        refine wpAny_take (i := 7) (v := ?v7false) rfl (by kernel_rfl) (by kernel_rfl) (by kernel_rfl) (fun _ _ _ h => h) (Or.inl ⟨by rfl, ?hy7false⟩) ?rest7false
        case hy7false => intro w; go_simp; (try with_reducible rfl); try (first | rw [if_pos (by omega)] | rw [if_neg (by omega)]); (try go_simp); (try with_reducible rfl)
        refine wpAny_take (i := 8) (v := ?v8false) rfl (by kernel_rfl) (by kernel_rfl) (by kernel_rfl) (fun _ _ _ h => h) (Or.inl ⟨by rfl, ?hy8false⟩) ?rest8false
        case hy8false => intro w; go_simp; (try with_reducible rfl); try (first | rw [if_pos (by omega)] | rw [if_neg (by omega)]); (try go_simp); (try with_reducible rfl)
        refine wpAny_ready (rs := [9]) (by kernel_rfl) (by simp) ?_
        refine AllReady.cons rfl (fun K hK => ?_) AllReady.nil
        go_simp
        refine (normal_calls _ _ (by rw [hsz]; simp; omega) (hr1.below (below_dr (Below.refl w1.heap.size w1) ⟨⟨1, rfl⟩⟩))).mono ?_
        rw [HL.out]
        rintro e w3 ⟨rfl, hb3⟩
        go_simp
        refine hK _ _ ?_
        clear hK K
        refine wpAny_take (i := 10) (v := ?v10false) rfl (by kernel_rfl) (by kernel_rfl) (by kernel_rfl) (fun _ _ _ h => h) (Or.inl ⟨by rfl, ?hy10false⟩) ?rest10false
        case hy10false => intro w; go_simp; (try with_reducible rfl)
        refine wpAny_take (i := 11) (v := ?v11false) rfl (by kernel_rfl) (by kernel_rfl) (by kernel_rfl) (fun _ _ _ h => h) (Or.inl ⟨by rfl, ?hy11false⟩) ?rest11false
        case hy11false => intro w; go_simp; (try with_reducible rfl)
        refine wpAny_take (i := 12) (v := ?v12false) rfl (by kernel_rfl) (by kernel_rfl) (by kernel_rfl) (fun _ _ _ h => h) (Or.inl ⟨by rfl, ?hy12false⟩) ?rest12false
        case hy12false => intro w; go_simp; (try with_reducible rfl)
        refine wpAny_take (i := 13) (v := ?v13false) rfl (by kernel_rfl) (by kernel_rfl) (by kernel_rfl) (fun _ _ _ h => h) (Or.inl ⟨by rfl, ?hy13false⟩) ?rest13false
        case hy13false => intro w; go_simp; (try with_reducible rfl)
        refine wpAny_take (i := 14) (v := ?v14false) rfl (by kernel_rfl) (by kernel_rfl) (by kernel_rfl) (fun _ _ _ h => h) (Or.inl ⟨by rfl, ?hy14false⟩) ?rest14false
        case hy14false => intro w; go_simp; (try with_reducible rfl)
        refine wpAny_done (by kernel_rfl) ?_ _
        have hb4 : Below w1.heap.size w1 w3 := Below.trans2 (below_dr (Below.refl w1.heap.size w1) ⟨⟨1, rfl⟩⟩) (Nat.le_refl _) hb3
        have hr3 := hr1.below hb4
        clear HL hb3
        go_wp2_with (first | (go_at_call 13; refine (works_calls _ hr3).mono ?_; rintro e w4 ⟨rfl, hb5⟩))
        go_ret
        exact ⟨rfl, Below.trans2 (Below.trans2 hb hb.size hb4) (Nat.le_trans hb.size hb4.size) hb5⟩
      | true =>
        have HL := Lib.hid (show textOr (normal (q.extract 0 j ++ ⟨#[47, 120, 47, 37, 50, 69, 46]⟩ ++ q.extract j q.size).data.toList) 23 = .tuple #[.string q, .nilIface] by
          rw [laid_two HNN.out q hqd.out j hj hc, ← hqd.out]; rfl)
        have hsz := laid_size q j hj #[47, 120, 47, 37, 50, 69, 46]
        go_wp2_with fail
        refine wp_region_any (by kernel_rfl) ?_
        change wpAny _ _ _ _ _ _ _ (World.drew _)
        refine wpAny_take (i := 0) (v := ?v0true) rfl (by kernel_rfl) (by kernel_rfl) (by kernel_rfl) (fun _ _ _ h => h) (Or.inl ⟨by rfl, ?hy0true⟩) ?rest0true
        case hy0true => intro w; go_simp; (try with_reducible rfl); try (first | rw [if_pos (by omega)] | rw [if_neg (by omega)]); (try go_simp); (try with_reducible rfl)
        refine wpAny_take (i := 1) (v := ?v1true) rfl (by kernel_rfl) (by kernel_rfl) (by kernel_rfl) (fun _ _ _ h => h) (Or.inl ⟨by rfl, ?hy1true⟩) ?rest1true
        case hy1true => intro w; go_simp; (try with_reducible rfl); try (first | rw [if_pos (by omega)] | rw [if_neg (by omega)]); (try go_simp); (try with_reducible rfl)
        refine wpAny_take (i := 2) (v := ?v2true) rfl (by kernel_rfl) (by kernel_rfl) (by kernel_rfl) (fun _ _ _ h => h) (Or.inl ⟨by rfl, ?hy2true⟩) ?rest2true
        case hy2true => intro w; go_simp; (try with_reducible rfl); try (first | rw [if_pos (by omega)] | rw [if_neg (by omega)]); (try go_simp); (try with_reducible rfl)
        refine wpAny_take (i := 3) (v := ?v3true) rfl (by kernel_rfl) (by kernel_rfl) (by kernel_rfl) (fun _ _ _ h => h) (Or.inl ⟨by rfl, ?hy3true⟩) ?rest3true
        case hy3true => intro w; go_simp; (try with_reducible rfl); try (first | rw [if_pos (by omega)] | rw [if_neg (by omega)]); (try go_simp); (try with_reducible rfl)
        refine wpAny_take (i := 4) (v := ?v4true) rfl (by kernel_rfl) (by kernel_rfl) (by kernel_rfl) (fun _ _ _ h => h) (Or.inl ⟨by rfl, ?hy4true⟩) ?rest4true
        case hy4true => intro w; go_simp; (try with_reducible rfl); try (first | rw [if_pos (by omega)] | rw [if_neg (by omega)]); (try go_simp); (try with_reducible rfl)
        refine wpAny_take (i := 5) (v := ?v5true) rfl (by kernel_rfl) (by kernel_rfl) (by kernel_rfl) (fun _ _ _ h => h) (Or.inl ⟨by rfl, ?hy5true⟩) ?rest5true
        case hy5true => intro w; go_simp; (try with_reducible rfl); try (first | rw [if_pos (by omega)] | rw [if_neg (by omega)]); (try go_simp); (try with_reducible rfl)
        refine wpAny_take (i := 6) (v := ?v6true) rfl (by kernel_rfl) (by kernel_rfl) (by kernel_rfl) (fun _ _ _ h => h) (Or.inl ⟨by rfl, ?hy6true⟩) ?rest6true
        case hy6true => intro w; go_simp; (try with_reducible rfl); try (first | rw [if_pos (by omega)] | rw [if_neg (by omega)]); (try go_simp); (try with_reducible rfl)
        refine wpAny_take (i := 7) (v := ?v7true) rfl (by kernel_rfl) (by kernel_rfl) (by kernel_rfl) (fun _ _ _ h => h) (Or.inl ⟨by rfl, ?hy7true⟩) ?rest7true
        case hy7true => intro w; go_simp; (try with_reducible rfl); try (first | rw [if_pos (by omega)] | rw [if_neg (by omega)]); (try go_simp); (try with_reducible rfl)
        refine wpAny_take (i := 8) (v := ?v8true) rfl (by kernel_rfl) (by kernel_rfl) (by kernel_rfl) (fun _ _ _ h => h) (Or.inl ⟨by rfl, ?hy8true⟩) ?rest8true
        case hy8true => intro w; go_simp; (try with_reducible rfl); try (first | rw [if_pos (by omega)] | rw [if_neg (by omega)]); (try go_simp); (try with_reducible rfl)
        refine wpAny_ready (rs := [9]) (by kernel_rfl) (by simp) ?_
        refine AllReady.cons rfl (fun K hK => ?_) AllReady.nil
        go_simp
        refine (normal_calls _ _ (by rw [hsz]; simp; omega) (hr1.below (below_dr (Below.refl w1.heap.size w1) ⟨⟨1, rfl⟩⟩))).mono ?_
        rw [HL.out]
        rintro e w3 ⟨rfl, hb3⟩
        go_simp
        refine hK _ _ ?_
        clear hK K
        refine wpAny_take (i := 10) (v := ?v10true) rfl (by kernel_rfl) (by kernel_rfl) (by kernel_rfl) (fun _ _ _ h => h) (Or.inl ⟨by rfl, ?hy10true⟩) ?rest10true
        case hy10true => intro w; go_simp; (try with_reducible rfl)
        refine wpAny_take (i := 11) (v := ?v11true) rfl (by kernel_rfl) (by kernel_rfl) (by kernel_rfl) (fun _ _ _ h => h) (Or.inl ⟨by rfl, ?hy11true⟩) ?rest11true
        case hy11true => intro w; go_simp; (try with_reducible rfl)
        refine wpAny_take (i := 12) (v := ?v12true) rfl (by kernel_rfl) (by kernel_rfl) (by kernel_rfl) (fun _ _ _ h => h) (Or.inl ⟨by rfl, ?hy12true⟩) ?rest12true
        case hy12true => intro w; go_simp; (try with_reducible rfl)
        refine wpAny_take (i := 13) (v := ?v13true) rfl (by kernel_rfl) (by kernel_rfl) (by kernel_rfl) (fun _ _ _ h => h) (Or.inl ⟨by rfl, ?hy13true⟩) ?rest13true
        case hy13true => intro w; go_simp; (try with_reducible rfl)
        refine wpAny_take (i := 14) (v := ?v14true) rfl (by kernel_rfl) (by kernel_rfl) (by kernel_rfl) (fun _ _ _ h => h) (Or.inl ⟨by rfl, ?hy14true⟩) ?rest14true
        case hy14true => intro w; go_simp; (try with_reducible rfl)
        refine wpAny_done (by kernel_rfl) ?_ _
        have hb4 : Below w1.heap.size w1 w3 := Below.trans2 (below_dr (Below.refl w1.heap.size w1) ⟨⟨1, rfl⟩⟩) (Nat.le_refl _) hb3
        have hr3 := hr1.below hb4
        clear HL hb3
        go_wp2_with (first | (go_at_call 13; refine (works_calls _ hr3).mono ?_; rintro e w4 ⟨rfl, hb5⟩))
        go_ret
        exact ⟨rfl, Below.trans2 (Below.trans2 hb hb.size hb4) (Nat.le_trans hb.size hb4.size) hb5⟩
end Go.Proofs.YthobmfnmenbkeaaDoor
end
/- The segments of a path that is meant, met byte by byte; and the code of a byte, decoded. -/
section
namespace Go.Proofs.YthobmfnmenbkeaaDoor
open Tg

/-- a place in a path that is meant: its segment began at 'a', and 'i' has not passed its end -/
def SegAt (p : List UInt8) (a i : Nat) : Prop := ∃ (x : List UInt8) (xs : List (List UInt8)), noDot x ∧ 47 ∉ x ∧ (∀ y ∈ xs, noDot y ∧ 47 ∉ y) ∧ p.drop a = x ++ glue xs ∧ a ≤ i ∧ i ≤ a + x.length ∧ a ≤ p.length
theorem seg_start {p : List UInt8} {out : List (List UInt8)} (e : p = glue out) (hne : out ≠ []) (h1 : ∀ x ∈ out, noDot x) (h2 : ∀ x ∈ out, 47 ∉ x) : SegAt p 1 1 := by
  cases out with
  | nil => exact absurd rfl hne
  | cons x xs =>
    refine ⟨x, xs, h1 x (by simp), h2 x (by simp), fun y hy => ⟨h1 y (by simp [hy]), h2 y (by simp [hy])⟩, ?_, Nat.le_refl _, by omega, ?_⟩
    · subst e; simp [glue]
    · subst e; simp [glue]
theorem seg_at {p : List UInt8} {a i : Nat} (h : SegAt p a i) {j : Nat} (hj : i = a + j) : ∃ (x : List UInt8) (xs : List (List UInt8)), noDot x ∧ 47 ∉ x ∧ (∀ y ∈ xs, noDot y ∧ 47 ∉ y) ∧ p.drop a = x ++ glue xs ∧ j ≤ x.length ∧ a ≤ p.length ∧ p[i]? = (x ++ glue xs)[j]? := by
  obtain ⟨x, xs, h1, h2, h3, h4, h5, h6, h7⟩ := h
  refine ⟨x, xs, h1, h2, h3, h4, by omega, h7, ?_⟩
  rw [← h4, List.getElem?_drop, hj]
theorem seg_step {p : List UInt8} {a i : Nat} (h : SegAt p a i) (hi : i < p.length) (hc : p[i]? ≠ some 47) : SegAt p a (i + 1) := by
  have ⟨x, xs, h1, h2, h3, h4, h5, h6, h7⟩ := h
  obtain ⟨x', xs', -, -, -, h4', -, -, h8⟩ := seg_at h (j := i - a) (by omega)
  rw [← h4', h4] at h8
  refine ⟨x, xs, h1, h2, h3, h4, by omega, ?_, h7⟩
  rcases Nat.lt_or_ge i (a + x.length) with hh | hh
  · omega
  · have e : i - a = x.length := by omega
    rw [e, List.getElem?_append_right (Nat.le_refl _), Nat.sub_self] at h8
    cases xs with
    | nil =>
      have := congrArg List.length h4
      simp [glue] at this
      omega
    | cons y ys => exact absurd h8 (by simpa [glue] using hc)
theorem seg_end {p : List UInt8} {a i : Nat} (h : SegAt p a i) (hi : i ≤ p.length) (hc : i < p.length → p[i]? = some 47) : noDot ((p.take i).drop a) ∧ (i < p.length → SegAt p (i + 1) (i + 1)) := by
  have ⟨x, xs, h1, h2, h3, h4, h5, h6, h7⟩ := h
  obtain ⟨x', xs', -, -, -, h4', -, -, h8⟩ := seg_at h (j := i - a) (by omega)
  rw [← h4', h4] at h8
  have hlen := congrArg List.length h4
  simp at hlen
  have e : i = a + x.length := by
    rcases Nat.lt_or_ge i (a + x.length) with hh | hh
    · exfalso
      have hip : i < p.length := by omega
      rw [hc hip, List.getElem?_append_left (by omega)] at h8
      exact h2 (List.mem_of_getElem? h8.symm)
    · omega
  refine ⟨?_, fun hip => ?_⟩
  · have : (p.take i).drop a = x := by
      rw [List.drop_take, h4, e, Nat.add_sub_cancel_left, List.take_left' rfl]
    rw [this]; exact h1
  · cases xs with
    | nil => simp [glue] at hlen; omega
    | cons y ys =>
      refine ⟨y, ys, (h3 y (by simp)).1, (h3 y (by simp)).2, fun z hz => h3 z (by simp [hz]), ?_, Nat.le_refl _, by omega, by omega⟩
      have : p.drop (i + 1) = (p.drop a).drop (x.length + 1) := by rw [List.drop_drop, e]; rfl
      rw [this, h4, List.drop_append]
      simp [glue]

theorem up_back : ∀ v : UInt8, hex2 (up (v / 16)) (up (v % 16)) = some v := all_bytes _ (by decide +kernel)
theorem decoded_up (v : UInt8) : decoded [37, up (v / 16), up (v % 16)] = some [v] := by
  simp [decoded, up_back v]
/-- what stands at a percent sign of a path that is meant -/
theorem code_at {l : List UInt8} (h : Canon l) {i : Nat} (hi : l[i]? = some 37) : ∃ v : UInt8, (l.take (i + 3)).drop i = [37, up (v / 16), up (v % 16)] ∧ unres v = false ∧ l[i + 1]? = some (up (v / 16)) ∧ l[i + 2]? = some (up (v % 16)) := by
  obtain ⟨v, h1, h2, h3⟩ := canon_at h i hi
  refine ⟨v, ?_, h3, h1, h2⟩
  obtain ⟨b0, e0⟩ := List.getElem?_eq_some_iff.1 hi
  obtain ⟨b1, e1⟩ := List.getElem?_eq_some_iff.1 h1
  obtain ⟨b2, e2⟩ := List.getElem?_eq_some_iff.1 h2
  rw [List.drop_take, List.drop_eq_getElem_cons b0, List.drop_eq_getElem_cons b1, List.drop_eq_getElem_cons b2, e0, e1, e2]
  rw [show i + 3 - i = 3 by omega]
  rfl
end Go.Proofs.YthobmfnmenbkeaaDoor
end
/- The statement 'TargetMeant', walked. -/
section
set_option linter.unusedVariables false
set_option linter.unusedSimpArgs false
namespace Go.Proofs.YthobmfnmenbkeaaDoor
open Go.RowKit Tg

theorem StrsAt.parts {w : World} {v : Value} {xs : List (List UInt8)} (h : StrsAt w v xs) : ∃ o cap, v = .slice o xs.length cap ∧ ∀ j (h : j < xs.length), ∃ b, o = some ⟨b, 0, none⟩ ∧ w.cell? ⟨b, j, none⟩ = some (.string (txt xs[j])) := by
  rcases h with ⟨rfl, rfl⟩ | ⟨b, cap, rfl, h2, h3⟩
  · exact ⟨none, 0, rfl, fun j h => absurd h (by simp)⟩
  · exact ⟨some ⟨b, 0, none⟩, cap, rfl, fun j h => ⟨b, rfl, h3 j h⟩⟩

set_option maxRecDepth 100000 in
theorem same_calls (va vb : Value) (xs : List (List UInt8)) (w : World) (hl : xs.length ≤ 4294967296) (ha : StrsAt w va xs) (hb : StrsAt w vb xs) : Calls Tryd.prog 18 #[va, vb] w fun e w' => e = .returned (.bool true) ∧ Dr w w' := by
  obtain ⟨oa, ca, rfl, fa⟩ := ha.parts
  obtain ⟨ob, cb, rfl, fb⟩ := hb.parts
  clear ha hb
  have FA := Lib.hid fa
  have FB := Lib.hid fb
  clear fa fb
  go_enter Tryd.func18, Tryd.ntmps18
  go_wp2_with fail
  go_loopw [5] (fun i wr => ∃ k : Nat, k ≤ xs.length ∧ i = .int .i64 k ∧ Dr w wr) (fun i _ => xs.length - (intOf i).toNat)
  case atStart => exact ⟨0, Nat.zero_le _, rfl, ⟨⟨0, rfl⟩⟩⟩
  case round =>
    obtain ⟨k, hk, rfl, ⟨m, rfl⟩⟩ := hrel
    by_cases hlt : k < xs.length
    · obtain ⟨b, e1, h1⟩ := FA.out k hlt
      obtain ⟨c, e2, h2⟩ := FB.out k hlt
      clear FA FB
      subst e1 e2
      go_wp2_with fail
      go_quiet (fail)
      go_wp2_with fail
      exact ⟨⟨k + 1, by omega, by go_num, ⟨⟨_, rfl⟩⟩⟩, by simp [intOf]; omega⟩
    · go_wp2_with fail
      go_ret
      exact ⟨rfl, ⟨⟨m, rfl⟩⟩⟩

theorem extract_list (q : ByteArray) (a k : Nat) : (q.extract a k).data.toList = (q.data.toList.take k).drop a := by
  simp only [ByteArray.data_extract, Array.toList_extract, List.extract_eq_take_drop, List.drop_take]
theorem at_list {q : ByteArray} {p : List UInt8} (h : q.data.toList = p) {k : Nat} (hk : k < q.size) : p[k]? = some q[k] := by
  subst h
  rw [List.getElem?_eq_getElem (by simpa using hk)]; rfl
theorem byte_of_beq {a b : UInt8} (h : ((a.toNat : Int) == b.toNat) = true) : a = b := UInt8.toNat_inj.1 (by have := eq_of_beq h; omega)
theorem ne_of_beq {a b : UInt8} (h : ((a.toNat : Int) == b.toNat) = false) : a ≠ b := fun e => by subst e; simp at h
theorem neq_of {x y : Int} {r : Bool} (h : (x == y) = r) : (x != y) = !r := by rw [bne, h]
theorem segsOut_len (l : List UInt8) : (segsOut l).2.length ≤ 64 := by
  unfold segsOut
  split
  · simp
  · split
    · simp
    · simp; omega

set_option maxRecDepth 100000 in
set_option maxHeartbeats 1000000 in
theorem tmeant_none (s : ByteArray) (w : World) (hs : s.size ≤ 1048576) (hr : Rdy w) (hn : normal s.data.toList = none) : Calls Tryd.prog 5 #[.string s] w (PreIs w) := by
  have HN := Lib.hid (show textOr (normal s.data.toList) 23 = .tuple #[.string ⟨#[]⟩, .iface 56 (.int .i64 23)] by rw [hn]; rfl)
  clear hn
  go_enter Tryd.func5, Tryd.ntmps5
  go_wp2_with fail
  refine (normal_calls _ _ (by omega) hr).mono ?_
  rw [HN.out]
  rintro e w1 ⟨rfl, hb⟩
  have hr1 := hr.below hb
  go_wp2_with fail
  refine (works_calls _ hr1).mono ?_
  rintro e w2 ⟨rfl, hb2⟩
  go_wp2_with fail
  go_ret
  exact ⟨rfl, Below.trans2 hb hb.size hb2⟩

set_option maxRecDepth 100000 in
set_option maxHeartbeats 4000000 in
theorem tmeant_main (s : ByteArray) (w : World) (hs : s.size ≤ 1048576) (hr : Rdy w) (p : List UInt8) (hn : normal s.data.toList = some p) : Calls Tryd.prog 5 #[.string s] w (PreIs w) := by
  obtain ⟨out, hg, hne, hnd, hns, hcn⟩ := normal_facts hn
  have SEG := Lib.hid (seg_start hg hne hnd hns)
  have CAN := Lib.hid hcn
  obtain ⟨r, hgr⟩ := glue_head hne
  have hp0 : p = 47 :: r := hg.trans hgr
  have HN := Lib.hid (show textOr (normal s.data.toList) 23 = .tuple #[.string (txt p), .nilIface] by rw [hn]; rfl)
  have HN2 := Lib.hid (show textOr (normal (txt p).data.toList) 23 = .tuple #[.string (txt p), .nilIface] by rw [txt_data, normal_idem hn]; rfl)
  have HS := Lib.hid (show segsOut (txt p).data.toList = segsOut s.data.toList by rw [txt_data]; unfold segsOut; rw [normal_idem hn, hn])
  have hpl := normal_len hn
  rw [len] at hpl
  have hq := txt_size p
  rw [← hq] at hpl
  have hqd := Lib.hid (txt_data p)
  have h0 : 0 < (txt p).size := by rw [hq, hp0]; simp
  have h0e : ((txt p)[0]).toNat = 47 := by
    have : (txt p)[0] = p[0]'(by rw [← hq]; exact h0) := rfl
    rw [this]; simp [hp0]
  have HQ := Lib.hid hq
  clear hq
  generalize txt p = q at HN HN2 HS HQ hqd h0 h0e hpl
  have hb0 : (((q[0]).toNat : Int) == 47) = true := by rw [h0e]; rfl
  have hb0n := neq_of hb0
  have he := nonempty_of h0
  have he2 := ne_of_nonempty he
  have hxl := segsOut_len s.data.toList
  clear hn hg hgr hp0 h0e hnd hns hcn hne
  go_enter Tryd.func5, Tryd.ntmps5
  go_wp2_with fail
  refine (normal_calls _ _ (by omega) hr).mono ?_
  rw [HN.out]
  rintro e w1 ⟨rfl, hb1⟩
  have hr1 := hr.below hb1
  go_wp2_with fail
  refine (normal_calls _ _ (by omega) hr1).mono ?_
  rw [HN2.out]
  rintro e w2 ⟨rfl, hb2⟩
  have hr2 := hr1.below hb2
  have hc2 := Below.trans2 hb1 hb1.size hb2
  clear hb1 hb2 hr1
  go_wp2_with fail
  refine (segments_calls _ _ (by omega) hr2).mono ?_
  rintro e w3 ⟨v1, rfl, hs1, hb3⟩
  have hr3 := hr2.below hb3
  have hc3 := Below.trans2 hc2 hc2.size hb3
  clear hb3 hc2 hr2
  go_wp2_with fail
  refine (segments_calls _ _ (by omega) hr3).mono ?_
  rintro e w4 ⟨v2, rfl, hs2, hb4⟩
  rw [HS.out] at hs2 ⊢
  have hs3 := hs1.below hb4
  have hr4 := hr3.below hb4
  have hc4 := Below.trans2 hc3 hc3.size hb4
  clear hb4 hc3 hr3 hs1
  generalize (segsOut s.data.toList).1 = n at *
  generalize (segsOut s.data.toList).2 = xs at *
  go_wp2_with (first | (go_at_call 18; refine (same_calls _ _ xs _ (by omega) hs3 hs2).mono ?_; rintro e w' ⟨rfl, ⟨m, rfl⟩⟩) | (go_at_call 12; refine (num_calls _ _).mono ?_; rintro e w' ⟨rfl, rfl⟩))
  have hr5 := hr4.below (below_dr (Below.refl w4.heap.size w4) ⟨⟨m, rfl⟩⟩)
  have hc5 := Below.trans2 hc4 hc4.size (below_dr (Below.refl w4.heap.size w4) ⟨⟨m, rfl⟩⟩)
  clear hs2 hs3 hr4 hc4
  generalize w4.drewN m = w5 at *
  go_loop [11, 12] (fun a i => ∃ ka k : Nat, a = .int .i64 ka ∧ i = .int .i64 k ∧ (k ≤ q.size ∧ SegAt p ka k ∨ k = q.size + 1)) (fun a i => q.size + 1 - (intOf i).toNat)
  case atStart => exact ⟨1, 1, rfl, rfl, .inl ⟨by omega, SEG.out⟩⟩
  case round =>
    obtain ⟨ka, k, rfl, rfl, hcase⟩ := hrel
    by_cases hk : k ≤ q.size
    · have hseg : SegAt p ka k := by
        rcases hcase with h | h
        · exact h.2
        · omega
      clear hcase
      have hak : ka ≤ k := by obtain ⟨x, xs, h1, h2, h3, h4, h5, h6, h7⟩ := hseg; exact h5
      have HSG := Lib.hid hseg
      clear hseg
      by_cases hlt : k < q.size
      · have hgk := Lib.hid (at_list hqd.out hlt)
        have hlp := Lib.hid (show k < p.length by rw [← HQ.out]; exact hlt)
        cases hcc : ((q[k].toNat : Int) == 47) with
        | false =>
          have hcn := neq_of hcc
          go_wp2_with fail
          go_round
          case rel => exact ⟨ka, k + 1, rfl, by go_num, .inl ⟨by omega, seg_step HSG.out hlp.out (by rw [hgk.out]; intro e; exact ne_of_beq (b := 47) hcc (Option.some.inj e))⟩⟩
          case measure => simp [intOf]; omega
        | true =>
          have hcn := neq_of hcc
          have hse := Lib.hid (seg_end HSG.out (Nat.le_of_lt hlp.out) (fun _ => by rw [hgk.out, byte_of_beq (b := 47) hcc]))
          have e1 : ((q.extract ka k).toList == [46]) = false := str_not (by rw [extract_list, hqd.out]; exact hse.out.1.1)
          have e2 : ((q.extract ka k).toList == [46, 46]) = false := str_not (by rw [extract_list, hqd.out]; exact hse.out.1.2)
          go_wp2_with fail
          go_round
          case rel => exact ⟨k + 1, k + 1, by go_num, by go_num, .inl ⟨by omega, hse.out.2 hlp.out⟩⟩
          case measure => simp [intOf]; omega
      · have hse := Lib.hid (seg_end HSG.out (by rw [← HQ.out]; exact hk) (fun h => absurd (HQ.out ▸ h) hlt))
        have e1 : ((q.extract ka k).toList == [46]) = false := str_not (by rw [extract_list, hqd.out]; exact hse.out.1.1)
        have e2 : ((q.extract ka k).toList == [46, 46]) = false := str_not (by rw [extract_list, hqd.out]; exact hse.out.1.2)
        go_wp2_with fail
        go_round
        case rel => exact ⟨k + 1, k + 1, by go_num, by go_num, .inr (by omega)⟩
        case measure => simp [intOf]; omega
    · clear hcase
      go_wp2_with fail
      go_loopw [13] (fun i wr => ∃ k : Nat, k ≤ q.size ∧ i = .int .i64 k ∧ Below w5.heap.size w5 wr) (fun i _ => q.size - (intOf i).toNat)
      case atStart => exact ⟨0, Nat.zero_le _, rfl, Below.refl _ _⟩
      case round =>
        obtain ⟨k, hk, rfl, hbw⟩ := hrel
        have hrw := hr5.below hbw
        by_cases hlt : k + 2 < q.size
        · cases hcc : ((q[k].toNat : Int) == 37) with
          | false =>
            have hcn := neq_of hcc
            go_wp2_with fail
            exact ⟨⟨k + 1, by omega, by go_num, hbw⟩, by simp [intOf]; omega⟩
          | true =>
            have hcn := neq_of hcc
            obtain ⟨v, hv1, hv2, hv3, hv4⟩ := code_at CAN.out (i := k) (by rw [at_list hqd.out (by omega), byte_of_beq (b := 37) hcc])
            have HD := Lib.hid (show textOr (decoded (q.extract k (k + 3)).data.toList) 23 = .tuple #[.string ⟨#[v]⟩, .nilIface] by rw [extract_list, hqd.out, hv1, decoded_up]; rfl)
            have hu := up_lo v
            rw [at_list hqd.out (by omega)] at hv3 hv4
            have hu1 : (q[k + 1].toNat : Int) < 97 := by rw [Option.some.inj hv3]; have := UInt8.lt_iff_toNat_lt.1 hu.1; simp at this; omega
            have hu2 : (q[k + 2].toNat : Int) < 97 := by rw [Option.some.inj hv4]; have := UInt8.lt_iff_toNat_lt.1 hu.2; simp at this; omega
            clear hv1 hv3 hv4 hu
            have hsz : (q.extract k (k + 3)).size ≤ 140737488355328 := by simp; omega
            go_wp2_with (first | (go_at_call 19; refine (decode_calls _ _ hsz).mono ?_; rw [HD.out]; rintro e w6 ⟨rfl, hb6⟩) | (go_at_call 20; refine (rUnreserved_calls v _).mono ?_; rintro e w' ⟨rfl, rfl⟩))
            exact ⟨⟨k + 1, by omega, by go_num, Below.trans2 hbw hbw.size hb6⟩, by simp [intOf]; omega⟩
        · go_wp2_with (first | (go_at_call 13; refine (works_calls _ hrw).mono ?_; rintro e w6 ⟨rfl, hb6⟩))
          go_ret
          exact ⟨rfl, Below.trans2 (Below.trans2 hc5 hc5.size hbw) (Nat.le_trans hc5.size hbw.size) hb6⟩
end Go.Proofs.YthobmfnmenbkeaaDoor
end
/- The reference's functions that gather bytes, walked: Decode, and what a row of bytes is. -/
section
set_option linter.unusedVariables false
set_option linter.unusedSimpArgs false
namespace Go.Proofs.YthobmfnmenbkeaaDoor
open Go.RowKit Tg

theorem info5 : (Tryd.prog.info? 5).map (fun i => (i.zero, i.size, i.bytes)) = some (some (.int .u8 0), 1, 1) := by kernel_rfl
def bytesV (l : List UInt8) : List Value := l.map fun c => .int .u8 c.toNat
theorem bytesV_snoc (l : List UInt8) (c : UInt8) : bytesV l ++ [.int .u8 c.toNat] = bytesV (l ++ [c]) := by simp [bytesV]
theorem bytesV_len (l : List UInt8) : (bytesV l).length = l.length := by simp [bytesV]
/-- a text and an error's number -/
def textNum (o : Option (List UInt8)) : Value := match o with
  | some d => .tuple #[.string (txt d), .int .i64 0]
  | none => .tuple #[.string ⟨#[]⟩, .int .i64 23]
set_option maxRecDepth 100000 in
/-- the text of a row of bytes -/
theorem str_of_row {w : World} {B : Nat} {ov : Value} {l : List UInt8} (h : w.ownsRow B 5 1 ov l.length (bytesV l)) : (convert 64 9 ov).run Tryd.prog w = .ok (.string (txt l)) w := by
  by_cases h0 : 0 < l.length
  · obtain ⟨g, cap, rfl, h1, h2, h3, h4⟩ := own_form h h0
    refine run_convert_bytes_back w 64 9 5 ⟨g, 0, none⟩ cap l Tryd.underlying64 Tryd.underlying5 Tryd.underlying9 (fun j hj => ?_)
    rw [add_plain]
    have := h.cells (g := g) rfl j (.int .u8 l[j].toNat) (by simp [bytesV, hj])
    rw [add_plain] at this
    simpa using this
  · obtain rfl : l = [] := List.eq_nil_of_length_eq_zero (by omega)
    rcases h.2 with ⟨rfl, _⟩ | ⟨g, cap, cur, rfl, _⟩
    · kernel_rfl
    · exact run_convert_bytes_back w 64 9 5 ⟨g, 0, none⟩ cap [] Tryd.underlying64 Tryd.underlying5 Tryd.underlying9 (fun j hj => absurd hj (by simp))

set_option maxRecDepth 100000 in
set_option maxHeartbeats 4000000 in
theorem rdecode_calls (s : ByteArray) (w : World) (hs : s.size ≤ 4294967280) : Calls Tryd.prog 24 #[.string s] w fun e w' => e = .returned (textNum (decoded s.data.toList)) ∧ Below w.heap.size w w' := by
  go_enter Tryd.func24, Tryd.ntmps24
  go_wp2_with fail
  go_loopw [4, 5] (fun ov i wr => ∃ (k : Nat) (pre : List UInt8), k ≤ s.size ∧ i = .int .i64 k ∧ pre.length ≤ k ∧ decoded s.data.toList = (decoded (s.data.toList.drop k)).map (pre ++ ·) ∧ wr.ownsRow w.heap.size 5 1 ov pre.length (bytesV pre) ∧ Below w.heap.size w wr) (fun _ i _ => s.size - (intOf i).toNat)
  case atStart => exact ⟨0, [], Nat.zero_le _, rfl, Nat.zero_le _, by simp, World.ownsRow_nil _ _ _ _, Below.refl _ _⟩
  case round =>
    obtain ⟨k, pre, hk, rfl, hpl, hno, hown, hbw⟩ := hrel
    have HNO := Lib.hid hno
    clear hno
    have hz := hbw.size
    have hs' : s.size ≤ 140737488355328 := by omega
    obtain ⟨i0, hi, hz0, hz1, hz2⟩ := info_parts info5
    by_cases hlt : k < s.size
    · by_cases hp : s[k] = 37
      · have hq := byte_beq1 hp
        cases hc : code (s.data.toList.drop k) with
        | none =>
          have HM := Lib.hid (dec_none s k hlt hp hc)
          have hci := codei_none hc
          clear hp hc
          go_wp2_with (first | (go_at_call 50; refine (rcode_calls _ _ _ hs' hlt).mono ?_; rw [hci]; rintro e w' ⟨rfl, hd⟩))
          go_ret2
          exact ⟨ret_tuple (by rw [HNO.out, HM.out]; rfl), below_dr hbw hd⟩
        | some v =>
          obtain ⟨h2, hm⟩ := dec_some s k hlt hp hc
          have HM := Lib.hid hm
          have hci : codei (s.data.toList.drop k) = v.toNat := by unfold codei; rw [hc]
          have hv := v.toNat_lt
          clear hp hc hm
          go_wp2_with fail
          refine (rcode_calls _ _ _ hs' hlt).mono ?_
          rw [hci]
          rintro e w' ⟨rfl, ⟨n, rfl⟩⟩
          go_wp2_with (at_builtin; refine wpList_append_own _ rfl _ _ 64 rfl w.heap.size 5 i0 (.int .u8 0) 1 1 Tryd.underlying64 hi hz0 hz1 hz2 rfl (by decide) _ _ _ rfl (hown.alloc _) ⟨wr.heap.size, 0, none⟩ 1 1 [.int .u8 v.toNat] rfl rfl (cell_one_new _ _ _) ?c2 ?c3 ?c4 ?c5 ?c6)
          case c2 => simp [Value.oneCell']
          case c3 => unfold maxLen; omega
          case c4 => omega
          case c5 => rw [World.size_alloc]; simp; omega
          case c6 =>
            intro v' w1 hown' hgrow hnil
            go_wp2_with fail
            have hbw1 := ((below_dr hbw ⟨⟨n, rfl⟩⟩).alloc hz _).grown hgrow (by rw [World.size_alloc]; simp; omega) (fun k e => own_base hown k e)
            exact ⟨⟨k + 3, pre ++ [v], by omega, by go_num, by simp; omega, by rw [HNO.out, HM.out, map_cons_app], by simpa [bytesV] using hown', hbw1⟩, by simp [intOf]; omega⟩
      · have hq := byte_bne1 hp
        have HM := Lib.hid (dec_other s k hlt hp)
        clear hp
        go_wp2_with (at_builtin; refine wpList_append_own _ rfl _ _ 64 rfl w.heap.size 5 i0 (.int .u8 0) 1 1 Tryd.underlying64 hi hz0 hz1 hz2 rfl (by decide) _ _ _ rfl (hown.alloc _) ⟨wr.heap.size, 0, none⟩ 1 1 [.int .u8 s[k].toNat] rfl rfl (cell_one_new _ _ _) ?c2 ?c3 ?c4 ?c5 ?c6)
        case c2 => simp [Value.oneCell']
        case c3 => unfold maxLen; omega
        case c4 => omega
        case c5 => rw [World.size_alloc]; omega
        case c6 =>
          intro v' w1 hown' hgrow hnil
          go_wp2_with fail
          have hbw1 := (hbw.alloc hz _).grown hgrow (by rw [World.size_alloc]; omega) (fun k e => own_base hown k e)
          exact ⟨⟨k + 1, pre ++ [s[k]], by omega, by go_num, by simp; omega, by rw [HNO.out, HM.out, map_cons_app], by simpa [bytesV] using hown', hbw1⟩, by simp [intOf]; omega⟩
    · have hcv := str_of_row hown
      go_wp2_with fail
      go_ret2
      exact ⟨ret_tuple (by rw [HNO.out, List.drop_of_length_le (by simp; omega), decode_nil]; simp [textNum]), hbw⟩
end Go.Proofs.YthobmfnmenbkeaaDoor
end
section
set_option linter.unusedVariables false
set_option linter.unusedSimpArgs false
namespace Go.Proofs.YthobmfnmenbkeaaDoor
open Go.RowKit Tg

theorem great_hi : ∀ v : UInt8, ∀ h : (IntKind.i64.wrap ((v.toNat : Int) / 16)).toNat < 16, ((({ data := #[48, 49, 50, 51, 52, 53, 54, 55, 56, 57, 65, 66, 67, 68, 69, 70] } : ByteArray)[(IntKind.i64.wrap ((v.toNat : Int) / 16)).toNat]'h).toNat : Int) = (up (v / 16)).toNat := all_bytes _ (by decide +kernel)
theorem great_lo : ∀ v : UInt8, ∀ h : (((v.toNat : Int).tmod 16)).toNat < 16, ((({ data := #[48, 49, 50, 51, 52, 53, 54, 55, 56, 57, 65, 66, 67, 68, 69, 70] } : ByteArray)[((v.toNat : Int).tmod 16).toNat]'h).toNat : Int) = (up (v % 16)).toNat := all_bytes _ (by decide +kernel)
theorem tmod_rng : ∀ v : UInt8, 0 ≤ (v.toNat : Int).tmod 16 ∧ (v.toNat : Int).tmod 16 < 16 := all_bytes _ (by decide +kernel)
theorem cell_three_new (w : World) (x y z : Value) (t : TypeId) : ∀ j u, [x, y, z][j]? = some u → (w.alloc (.cells #[x, y, z] t)).cell? ((⟨w.heap.size, 0, none⟩ : Addr).add j) = some u := by
  intro j u hj
  match j, hj with
  | 0, hj => simp at hj; subst hj; simp [Addr.add]
  | 1, hj => simp at hj; subst hj; simp [Addr.add]
  | 2, hj => simp at hj; subst hj; simp [Addr.add]
/-- behind what was taken first: the rest in the order of the text, where that is forced -/
theorem wpAny_tail {P : Program} {md : Region.Mode} {ops : Array Oper} {Q' : Exit → Act → World → Prop} {n k : Nat} {listed : Array Bool} {a : Act} {w : World} (hn : n = (ops.toList.drop k).length)
    (hB : Region.seqB md ops n k listed = true) (h : wpList P ops Q' (ops.toList.drop k) a w) : wpAny P md ops Q' n listed a w := by
  subst hn
  exact wpAny_of_seq _ k listed a w (fun j => by simp [List.getElem?_drop]) hB h

set_option maxRecDepth 100000 in
set_option maxHeartbeats 4000000 in
theorem rmeant_calls (s : ByteArray) (w : World) (hs : s.size ≤ 4294967280) : Calls Tryd.prog 49 #[.string s] w fun e w' => e = .returned (.string (txt (meant s.data.toList))) ∧ Below w.heap.size w w' := by
  go_enter Tryd.func49, Tryd.ntmps49
  go_wp2_with fail
  go_loopw [3, 4] (fun ov i wr => ∃ (k : Nat) (pre : List UInt8), k ≤ s.size ∧ i = .int .i64 k ∧ pre.length ≤ k ∧ meant s.data.toList = pre ++ meant (s.data.toList.drop k) ∧ wr.ownsRow w.heap.size 5 1 ov pre.length (bytesV pre) ∧ Below w.heap.size w wr) (fun _ i _ => s.size - (intOf i).toNat)
  case atStart => exact ⟨0, [], Nat.zero_le _, rfl, Nat.zero_le _, by simp, World.ownsRow_nil _ _ _ _, Below.refl _ _⟩
  case round =>
    obtain ⟨k, pre, hk, rfl, hpl, hno, hown, hbw⟩ := hrel
    have HNO := Lib.hid hno
    clear hno
    have hz := hbw.size
    have hs' : s.size ≤ 140737488355328 := by omega
    obtain ⟨i0, hi, hz0, hz1, hz2⟩ := info_parts info5
    by_cases hlt : k < s.size
    · cases hc : code (s.data.toList.drop k) with
      | none =>
        have HM := Lib.hid (mean_none s k hlt hc)
        have hci := codei_none hc
        clear hc
        go_wp2_with fail
        refine (rcode_calls _ _ _ hs' hlt).mono ?_
        rw [hci]
        rintro e w' ⟨rfl, ⟨n, rfl⟩⟩
        go_wp2_with (at_builtin; refine wpList_append_own _ rfl _ _ 64 rfl w.heap.size 5 i0 (.int .u8 0) 1 1 Tryd.underlying64 hi hz0 hz1 hz2 rfl (by decide) _ _ _ rfl (hown.alloc _) ⟨wr.heap.size, 0, none⟩ 1 1 [.int .u8 s[k].toNat] rfl rfl (cell_one_new _ _ _) ?c2 ?c3 ?c4 ?c5 ?c6)
        case c2 => simp [Value.oneCell']
        case c3 => unfold maxLen; omega
        case c4 => omega
        case c5 => rw [World.size_alloc]; simp; omega
        case c6 =>
          intro v' w1 hown' hgrow hnil
          go_wp2_with fail
          have hbw1 := ((below_dr hbw ⟨⟨n, rfl⟩⟩).alloc hz _).grown hgrow (by rw [World.size_alloc]; simp; omega) (fun k e => own_base hown k e)
          exact ⟨⟨k + 1, pre ++ [s[k]], by omega, by go_num, by simp; omega, by rw [HNO.out, HM.out]; simp, by simpa [bytesV] using hown', hbw1⟩, by simp [intOf]; omega⟩
      | some v =>
        obtain ⟨h2, hm⟩ := mean_some s k hlt hc
        have HM := Lib.hid hm
        have hci : codei (s.data.toList.drop k) = v.toNat := by unfold codei; rw [hc]
        have hv := v.toNat_lt
        clear hc hm
        go_wp2_with fail
        refine (rcode_calls _ _ _ hs' hlt).mono ?_
        rw [hci]
        rintro e w' ⟨rfl, ⟨n, rfl⟩⟩
        go_wp2_with fail
        refine (rUnreserved_calls v _).mono ?_
        cases hu : unres v with
        | true =>
          rintro e w' ⟨rfl, rfl⟩
          go_wp2_with (at_builtin; refine wpList_append_own _ rfl _ _ 64 rfl w.heap.size 5 i0 (.int .u8 0) 1 1 Tryd.underlying64 hi hz0 hz1 hz2 rfl (by decide) _ _ _ rfl (hown.alloc _) ⟨wr.heap.size, 0, none⟩ 1 1 [.int .u8 v.toNat] rfl rfl (cell_one_new _ _ _) ?c2 ?c3 ?c4 ?c5 ?c6)
          case c2 => simp [Value.oneCell']
          case c3 => unfold maxLen; omega
          case c4 => omega
          case c5 => rw [World.size_alloc]; simp; omega
          case c6 =>
            intro v' w1 hown' hgrow hnil
            go_wp2_with fail
            have hbw1 := ((below_dr hbw ⟨⟨n, rfl⟩⟩).alloc hz _).grown hgrow (by rw [World.size_alloc]; simp; omega) (fun k e => own_base hown k e)
            exact ⟨⟨k + 3, pre ++ [v], by omega, by go_num, by simp; omega, by rw [HNO.out, HM.out, hu]; simp, by simpa [bytesV] using hown', hbw1⟩, by simp [intOf]; omega⟩
        | false =>
          rintro e w' ⟨rfl, rfl⟩
          go_wp2_with fail
          refine wp_region_any (by kernel_rfl) ?_
          change wpAny _ _ _ _ _ _ _ (World.drew _)
          refine wpAny_take (i := 0) (v := ?v0) rfl (by kernel_rfl) (by kernel_rfl) (by kernel_rfl) (fun _ _ _ h => h) (Or.inl ⟨by rfl, ?hy0⟩) ?rest0
          case hy0 => intro w; go_simp; (try with_reducible rfl); (try (first | rw [if_pos (by omega)] | rw [if_neg (by omega)])); (try go_simp); (try with_reducible rfl)
          refine wpAny_take (i := 1) (v := ?v1) rfl (by kernel_rfl) (by kernel_rfl) (by kernel_rfl) (fun _ _ _ h => h) (Or.inl ⟨by rfl, ?hy1⟩) ?rest1
          case hy1 => intro w; go_simp; (try with_reducible rfl); (try (first | rw [if_pos (by omega)] | rw [if_neg (by omega)])); (try go_simp); (try with_reducible rfl)
          refine wpAny_take (i := 2) (v := ?v2) rfl (by kernel_rfl) (by kernel_rfl) (by kernel_rfl) (fun _ _ _ h => h) (Or.inl ⟨by rfl, ?hy2⟩) ?rest2
          case hy2 => intro w; go_simp; (try with_reducible rfl); (try (first | rw [if_pos (by omega)] | rw [if_neg (by omega)])); (try go_simp); (try with_reducible rfl)
          refine wpAny_take (i := 3) (v := .int .u8 (up (v / 16)).toNat) rfl (by kernel_rfl) (by kernel_rfl) (by kernel_rfl) (fun _ _ _ h => h) (Or.inl ⟨by rfl, ?hy3⟩) ?rest3
          case hy3 =>
            intro w; go_simp
            rw [dif_pos (by rw [IntWalk.i64_in _ (by omega)]; omega)]
            rw [great_hi v]
            rfl
          refine wpAny_take (i := 4) (v := ?v4) rfl (by kernel_rfl) (by kernel_rfl) (by kernel_rfl) (fun _ _ _ h => h) (Or.inl ⟨by rfl, ?hy4⟩) ?rest4
          case hy4 => intro w; go_simp; (try with_reducible rfl); (try (first | rw [if_pos (by omega)] | rw [if_neg (by omega)])); (try go_simp); (try with_reducible rfl)
          refine wpAny_take (i := 5) (v := ?v5) rfl (by kernel_rfl) (by kernel_rfl) (by kernel_rfl) (fun _ _ _ h => h) (Or.inl ⟨by rfl, ?hy5⟩) ?rest5
          case hy5 => intro w; go_simp; (try with_reducible rfl); (try (first | rw [if_pos (by omega)] | rw [if_neg (by omega)])); (try go_simp); (try with_reducible rfl)
          refine wpAny_take (i := 6) (v := .int .u8 (up (v % 16)).toNat) rfl (by kernel_rfl) (by kernel_rfl) (by kernel_rfl) (fun _ _ _ h => h) (Or.inl ⟨by rfl, ?hy6⟩) ?rest6
          case hy6 =>
            intro w; go_simp
            rw [dif_pos (tmod_rng v)]
            rw [great_lo v]
            rfl
          refine wpAny_tail (k := 7) (by kernel_rfl) (by kernel_rfl) ?_
          simp only [List.drop_succ_cons, List.drop_zero]
          have hbx := below_dr (below_dr hbw ⟨⟨n, rfl⟩⟩) ⟨⟨1, rfl⟩⟩
          have hox : ((wr.drewN n).drew).ownsRow w.heap.size 5 1 _ pre.length (bytesV pre) := hown
          change Below w.heap.size w ((wr.drewN n).drew) at hbx
          generalize (wr.drewN n).drew = wx at hbx hox ⊢
          have hzx := hbx.size
          go_wp2_with (at_builtin; refine wpList_append_own _ rfl _ _ 64 rfl w.heap.size 5 i0 (.int .u8 0) 1 1 Tryd.underlying64 hi hz0 hz1 hz2 rfl (by decide) _ _ _ rfl (hox.alloc _) ⟨wx.heap.size, 0, none⟩ 3 3 [.int .u8 37, .int .u8 (up (v / 16)).toNat, .int .u8 (up (v % 16)).toNat] rfl rfl (cell_three_new _ _ _ _ _) ?c2 ?c3 ?c4 ?c5 ?c6)
          case c2 => simp [Value.oneCell']
          case c3 => unfold maxLen; omega
          case c4 => omega
          case c5 => rw [World.size_alloc]; omega
          case c6 =>
            intro v' w1 hown' hgrow hnil
            go_wp2_with fail
            have hbw1 := (hbx.alloc hzx _).grown hgrow (by rw [World.size_alloc]; omega) (fun k e => own_base hown k e)
            exact ⟨⟨k + 3, pre ++ coded v, by omega, by go_num, by simp [coded]; omega, by rw [HNO.out, HM.out, hu]; simp, by simpa [bytesV, coded] using hown', hbw1⟩, by simp [intOf]; omega⟩
    · have hcv := str_of_row hown
      go_wp2_with fail
      go_ret
      exact ⟨ret_tuple (by rw [HNO.out, List.drop_of_length_le (by simp; omega), meant_nil]; simp), hbw⟩
end Go.Proofs.YthobmfnmenbkeaaDoor
end
