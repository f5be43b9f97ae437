/- Texts that the proof leans on, part 1. -/
import Derived.WalkKit
import Derived.Test.YthpecpkncifngaaDoorWWords
import Derived.Shelf.Strings.Builder1
import Derived.Shelf.Strings.Builder2
import Derived.Shelf.Strings.OnBuilder
import Derived.Shelf.Strings.Trim
import Derived.Shelf.Small.Utf8
import Derived.Shelf.Small.Strs
import Derived.Shelf.Strings.Search1
import Derived.Shelf.Strings.Search2
import Derived.Shelf.Strings.Search3
import Derived.Shelf.Strings.Cut
import Derived.Shelf.Strings.Count
import Derived.Shelf.LaysM
import Derived.Shelf.Strings.Shaped
import Derived.Shelf.Strings.LastIndex
import Derived.Shelf.Strings.Prefix
import Derived.Shelf.Strings.Runes
import Derived.Shelf.Strings.AsciiSet
import Derived.Shelf.Unicode.DecodeSlow
import Derived.Test.YthpecpkncifngaaDoorProg
import Derived.Lib.Bytealg
import Derived.Lib.IndexLaws
import Derived.RangeFuncNested
import Derived.RangeFuncBound
import Derived.RangeFuncCalls
import Derived.RangeFuncLeaves
import Derived.RangeFuncFrom
import Derived.Shelf.Abstract
import Derived.Shelf.RegionOpen
import Derived.OwnWalkIn
import Derived.TacticsInMore
import Derived.LoopNIn
import Derived.LoopIn
import Derived.IntWalk
import Derived.Lib.IndexBytes
import Derived.Lib.Join
import Derived.Lib.PathFns
import Derived.Lib.Hide
import Derived.Outline
import Derived.Deep.DeepMust
import Derived.Below
import Derived.Deep.Draws
import Derived.Deep.AppendLies
import Derived.Maps.AppendAt
import Derived.OwnWalk
import Derived.Laws.BytesArg
import Derived.Laws.MakeOwn
import Derived.Laws.OwnMore
import Derived.Deep.OwnRows
import Derived.Tactics
import Derived.Lib.ConvBytes
import Derived.Laws.Slices
import Derived.KernelRfl
import Derived.RowKit3
import Derived.Deep.LoopGhost
import Derived.Deep.QuietTactic
import Derived.BigQuiet
import Derived.WideLaws
import Derived.Deep.DeepCutAuto
import Derived.Deep.CutBlock
import Derived.Deep.RegionHeld3
import Derived.Laws.Rows
import Derived.Lib.AppendStr
import Derived.ArgAppend
import Derived.Laws.IdiomCopy
import Derived.OrdersHeld
import Derived.Laws.BitsLemmas
import Derived.RowKit
import Derived.Test.YthpecpkncifngaaDoorWLast
import Derived.Test.YthpecpkncifngaaDoorWTab
import Derived.Test.YthpecpkncifngaaDoorWFour
import Derived.Test.YthpecpkncifngaaDoorWQPut
import Derived.Test.YthpecpkncifngaaDoorWApart
import Derived.Test.YthpecpkncifngaaDoorWArr
import Derived.Test.YthpecpkncifngaaDoorWZeros
import Derived.Test.YthpecpkncifngaaDoorWFoot
import Derived.Test.YthpecpkncifngaaDoorWKept
import Derived.Test.YthpecpkncifngaaDoorWShare
import Derived.Test.YthpecpkncifngaaDoorWN
import Derived.Test.YthpecpkncifngaaDoorWFootNe
import Derived.Test.YthpecpkncifngaaDoorWAt
import Derived.Test.YthpecpkncifngaaDoorWEqStruct
import Derived.Test.YthpecpkncifngaaDoorWRepsOne
import Derived.Test.YthpecpkncifngaaDoorWInv
import Derived.Test.YthpecpkncifngaaDoorWInvWords
import Derived.Test.YthpecpkncifngaaDoorWGuard
import Derived.Test.YthpecpkncifngaaDoorWNEv
import Derived.Test.YthpecpkncifngaaDoorWMore
import Derived.RangeFuncBox
import Derived.Laws.EntriesVeiled
import Derived.MapKept
import Derived.RangeFuncOwn
set_option linter.unusedVariables false
set_option linter.unusedSimpArgs false
/- The orders '>', '<=', '>=' on strings, as the printed texts spell them. -/
section
namespace Go.Proofs.YthpecpkncifngaaDoor
theorem bytesLess_swap : ∀ (a b : List UInt8), (!(Op.bytesLess a b || a == b)) = Op.bytesLess b a
  | [], [] => rfl
  | [], _ :: _ => rfl
  | _ :: _, [] => rfl
  | x :: a, y :: b => by
    simp only [Op.bytesLess]
    have ih := bytesLess_swap a b
    by_cases h : x = y
    · subst h
      simp
      simpa using ih
    · have h1 : (x == y) = false := by simpa using h
      have h2 : (y == x) = false := by simpa using fun e => h e.symm
      have h3 : ((x :: a) == (y :: b)) = false := by simp [h]
      rw [h1, h2, h3]
      simp only [Bool.false_and, Bool.or_false]
      by_cases h4 : x < y
      · have h5 : ¬ y < x := by rw [UInt8.lt_iff_toNat_lt] at *; omega
        simp [h4, h5]
      · have h5 : y < x := by
          rw [UInt8.lt_iff_toNat_lt] at *
          have : x.toNat ≠ y.toNat := fun e => h (UInt8.toNat_inj.1 e)
          omega
        simp [h4, h5]
theorem bytesLess_swap' (a b : List UInt8) : (Op.bytesLess a b || a == b) = !Op.bytesLess b a := by
  rw [← bytesLess_swap a b, Bool.not_not]
@[go_sem] theorem string_gtr (t : TypeId) (a b : ByteArray) : binOp .gtr t (.string a) (.string b) = pure (.bool (Op.bytesLess b.toList a.toList)) := by
  rw [← bytesLess_swap]
  simp [binOp, Op.stringOp]
@[go_sem] theorem string_leq (t : TypeId) (a b : ByteArray) : binOp .leq t (.string a) (.string b) = pure (.bool (!Op.bytesLess b.toList a.toList)) := by
  rw [← bytesLess_swap']
  simp [binOp, Op.stringOp]
@[go_sem] theorem string_geq (t : TypeId) (a b : ByteArray) : binOp .geq t (.string a) (.string b) = pure (.bool (!Op.bytesLess a.toList b.toList)) := by
  simp [binOp, Op.stringOp]
end Go.Proofs.YthpecpkncifngaaDoor
end

/- Small words beside the print's own. -/
section
namespace Go.Proofs.YthpecpkncifngaaDoorW.PrintWords
theorem bt_atN (s : ByteArray) (n : Nat) : ∀ h : n < s.size, ((s[n]'h).toNat : Int) = bt s (n : Int) := fun h => by simp [bt, h]
end Go.Proofs.YthpecpkncifngaaDoorW.PrintWords
end

/-
  DERIVED: THE SHELF's CONTRACTS AT THIS DUMP, IN PLAIN WORDS (tools/lay-plain.mjs out of 'TrydShelf.lean', which tools/lay-shelf.mjs wrote): THE SAME DECLARATIONS UNDER THE SAME NAMES: 'import', 'namespace', 'open', 'def', 'theorem' AND NOTHING ELSE: no command of the shelf's: FOR A HAND-IN. Each laying: the table of numbers ('.._ren') and one theorem, a field a fact of the dump's own or the kernel's comparison; each contract: ONE APPLICATION.
-/
section
namespace Go.Proofs
open Go.Shelf
def Tryd.lays156_ren : Go.Shelf.Ren := ⟨fun | 156 => 85 | 165 => 102 | 166 => 103 | 169 => 104 | 240 => 119 | 241 => 120 | 276 => 128 | 277 => 129 | n => n, fun | 31 => 60 | 9 => 9 | 3 => 3 | 4 => 4 | 0 => 0 | 20 => 20 | 72 => 122 | 76 => 126 | 70 => 120 | 37 => 24 | 75 => 125 | 127 => 138 | 164 => 143 | 5 => 5 | 80 => 128 | n => n, fun | n => n⟩
theorem Tryd.lays156 : Go.Proofs.Lays.n156 Tryd.prog Tryd.lays156_ren := {
  mixed := by kernel_rfl
  f156 := Tryd.func85.trans (congrArg some (by kernel_rfl))
  f165 := Tryd.func102.trans (congrArg some (by kernel_rfl))
  f166 := Tryd.func103.trans (congrArg some (by kernel_rfl))
  f169 := Tryd.func104.trans (congrArg some (by kernel_rfl))
  f240 := Tryd.func119.trans (congrArg some (by kernel_rfl))
  f241 := Tryd.func120.trans (congrArg some (by kernel_rfl))
  f276 := Tryd.func128.trans (congrArg some (by kernel_rfl))
  f277 := Tryd.func129.trans (congrArg some (by kernel_rfl))
  t0 := Tryd.underlying0
  a0 := Tryd.isAgg0
  z0 := Tryd.sizeOf0
  v0 := Tryd.zeroValue0
  t3 := Tryd.underlying3
  a3 := Tryd.isAgg3
  z3 := Tryd.sizeOf3
  v3 := Tryd.zeroValue3
  t4 := Tryd.underlying4
  a4 := Tryd.isAgg4
  z4 := Tryd.sizeOf4
  v4 := Tryd.zeroValue4
  t9 := Tryd.underlying9
  a9 := Tryd.isAgg9
  z9 := Tryd.sizeOf9
  v9 := Tryd.zeroValue9
  t20 := Tryd.underlying20
  a20 := Tryd.isAgg20
  z20 := Tryd.sizeOf20
  v20 := Tryd.zeroValue20
  t31 := Tryd.underlying60
  a31 := Tryd.isAgg60
  z31 := Tryd.sizeOf60
  v31 := Tryd.zeroValue60
  t37 := Tryd.underlying24
  a37 := Tryd.isAgg24
  z37 := Tryd.sizeOf24
  v37 := Tryd.zeroValue24
  t70 := Tryd.underlying120
  a70 := Tryd.isAgg120
  z70 := Tryd.sizeOf120
  v70 := Tryd.zeroValue120
  t72 := Tryd.underlying122
  a72 := Tryd.isAgg122
  z72 := Tryd.sizeOf122
  v72 := Tryd.zeroValue122
  t75 := Tryd.underlying125
  a75 := Tryd.isAgg125
  z75 := Tryd.sizeOf125
  v75 := Tryd.zeroValue125
  t76 := Tryd.underlying126
  a76 := Tryd.isAgg126
  z76 := Tryd.sizeOf126
  v76 := Tryd.zeroValue126
  t127 := Tryd.underlying138
  a127 := Tryd.isAgg138
  z127 := Tryd.sizeOf138
  v127 := Tryd.zeroValue138
  t164 := Tryd.underlying143
  a164 := Tryd.isAgg143
  z164 := Tryd.sizeOf143
  v164 := Tryd.zeroValue143 }
theorem Tryd.Builder_Extra_156 : Builder.Extra Tryd.prog Tryd.lays156_ren := {
  sizeBuilder := by kernel_rfl
  liesBuilder := by kernel_rfl
  t5 := Tryd.underlying5
  a5 := Tryd.isAgg5
  z5 := Tryd.sizeOf5
  v5 := Tryd.zeroValue5
  infoByte := by kernel_rfl
  cellsByte := by kernel_rfl
  sizeByte := by kernel_rfl
  neB5 := by decide }
open Go.RowKit in
theorem Tryd.strings_Join_none (a : Option Addr) (c : Nat) (sep : ByteArray) (w : World) :
    Calls Tryd.prog 85 #[.slice a 0 c, .string sep] w fun e w' => e = .returned (.string ⟨#[]⟩) ∧ w' = w := Any.strings_Join_none Tryd.lays156 Tryd.Builder_Extra_156 a c sep w
open Go.RowKit in
theorem Tryd.strings_Join (bk o c : Nat) (xs : List ByteArray) (sep : ByteArray) (w : World) (hcells : ∀ (j : Nat) x, xs[j]? = some x → w.cell? ⟨bk, o + j, none⟩ = some (.string x)) (hbk : bk < w.heap.size) (hN : xs.length ≤ 140737488355328) (hcap : xs.length ≤ c) (hlen : (Lib.join (xs.map (·.data.toList)) sep.data.toList).length ≤ 140737488355328) :
    Calls Tryd.prog 85 #[.slice (some ⟨bk, o, none⟩) xs.length c, .string sep] w fun e w' => e = .returned (.string ⟨(Lib.join (xs.map (·.data.toList)) sep.data.toList).toArray⟩) ∧ Below w.heap.size w w' := Any.strings_Join Tryd.lays156 Tryd.Builder_Extra_156 bk o c xs sep w hcells hbk hN hcap hlen
def Tryd.lays160_ren : Go.Shelf.Ren := ⟨fun | 160 => 60 | 232 => 87 | 231 => 86 | 227 => 88 | 234 => 90 | 233 => 89 | 236 => 92 | 235 => 91 | 228 => 105 | 271 => 108 | 151 => 107 | 197 => 106 | 120 => 123 | 152 => 122 | 260 => 121 | 137 => 70 | 119 => 130 | 224 => 114 | 225 => 113 | 217 => 95 | 266 => 111 | n => n, fun | 9 => 9 | 4 => 4 | 3 => 3 | 5 => 5 | 117 => 112 | 116 => 111 | 0 => 0 | 124 => 115 | 21 => 21 | 105 => 130 | 46 => 104 | 119 => 146 | 139 => 149 | 138 => 148 | n => n, fun | 3 => 1 | 4 => 2 | n => n⟩
theorem Tryd.lays160 : Go.Proofs.Lays.n160 Tryd.prog Tryd.lays160_ren := {
  mixed := by kernel_rfl
  f119 := Tryd.func130.trans (congrArg some (by kernel_rfl))
  f120 := Tryd.func123.trans (congrArg some (by kernel_rfl))
  f137 := Tryd.func70.trans (congrArg some (by kernel_rfl))
  f151 := Tryd.func107.trans (congrArg some (by kernel_rfl))
  f152 := Tryd.func122.trans (congrArg some (by kernel_rfl))
  f160 := Tryd.func60.trans (congrArg some (by kernel_rfl))
  f197 := Tryd.func106.trans (congrArg some (by kernel_rfl))
  f217 := Tryd.func95.trans (congrArg some (by kernel_rfl))
  f224 := Tryd.func114.trans (congrArg some (by kernel_rfl))
  f225 := Tryd.func113.trans (congrArg some (by kernel_rfl))
  f227 := Tryd.func88.trans (congrArg some (by kernel_rfl))
  f228 := Tryd.func105.trans (congrArg some (by kernel_rfl))
  f231 := Tryd.func86.trans (congrArg some (by kernel_rfl))
  f232 := Tryd.func87.trans (congrArg some (by kernel_rfl))
  f233 := Tryd.func89.trans (congrArg some (by kernel_rfl))
  f234 := Tryd.func90.trans (congrArg some (by kernel_rfl))
  f235 := Tryd.func91.trans (congrArg some (by kernel_rfl))
  f236 := Tryd.func92.trans (congrArg some (by kernel_rfl))
  f260 := Tryd.func121.trans (congrArg some (by kernel_rfl))
  f266 := Tryd.func111.trans (congrArg some (by kernel_rfl))
  f271 := Tryd.func108.trans (congrArg some (by kernel_rfl))
  t0 := Tryd.underlying0
  a0 := Tryd.isAgg0
  z0 := Tryd.sizeOf0
  v0 := Tryd.zeroValue0
  t3 := Tryd.underlying3
  a3 := Tryd.isAgg3
  z3 := Tryd.sizeOf3
  v3 := Tryd.zeroValue3
  t4 := Tryd.underlying4
  a4 := Tryd.isAgg4
  z4 := Tryd.sizeOf4
  v4 := Tryd.zeroValue4
  t5 := Tryd.underlying5
  a5 := Tryd.isAgg5
  z5 := Tryd.sizeOf5
  v5 := Tryd.zeroValue5
  t9 := Tryd.underlying9
  a9 := Tryd.isAgg9
  z9 := Tryd.sizeOf9
  v9 := Tryd.zeroValue9
  t21 := Tryd.underlying21
  a21 := Tryd.isAgg21
  z21 := Tryd.sizeOf21
  v21 := Tryd.zeroValue21
  t46 := Tryd.underlying104
  a46 := Tryd.isAgg104
  z46 := Tryd.sizeOf104
  v46 := Tryd.zeroValue104
  t105 := Tryd.underlying130
  a105 := Tryd.isAgg130
  z105 := Tryd.sizeOf130
  v105 := Tryd.zeroValue130
  t116 := Tryd.underlying111
  a116 := Tryd.isAgg111
  z116 := Tryd.sizeOf111
  t117 := Tryd.underlying112
  a117 := Tryd.isAgg112
  z117 := Tryd.sizeOf112
  v117 := Tryd.zeroValue112
  t119 := Tryd.underlying146
  a119 := Tryd.isAgg146
  z119 := Tryd.sizeOf146
  t124 := Tryd.underlying115
  a124 := Tryd.isAgg115
  z124 := Tryd.sizeOf115
  v124 := Tryd.zeroValue115
  t138 := Tryd.underlying148
  a138 := Tryd.isAgg148
  z138 := Tryd.sizeOf148
  v138 := Tryd.zeroValue148
  t139 := Tryd.underlying149
  a139 := Tryd.isAgg149
  z139 := Tryd.sizeOf149
  v139 := Tryd.zeroValue149
  g3 := by kernel_rfl
  g4 := by kernel_rfl }
open Go.RowKit in
theorem Tryd.strings_Trim_one (s : ByteArray) (c : UInt8) (hc : c.toNat < 128) (w : World) (hs : s.size ≤ 9223372036854775807) :
    Calls Tryd.prog 60 #[.string s, .string ⟨#[c]⟩] w fun e w' => e = .returned (.string ⟨(Lib.trimB s.data.toList c).toArray⟩) ∧ (w' = w ∨ w' = w.drew) := Any.strings_Trim_one Tryd.lays160 s c hc w hs
def Tryd.lays137_ren : Go.Shelf.Ren := ⟨fun | 137 => 70 | 217 => 95 | 266 => 111 | n => n, fun | 9 => 9 | 5 => 5 | 3 => 3 | n => n, fun | n => n⟩
theorem Tryd.lays137 : Go.Proofs.Lays.n137 Tryd.prog Tryd.lays137_ren := {
  mixed := by kernel_rfl
  f137 := Tryd.func70.trans (congrArg some (by kernel_rfl))
  f217 := Tryd.func95.trans (congrArg some (by kernel_rfl))
  f266 := Tryd.func111.trans (congrArg some (by kernel_rfl))
  t3 := Tryd.underlying3
  a3 := Tryd.isAgg3
  z3 := Tryd.sizeOf3
  v3 := Tryd.zeroValue3
  t5 := Tryd.underlying5
  a5 := Tryd.isAgg5
  z5 := Tryd.sizeOf5
  v5 := Tryd.zeroValue5
  t9 := Tryd.underlying9
  a9 := Tryd.isAgg9
  z9 := Tryd.sizeOf9
  v9 := Tryd.zeroValue9 }
open Go.RowKit in
theorem Tryd.strings_IndexByte (s : ByteArray) (c : Int) (w : World) :
    Calls Tryd.prog 70 #[.string s, .int .u8 c] w fun e w' => e = .returned (.int .i64 (Lib.indexByte s.data.toList c.toNat.toUInt8)) ∧ w' = w := Any.strings_IndexByte Tryd.lays137 s c w
def Tryd.lays219_ren : Go.Shelf.Ren := ⟨fun | 219 => 100 | 217 => 95 | 225 => 113 | 224 => 114 | 267 => 115 | 266 => 111 | 314 => 125 | n => n, fun | 9 => 9 | 3 => 3 | 4 => 4 | 5 => 5 | 46 => 104 | 146 => 141 | 51 => 140 | n => n, fun | 1 => 0 | n => n⟩
theorem Tryd.lays219 : Go.Proofs.Lays.n219 Tryd.prog Tryd.lays219_ren := {
  mixed := by kernel_rfl
  f217 := Tryd.func95.trans (congrArg some (by kernel_rfl))
  f219 := Tryd.func100.trans (congrArg some (by kernel_rfl))
  f224 := Tryd.func114.trans (congrArg some (by kernel_rfl))
  f225 := Tryd.func113.trans (congrArg some (by kernel_rfl))
  f266 := Tryd.func111.trans (congrArg some (by kernel_rfl))
  f267 := Tryd.func115.trans (congrArg some (by kernel_rfl))
  f314 := Tryd.func125.trans (congrArg some (by kernel_rfl))
  t3 := Tryd.underlying3
  a3 := Tryd.isAgg3
  z3 := Tryd.sizeOf3
  v3 := Tryd.zeroValue3
  t4 := Tryd.underlying4
  a4 := Tryd.isAgg4
  z4 := Tryd.sizeOf4
  v4 := Tryd.zeroValue4
  t5 := Tryd.underlying5
  a5 := Tryd.isAgg5
  z5 := Tryd.sizeOf5
  v5 := Tryd.zeroValue5
  t9 := Tryd.underlying9
  a9 := Tryd.isAgg9
  z9 := Tryd.sizeOf9
  v9 := Tryd.zeroValue9
  t46 := Tryd.underlying104
  a46 := Tryd.isAgg104
  z46 := Tryd.sizeOf104
  v46 := Tryd.zeroValue104
  t51 := Tryd.underlying140
  a51 := Tryd.isAgg140
  z51 := Tryd.sizeOf140
  v51 := Tryd.zeroValue140
  t146 := Tryd.underlying141
  a146 := Tryd.isAgg141
  z146 := Tryd.sizeOf141
  v146 := Tryd.zeroValue141
  g1 := by kernel_rfl }
open Go.RowKit Go.Lib in
theorem Tryd.stringslite_Index_one (s : ByteArray) (c : UInt8) (w : World) :
    Calls Tryd.prog 100 #[.string s, .string ⟨#[c]⟩] w fun e w' => e = .returned (.int .i64 (Lib.indexByte s.data.toList c)) ∧ w' = w := Any.stringslite_Index_one Tryd.lays219 s c w
def Tryd.lays143_ren : Go.Shelf.Ren := ⟨fun | 143 => 118 | 219 => 100 | 217 => 95 | 225 => 113 | 224 => 114 | 267 => 115 | 266 => 111 | 314 => 125 | n => n, fun | 9 => 9 | 3 => 3 | 4 => 4 | 5 => 5 | 46 => 104 | 146 => 141 | 51 => 140 | n => n, fun | 1 => 0 | n => n⟩
theorem Tryd.lays143 : Go.Proofs.Lays.n143 Tryd.prog Tryd.lays143_ren := {
  mixed := by kernel_rfl
  f143 := Tryd.func118.trans (congrArg some (by kernel_rfl))
  f217 := Tryd.func95.trans (congrArg some (by kernel_rfl))
  f219 := Tryd.func100.trans (congrArg some (by kernel_rfl))
  f224 := Tryd.func114.trans (congrArg some (by kernel_rfl))
  f225 := Tryd.func113.trans (congrArg some (by kernel_rfl))
  f266 := Tryd.func111.trans (congrArg some (by kernel_rfl))
  f267 := Tryd.func115.trans (congrArg some (by kernel_rfl))
  f314 := Tryd.func125.trans (congrArg some (by kernel_rfl))
  t3 := Tryd.underlying3
  a3 := Tryd.isAgg3
  z3 := Tryd.sizeOf3
  v3 := Tryd.zeroValue3
  t4 := Tryd.underlying4
  a4 := Tryd.isAgg4
  z4 := Tryd.sizeOf4
  v4 := Tryd.zeroValue4
  t5 := Tryd.underlying5
  a5 := Tryd.isAgg5
  z5 := Tryd.sizeOf5
  v5 := Tryd.zeroValue5
  t9 := Tryd.underlying9
  a9 := Tryd.isAgg9
  z9 := Tryd.sizeOf9
  v9 := Tryd.zeroValue9
  t46 := Tryd.underlying104
  a46 := Tryd.isAgg104
  z46 := Tryd.sizeOf104
  v46 := Tryd.zeroValue104
  t51 := Tryd.underlying140
  a51 := Tryd.isAgg140
  z51 := Tryd.sizeOf140
  v51 := Tryd.zeroValue140
  t146 := Tryd.underlying141
  a146 := Tryd.isAgg141
  z146 := Tryd.sizeOf141
  v146 := Tryd.zeroValue141
  g1 := by kernel_rfl }
open Go.RowKit Go.Lib in
theorem Tryd.strings_Index_one (s : ByteArray) (c : UInt8) (w : World) :
    Calls Tryd.prog 118 #[.string s, .string ⟨#[c]⟩] w fun e w' => e = .returned (.int .i64 (Lib.indexByte s.data.toList c)) ∧ w' = w := Any.strings_Index_one Tryd.lays143 s c w
open Go.RowKit Go.Lib in
theorem Tryd.strings_Index (s sub : ByteArray) (m : Int) (w : World) (hs : s.size < 4294967281) (hm : w.cell? ⟨0, 0, none⟩ = some (.int .i64 m)) :
    Calls Tryd.prog 118 #[.string s, .string sub] w fun e w' => e = .returned (.int .i64 (Lib.index s.data.toList sub.data.toList)) ∧ w' = w := Any.strings_Index Tryd.lays143 s sub m w hs hm
def Tryd.lays138_ren : Go.Shelf.Ren := ⟨fun | 138 => 117 | 195 => 126 | 218 => 127 | 143 => 118 | 219 => 100 | 217 => 95 | 225 => 113 | 224 => 114 | 267 => 115 | 266 => 111 | 314 => 125 | n => n, fun | 9 => 9 | 3 => 3 | 4 => 4 | 5 => 5 | 0 => 0 | 46 => 104 | 146 => 141 | 51 => 140 | n => n, fun | 1 => 0 | n => n⟩
theorem Tryd.lays138 : Go.Proofs.Lays.n138 Tryd.prog Tryd.lays138_ren := {
  mixed := by kernel_rfl
  f138 := Tryd.func117.trans (congrArg some (by kernel_rfl))
  f143 := Tryd.func118.trans (congrArg some (by kernel_rfl))
  f195 := Tryd.func126.trans (congrArg some (by kernel_rfl))
  f217 := Tryd.func95.trans (congrArg some (by kernel_rfl))
  f218 := Tryd.func127.trans (congrArg some (by kernel_rfl))
  f219 := Tryd.func100.trans (congrArg some (by kernel_rfl))
  f224 := Tryd.func114.trans (congrArg some (by kernel_rfl))
  f225 := Tryd.func113.trans (congrArg some (by kernel_rfl))
  f266 := Tryd.func111.trans (congrArg some (by kernel_rfl))
  f267 := Tryd.func115.trans (congrArg some (by kernel_rfl))
  f314 := Tryd.func125.trans (congrArg some (by kernel_rfl))
  t0 := Tryd.underlying0
  a0 := Tryd.isAgg0
  z0 := Tryd.sizeOf0
  v0 := Tryd.zeroValue0
  t3 := Tryd.underlying3
  a3 := Tryd.isAgg3
  z3 := Tryd.sizeOf3
  v3 := Tryd.zeroValue3
  t4 := Tryd.underlying4
  a4 := Tryd.isAgg4
  z4 := Tryd.sizeOf4
  v4 := Tryd.zeroValue4
  t5 := Tryd.underlying5
  a5 := Tryd.isAgg5
  z5 := Tryd.sizeOf5
  v5 := Tryd.zeroValue5
  t9 := Tryd.underlying9
  a9 := Tryd.isAgg9
  z9 := Tryd.sizeOf9
  v9 := Tryd.zeroValue9
  t46 := Tryd.underlying104
  a46 := Tryd.isAgg104
  z46 := Tryd.sizeOf104
  v46 := Tryd.zeroValue104
  t51 := Tryd.underlying140
  a51 := Tryd.isAgg140
  z51 := Tryd.sizeOf140
  v51 := Tryd.zeroValue140
  t146 := Tryd.underlying141
  a146 := Tryd.isAgg141
  z146 := Tryd.sizeOf141
  v146 := Tryd.zeroValue141
  g1 := by kernel_rfl }
open Go.RowKit Go.Lib in
theorem Tryd.strings_Count_one (s : ByteArray) (c : UInt8) (w : World) :
    Calls Tryd.prog 117 #[.string s, .string ⟨#[c]⟩] w fun e w' => e = .returned (.int .i64 (Lib.countByte s.data.toList c)) ∧ w' = w := Any.strings_Count_one Tryd.lays138 s c w
open Go.RowKit Go.Lib in
theorem Tryd.strings_Count (s sub : ByteArray) (m : Int) (w : World) (hs : s.size < 4294967281) (hm : w.cell? ⟨0, 0, none⟩ = some (.int .i64 m)) (h2 : 2 ≤ sub.size) :
    Calls Tryd.prog 117 #[.string s, .string sub] w fun e w' => e = .returned (.int .i64 (Lib.countB s sub)) ∧ w' = w := Any.strings_Count Tryd.lays138 s sub m w hs hm h2
def Tryd.lays149_ren : Go.Shelf.Ren := ⟨fun | 149 => 65 | 222 => 93 | n => n, fun | 9 => 9 | 5 => 5 | 3 => 3 | 4 => 4 | n => n, fun | n => n⟩
theorem Tryd.lays149 : Go.Proofs.Lays.n149 Tryd.prog Tryd.lays149_ren := {
  mixed := by kernel_rfl
  f149 := Tryd.func65.trans (congrArg some (by kernel_rfl))
  f222 := Tryd.func93.trans (congrArg some (by kernel_rfl))
  t3 := Tryd.underlying3
  a3 := Tryd.isAgg3
  z3 := Tryd.sizeOf3
  v3 := Tryd.zeroValue3
  t4 := Tryd.underlying4
  a4 := Tryd.isAgg4
  z4 := Tryd.sizeOf4
  v4 := Tryd.zeroValue4
  t5 := Tryd.underlying5
  a5 := Tryd.isAgg5
  z5 := Tryd.sizeOf5
  v5 := Tryd.zeroValue5
  t9 := Tryd.underlying9
  a9 := Tryd.isAgg9
  z9 := Tryd.sizeOf9
  v9 := Tryd.zeroValue9 }
open Go.RowKit Go.Lib in
theorem Tryd.strings_LastIndexByte (s : ByteArray) (c : Int) (hs : s.size < 4611686018427387904) (w : World) :
    Calls Tryd.prog 65 #[.string s, .int .u8 c] w fun e w' => e = .returned (.int .i64 (Lib.lastIndexByte s c)) ∧ w' = w := Any.strings_LastIndexByte Tryd.lays149 s c hs w
def Tryd.lays206_ren : Go.Shelf.Ren := ⟨fun | 206 => 98 | n => n, fun | 9 => 9 | 4 => 4 | 3 => 3 | n => n, fun | n => n⟩
theorem Tryd.lays206 : Go.Proofs.Lays.n206 Tryd.prog Tryd.lays206_ren := {
  mixed := by kernel_rfl
  f206 := Tryd.func98.trans (congrArg some (by kernel_rfl))
  t3 := Tryd.underlying3
  a3 := Tryd.isAgg3
  z3 := Tryd.sizeOf3
  v3 := Tryd.zeroValue3
  t4 := Tryd.underlying4
  a4 := Tryd.isAgg4
  z4 := Tryd.sizeOf4
  v4 := Tryd.zeroValue4
  t9 := Tryd.underlying9
  a9 := Tryd.isAgg9
  z9 := Tryd.sizeOf9
  v9 := Tryd.zeroValue9 }
open Go.RowKit Go.Lib in
theorem Tryd.stringslite_HasPrefix (s p : ByteArray) (w : World) :
    Calls Tryd.prog 98 #[.string s, .string p] w fun e w' => e = .returned (.bool (Lib.hasPrefix s.data.toList p.data.toList)) ∧ w' = w := Any.stringslite_HasPrefix Tryd.lays206 s p w
def Tryd.lays99_ren : Go.Shelf.Ren := ⟨fun | 99 => 79 | 206 => 98 | n => n, fun | 9 => 9 | 4 => 4 | 3 => 3 | n => n, fun | n => n⟩
theorem Tryd.lays99 : Go.Proofs.Lays.n99 Tryd.prog Tryd.lays99_ren := {
  mixed := by kernel_rfl
  f99 := Tryd.func79.trans (congrArg some (by kernel_rfl))
  f206 := Tryd.func98.trans (congrArg some (by kernel_rfl))
  t3 := Tryd.underlying3
  a3 := Tryd.isAgg3
  z3 := Tryd.sizeOf3
  v3 := Tryd.zeroValue3
  t4 := Tryd.underlying4
  a4 := Tryd.isAgg4
  z4 := Tryd.sizeOf4
  v4 := Tryd.zeroValue4
  t9 := Tryd.underlying9
  a9 := Tryd.isAgg9
  z9 := Tryd.sizeOf9
  v9 := Tryd.zeroValue9 }
open Go.RowKit Go.Lib in
theorem Tryd.strings_HasPrefix (s p : ByteArray) (w : World) :
    Calls Tryd.prog 79 #[.string s, .string p] w fun e w' => e = .returned (.bool (Lib.hasPrefix s.data.toList p.data.toList)) ∧ w' = w := Any.strings_HasPrefix Tryd.lays99 s p w
end Go.Proofs
end

/- Plain words on paths: the pieces of a text, what is wrong with one, and laws on them. No program in sight. -/
section
namespace Go.Proofs.YthpecpkncifngaaDoor.Nm
def pc : Nat → List UInt8 → List UInt8 × List (Nat × List UInt8)
  | _, [] => ([], [])
  | pos, c :: l => if c = 47 then ([], (pos + 1, (pc (pos + 1) l).1) :: (pc (pos + 1) l).2) else (c :: (pc (pos + 1) l).1, (pc (pos + 1) l).2)
def pieces (pos : Nat) (l : List UInt8) : List (Nat × List UInt8) := (pos, (pc pos l).1) :: (pc pos l).2
def bad (l : List UInt8) : Option (Nat × Nat) :=
  if l = [] then some (0, 80) else if 120 < l.length then some (0, 2) else if l = [46] ∨ l = [46, 46] then some (0, 81)
  else if 0 ≤ Lib.indexByte l 0 then some ((Lib.indexByte l 0).toNat, 82) else none
def firstBad : List (Nat × List UInt8) → Option (Nat × Nat)
  | [] => none
  | x :: r => match bad x.2 with
    | some (n, e) => some (x.1 + n, e)
    | none => firstBad r
def check (l : List UInt8) : Nat × Nat := if 400 < l.length then (0, 2) else (firstBad (pieces 0 l)).getD (0, 0)
theorem pc_none : ∀ (l : List UInt8) (pos : Nat), Lib.indexByte l 47 = -1 → pc pos l = (l, [])
  | [], _, _ => rfl
  | c :: l, pos, h => by
    simp only [Lib.indexByte] at h
    by_cases hc : c = 47
    · subst hc; simp at h
    · have h1 : (c == 47) = false := by simpa using hc
      rw [h1] at h
      have h2 : Lib.indexByte l 47 = -1 := by
        by_cases h3 : Lib.indexByte l 47 = -1
        · exact h3
        · have h4 : (Lib.indexByte l 47 == -1) = false := by simpa using h3
          have := Lib.indexByte_ge l 47
          simp only [h4, Bool.false_eq_true, if_false] at h
          omega
      simp only [pc, hc, if_false, pc_none l (pos + 1) h2]
theorem pc_some : ∀ (l : List UInt8) (pos n : Nat), Lib.indexByte l 47 = n → n < l.length ∧ pc pos l = (l.take n, pieces (pos + n + 1) (l.drop (n + 1)))
  | [], _, n, h => by simp [Lib.indexByte] at h
  | c :: l, pos, n, h => by
    simp only [Lib.indexByte] at h
    by_cases hc : c = 47
    · subst hc
      simp at h
      obtain rfl : n = 0 := by omega
      exact ⟨by simp, by simp [pc, pieces]⟩
    · have h1 : (c == 47) = false := by simpa using hc
      rw [h1] at h
      by_cases h3 : Lib.indexByte l 47 = -1
      · simp [h3] at h
      · have h4 : (Lib.indexByte l 47 == -1) = false := by simpa using h3
        have := Lib.indexByte_ge l 47
        simp only [h4, Bool.false_eq_true, if_false] at h
        obtain ⟨m, rfl⟩ : ∃ m, n = m + 1 := ⟨n - 1, by omega⟩
        have h5 : Lib.indexByte l 47 = (m : Int) := by omega
        obtain ⟨h6, h7⟩ := pc_some l (pos + 1) m h5
        refine ⟨by simp; omega, ?_⟩
        simp only [pc, hc, if_false, h7, List.take_succ_cons, List.drop_succ_cons]
        rw [show pos + 1 + m + 1 = pos + (m + 1) + 1 from by omega]
theorem pieces_none (l : List UInt8) (pos : Nat) (h : Lib.indexByte l 47 = -1) : pieces pos l = [(pos, l)] := by
  simp [pieces, pc_none l pos h]
theorem pieces_some (l : List UInt8) (pos n : Nat) (h : Lib.indexByte l 47 = n) : pieces pos l = (pos, l.take n) :: pieces (pos + n + 1) (l.drop (n + 1)) := by
  have := (pc_some l pos n h).2
  simp only [pieces, this]
theorem pc_bound : ∀ (l : List UInt8) (pos : Nat), (pc pos l).1.length ≤ l.length ∧ ∀ x ∈ (pc pos l).2, x.1 + x.2.length ≤ pos + l.length
  | [], _ => ⟨by simp [pc], by simp [pc]⟩
  | c :: l, pos => by
    obtain ⟨h1, h2⟩ := pc_bound l (pos + 1)
    by_cases hc : c = 47
    · simp only [pc, hc, if_true]
      refine ⟨by simp, fun x hx => ?_⟩
      simp only [List.mem_cons] at hx
      rcases hx with rfl | hx
      · simp only [List.length_cons]; omega
      · have := h2 x hx; simp only [List.length_cons]; omega
    · simp only [pc, hc, if_false]
      refine ⟨by simp only [List.length_cons]; omega, fun x hx => ?_⟩
      have := h2 x hx; simp only [List.length_cons]; omega
theorem pieces_bound (l : List UInt8) (pos : Nat) : ∀ x ∈ pieces pos l, x.1 + x.2.length ≤ pos + l.length := by
  intro x hx
  obtain ⟨h1, h2⟩ := pc_bound l pos
  simp only [pieces, List.mem_cons] at hx
  rcases hx with rfl | hx
  · simp only; omega
  · exact h2 x hx
theorem pc_length : ∀ (l : List UInt8) (pos : Nat), (pc pos l).2.length ≤ l.length
  | [], _ => by simp [pc]
  | c :: l, pos => by
    have := pc_length l (pos + 1)
    by_cases hc : c = 47
    · simp only [pc, hc, if_true, List.length_cons]; omega
    · simp only [pc, hc, if_false, List.length_cons]; omega
theorem pieces_length (l : List UInt8) (pos : Nat) : (pieces pos l).length ≤ l.length + 1 := by
  have := pc_length l pos
  simp only [pieces, List.length_cons]; omega
theorem bad_some {l : List UInt8} {m e : Nat} (h : bad l = some (m, e)) : (e = 82 ∧ m < l.length) ∨ (e ≠ 82 ∧ m = 0) := by
  unfold bad at h
  split at h
  · right; simp at h; omega
  · split at h
    · right; simp at h; omega
    · split at h
      · right; simp at h; omega
      · split at h
        · rename_i h1
          left
          simp only [Option.some.injEq, Prod.mk.injEq] at h
          obtain ⟨rfl, rfl⟩ := h
          refine ⟨rfl, ?_⟩
          have h2 := (Lib.indexByte_some (l := l) (c := 0) (o := (Lib.indexByte l 0).toNat) (by omega)).1
          exact (List.getElem?_eq_some_iff.1 h2).1
        · simp at h
end Go.Proofs.YthpecpkncifngaaDoor.Nm
end

/- The contract of name.Each: the iterator over the pieces of a text, for every loop body that keeps the text's own box. -/
section
namespace Go.Proofs.YthpecpkncifngaaDoor
open Go.RowKit Go.Shelf
attribute [local go_sem] Oper.semAt_some
theorem cell_of_box_l {w : World} {b : Nat} {v : Value} {t : TypeId} (h : w.heap[b]? = some (.cells #[v] t (0, 0))) : w.cell? ⟨b, 0, none⟩ = some v ∧ w.frozen? ⟨b, 0, none⟩ = false :=
  ⟨by simp [World.cell?, h], by simp [World.frozen?, h]⟩
theorem cell_new_l (W : World) (v : Value) (t : TypeId) : (W.alloc (.cells #[v] t)).cell? ⟨W.heap.size, 0, none⟩ = some v ∧ (W.alloc (.cells #[v] t)).frozen? ⟨W.heap.size, 0, none⟩ = false :=
  cell_of_box_l (World.alloc_heap_new W _)
theorem cell_alloc_l {W : World} {a : Addr} {v : Value} (o : Obj) (h : W.cell? a = some v) : (W.alloc o).cell? a = some v := cell_kept h (World.grownBy_alloc W o none) (fun r e => by cases e)
theorem frozen_alloc_l {W : World} {a : Addr} {v : Value} (o : Obj) (h : W.cell? a = some v) (hf : W.frozen? a = false) : (W.alloc o).frozen? a = false := (frozen_kept h (World.grownBy_alloc W o none) (fun r e => by cases e)).trans hf
abbrev pEnc (x : Nat × ByteArray) : Array Value := #[.int .i64 (x.1 : Int), .string x.2]
def bytesOfL (l : List UInt8) : ByteArray := ⟨l.toArray⟩
def piecesB (at_ : Nat) (l : List UInt8) : List (Nat × ByteArray) := (Nm.pieces at_ l).map fun x => (x.1, bytesOfL x.2)
theorem piecesB_none (p : ByteArray) (a : Nat) (h : Lib.indexByte (p.data.toList.drop a) 47 = -1) : piecesB a (p.data.toList.drop a) = [(a, p.extract a p.size)] := by
  unfold piecesB
  rw [Nm.pieces_none _ _ h, Lib.extract_from]
  rfl
theorem piecesB_some (p : ByteArray) (a n : Nat) (h : Lib.indexByte (p.data.toList.drop a) 47 = n) : piecesB a (p.data.toList.drop a) = (a, p.extract a (a + n)) :: piecesB (a + n + 1) (p.data.toList.drop (a + n + 1)) := by
  unfold piecesB
  rw [Nm.pieces_some _ _ _ h, Lib.extract_eq, List.drop_drop, Nat.add_sub_cancel_left, show a + (n + 1) = a + n + 1 from by omega]
  rfl
theorem piecesB_ne (a : Nat) (l : List UInt8) : piecesB a l ≠ [] := by simp [piecesB, Nm.pieces]
theorem found_lt (p : ByteArray) (a n : Nat) (h : Lib.indexByte (p.data.toList.drop a) 47 = n) : a + n + 1 ≤ p.size := by
  have := (Nm.pc_some _ 0 n h).1
  rw [List.length_drop, Array.length_toList] at this
  have e : p.data.size = p.size := rfl
  omega
theorem slice_run (p : ByteArray) (a m : Nat) (h : a + m ≤ p.size) (wx : World) :
    (Instr.slice 9 (.string p) (some (.int .i64 a)) (some (.int .i64 ((a : Int) + (m : Int)))) none).run Tryd.prog wx = .ok (.string (p.extract a (a + m))) wx := by
  rw [run_slice_string (P := Tryd.prog) (w := wx) 9 p .i64 .i64 (a : Int) ((a : Int) + (m : Int)) Tryd.underlying9 (by omega) (by omega) (by omega)]
  rw [Int.toNat_natCast, show ((a : Int) + (m : Int)).toNat = a + m from by omega]
theorem ibyte (s : ByteArray) (c : UInt8) (w : World) :
    Calls Tryd.prog 70 #[.string s, .int .u8 (c.toNat : Int)] w fun e w' => e = .returned (.int .i64 (Lib.indexByte s.data.toList c)) ∧ w = w' := by
  refine (Tryd.strings_IndexByte s c.toNat w).mono ?_
  rintro e w' ⟨rfl, rfl⟩
  exact ⟨by simp, rfl⟩
set_option maxRecDepth 100000 in
set_option maxHeartbeats 2000000 in
theorem each1_in (n : Nat) (hn : 1 ≤ n) (l Bn : Nat) (p : ByteArray) (hp : p.size ≤ 140737488355328) (J Jx : List (Nat × ByteArray) → World → Prop)
    (hY : ∀ pre x W, J pre W → pre.length < (piecesB 0 p.data.toList).length → YieldAt Fence.wide (n - 1) Tryd.prog l (pEnc x) W fun e W' =>
      (e = .returned (.bool true) ∧ J (pre ++ [x]) W' ∧ W'.cell? ⟨Bn, 0, none⟩ = W.cell? ⟨Bn, 0, none⟩) ∨ (e = .returned (.bool false) ∧ Jx (pre ++ [x]) W'))
    (W : World) (hBn : W.cell? ⟨Bn, 0, none⟩ = some (.string p)) (h0 : J [] W) :
    CallsIn Fence.wide n Tryd.prog 97 #[.func (.yield l) #[] #[], .pointer (some ⟨Bn, 0, none⟩)] W fun e W' => (∃ v, e = .returned v) ∧
      ((∃ ys, ys = piecesB 0 p.data.toList ∧ J ys W') ∨ (∃ pre, pre <+: piecesB 0 p.data.toList ∧ Jx pre W')) := by
  refine callsIn_of_wp Tryd.func97 rfl trivial ?_ rfl
  simp only [Tryd.ntmps97, List.size_toArray, List.length_cons, List.length_nil, Nat.reduceAdd, Nat.reduceSub, Array.replicate_succ, Array.replicate_zero, List.push_toArray, List.append_toArray, List.nil_append, List.cons_append]
  gi_wp2
  gi_loopw [3] (fun v wr => ∃ (pre : List (Nat × ByteArray)) (a : Nat), v = .int .i64 a ∧ a ≤ p.size ∧ Hid (piecesB 0 p.data.toList = pre ++ piecesB a (p.data.toList.drop a)) ∧ wr.cell? ⟨Bn, 0, none⟩ = some (.string p) ∧ J pre wr)
    (fun v _ => p.size + 1 - (intOf v).toNat)
  case atStart => exact ⟨[], 0, rfl, Nat.zero_le _, Lib.hid (by simp), hBn, h0⟩
  case round =>
    obtain ⟨pre, a, rfl, ha, hpre, hc, hJ⟩ := hrel
    have hlen : pre.length < (piecesB 0 p.data.toList).length := by
      rw [hpre.out, List.length_append]
      have := List.length_pos_iff.2 (piecesB_ne a (p.data.toList.drop a))
      omega
    have hcz : a ≤ p.size := ha
    by_cases hi : Lib.indexByte (p.data.toList.drop a) 47 = -1
    · have hpn := piecesB_none p a hi
      obtain ⟨fn, tmps, assign, body, hy, hR⟩ := hY pre (a, p.extract a p.size) wr hJ hlen
      have HR := Lib.hid hR
      clear hR
      have Hpn := Lib.hid hpn
      have Hi := Lib.hid hi
      clear hpn hi
      dsimp only [pEnc] at hy
      gi_wp2_with fail
      refine ⟨trivial, ?_⟩
      refine (callsIn_wide.2 (ibyte _ 47 _)).mono ?_
      rw [Lib.extract_to_end, Hi.out]
      rintro e w' ⟨rfl, rfl⟩
      gi_wp2_with fail
      refine HR.out.mono ?_
      rintro e W' (⟨rfl, hJ', hk⟩ | ⟨rfl, hJx'⟩)
      · gi_wp2_with fail
        refine bodyPost_ret (results_none rfl _ _ _) rfl ?_
        exact ⟨⟨_, rfl⟩, .inl ⟨_, rfl, by rw [hpre.out, Hpn.out]; exact hJ'⟩⟩
      · gi_wp2_with fail
        refine bodyPost_ret (results_none rfl _ _ _) rfl ?_
        exact ⟨⟨_, rfl⟩, .inr ⟨_, by rw [hpre.out, Hpn.out]; exact List.prefix_refl _, hJx'⟩⟩
    · obtain ⟨m, hm⟩ : ∃ m : Nat, Lib.indexByte (p.data.toList.drop a) 47 = m := ⟨(Lib.indexByte (p.data.toList.drop a) 47).toNat, by have := Lib.indexByte_ge (p.data.toList.drop a) 47; omega⟩
      have hpn := piecesB_some p a m hm
      have hml := found_lt p a m hm
      obtain ⟨fn, tmps, assign, body, hy, hR⟩ := hY pre (a, p.extract a (a + m)) wr hJ hlen
      have HR := Lib.hid hR
      have Hpn := Lib.hid hpn
      have Hm := Lib.hid hm
      clear hpn hm hi hR
      dsimp only [pEnc] at hy
      have hsl := slice_run p a m (by omega)
      gi_wp2_with fail
      refine ⟨trivial, ?_⟩
      refine (callsIn_wide.2 (ibyte _ 47 _)).mono ?_
      rw [Lib.extract_to_end, Hm.out]
      rintro e w' ⟨rfl, rfl⟩
      gi_wp2_with fail
      refine HR.out.mono ?_
      rintro e W' (⟨rfl, hJ', hk⟩ | ⟨rfl, hJx'⟩)
      · gi_wp2_with fail
        go_roundw
        case rel => exact ⟨pre ++ [(a, p.extract a (a + m))], a + m + 1, by go_num, by omega, Lib.hid (by rw [hpre.out, Hpn.out]; simp), hk.trans hc, hJ'⟩
        case measure => simp [intOf]; omega
      · gi_wp2_with fail
        refine bodyPost_ret (results_none rfl _ _ _) rfl ?_
        exact ⟨⟨_, rfl⟩, .inr ⟨_, by rw [hpre.out, Hpn.out]; exact ⟨_, List.append_assoc _ _ _⟩, hJx'⟩⟩
end Go.Proofs.YthpecpkncifngaaDoor
end

/- The contract of name.Check: place and error of the first thing that is wrong with a path. -/
section
namespace Go.Proofs.YthpecpkncifngaaDoor
open Go.RowKit Go.Shelf
attribute [local go_sem] Oper.semAt_some
def Box (Bn : Nat) (A B : World) : Prop := B.cell? ⟨Bn, 0, none⟩ = A.cell? ⟨Bn, 0, none⟩
theorem each_stops (n : Nat) (hn : 1 ≤ n) (Bn : Nat) (p : ByteArray) (hp : p.size ≤ 140737488355328) (w : World) (hb : Bn < w.heap.size) (hc : w.cell? ⟨Bn, 0, none⟩ = some (.string p)) :
    SeqStopsK Fence.wide n Tryd.prog 97 #[.pointer (some ⟨Bn, 0, none⟩)] pEnc (Box Bn) (fun xs => xs = piecesB 0 p.data.toList) (fun pre => pre <+: piecesB 0 p.data.toList) (piecesB 0 p.data.toList).length w :=
  fun l J Jx W hW _ _ hY h0 => each1_in n hn l Bn p hp J Jx hY W ((hW.cell (p := ⟨Bn, 0, none⟩) hb).trans hc) h0
theorem box_t {Bn : Nat} {A B C : World} (h : Box Bn A B) (k : Box Bn B C) : Box Bn A C := Eq.trans k h
theorem box_b {Bn : Nat} {w : World} (hb : Bn < w.heap.size) (W : World) (l : Nat) (o o' : Obj) (hl : w.heap.size ≤ l) (h : W.heap[l]? = some o) (_ : o.isCells = false) (_ : o.isWalk = false) : Box Bn W (W.putObj l o') :=
  (belowK_b (w := w) (Nat.le_refl _) W l o o' hl h ‹_› ‹_›).cell (p := ⟨Bn, 0, none⟩) hb
theorem each_any (p : ByteArray) (w : World) :
    Calls Tryd.prog 73 #[.string p] w fun e w' => e = .returned (.func (.func 97) #[] #[.pointer (some ⟨w.heap.size, 0, none⟩)]) ∧ w.alloc (.cells #[.string p] 9) = w' := by
  go_enter Tryd.func73, Tryd.ntmps73
  go_wp2
  go_ret
  exact ⟨rfl, rfl⟩
def fbW : List (Nat × ByteArray) → Option (Int × Int)
  | [] => none
  | x :: r => match Nm.bad x.2.data.toList with
    | some (m, e) => some (if e = 82 then wrap64 ((x.1 : Int) + (m : Int)) else (x.1 : Int), (e : Int))
    | none => fbW r
theorem fbW_snoc_none {pre : List (Nat × ByteArray)} {x : Nat × ByteArray} (h : fbW pre = none) (hx : Nm.bad x.2.data.toList = none) : fbW (pre ++ [x]) = none := by
  induction pre with
  | nil => simp [fbW, hx]
  | cons y r ih =>
    simp only [fbW] at h
    cases hb : Nm.bad y.2.data.toList with
    | some z => rw [hb] at h; simp at h
    | none => rw [hb] at h; simp only [List.cons_append, fbW, hb]; exact ih h
theorem fbW_snoc_some {pre : List (Nat × ByteArray)} {x : Nat × ByteArray} {m e : Nat} (h : fbW pre = none) (hx : Nm.bad x.2.data.toList = some (m, e)) : fbW (pre ++ [x]) = some (if e = 82 then wrap64 ((x.1 : Int) + (m : Int)) else (x.1 : Int), (e : Int)) := by
  induction pre with
  | nil => simp [fbW, hx]
  | cons y r ih =>
    simp only [fbW] at h
    cases hb : Nm.bad y.2.data.toList with
    | some z => rw [hb] at h; simp at h
    | none => rw [hb] at h; simp only [List.cons_append, fbW, hb]; exact ih h
theorem fbW_snoc_nul {pre : List (Nat × ByteArray)} {x : Nat × ByteArray} {m : Nat} (h : fbW pre = none) (hx : Nm.bad x.2.data.toList = some (m, 82)) : fbW (pre ++ [x]) = some (wrap64 ((x.1 : Int) + (m : Int)), 82) := by
  have := fbW_snoc_some h hx
  rw [if_pos rfl] at this
  exact this
theorem fbW_prefix {pre l : List (Nat × ByteArray)} {y : Int × Int} (h : fbW pre = some y) (hp : pre <+: l) : fbW l = some y := by
  obtain ⟨r, rfl⟩ := hp
  induction pre with
  | nil => simp [fbW] at h
  | cons x s ih =>
    simp only [fbW] at h
    cases hb : Nm.bad x.2.data.toList with
    | some z => rw [hb] at h; simp only [List.cons_append, fbW, hb]; exact h
    | none => rw [hb] at h; simp only [List.cons_append, fbW, hb]; exact ih h
theorem bad_cases (l : List UInt8) :
    (l.isEmpty = true ∧ Nm.bad l = some (0, 80)) ∨
    (l.isEmpty = false ∧ decide (120 < (l.length : Int)) = true ∧ Nm.bad l = some (0, 2)) ∨
    (l.isEmpty = false ∧ decide (120 < (l.length : Int)) = false ∧ (l == [46]) = true ∧ Nm.bad l = some (0, 81)) ∨
    (l.isEmpty = false ∧ decide (120 < (l.length : Int)) = false ∧ (l == [46]) = false ∧ (l == [46, 46]) = true ∧ Nm.bad l = some (0, 81)) ∨
    (l.isEmpty = false ∧ decide (120 < (l.length : Int)) = false ∧ (l == [46]) = false ∧ (l == [46, 46]) = false ∧ (∃ m : Nat, Lib.indexByte l 0 = m ∧ Nm.bad l = some (m, 82))) ∨
    (l.isEmpty = false ∧ decide (120 < (l.length : Int)) = false ∧ (l == [46]) = false ∧ (l == [46, 46]) = false ∧ Lib.indexByte l 0 = -1 ∧ Nm.bad l = none) := by
  unfold Nm.bad
  by_cases h1 : l = []
  · left; simp [h1]
  · have e1 : l.isEmpty = false := by simpa using h1
    right
    rw [if_neg h1]
    by_cases h2 : 120 < l.length
    · left; rw [if_pos h2]; exact ⟨e1, by simp; omega, rfl⟩
    · right
      have e2 : decide (120 < (l.length : Int)) = false := by simp; omega
      rw [if_neg h2]
      by_cases h3 : l = [46]
      · left; subst h3; exact ⟨rfl, rfl, rfl, by simp⟩
      · right
        have e3 : (l == [46]) = false := by simpa using h3
        by_cases h4 : l = [46, 46]
        · left; subst h4; exact ⟨rfl, rfl, rfl, rfl, by simp⟩
        · right
          have e4 : (l == [46, 46]) = false := by simpa using h4
          rw [if_neg (by simp [h3, h4])]
          by_cases h5 : Lib.indexByte l 0 = -1
          · right; rw [h5]; exact ⟨e1, e2, e3, e4, rfl, by simp⟩
          · left
            have := Lib.indexByte_ge l 0
            refine ⟨e1, e2, e3, e4, (Lib.indexByte l 0).toNat, by omega, ?_⟩
            rw [if_pos (by omega)]
theorem two_set (W : World) (b : Nat) {v1 v2 u1 u2 : Value} (h1 : W.cell? ⟨b, 0, none⟩ = some u1) (h2 : W.cell? ⟨b + 1, 0, none⟩ = some u2) :
    ((W.setCell ⟨b, 0, none⟩ v1).setCell ⟨b + 1, 0, none⟩ v2).cell? ⟨b, 0, none⟩ = some v1 ∧ ((W.setCell ⟨b, 0, none⟩ v1).setCell ⟨b + 1, 0, none⟩ v2).cell? ⟨b + 1, 0, none⟩ = some v2 := by
  constructor
  · rw [World.cell?_setCell_other _ _ _ _ (by intro e; injection e with e; omega)]
    exact World.cell?_setCell_same _ _ _ h1
  · refine World.cell?_setCell_same' _ _ _ ?_
    rw [World.cell?_setCell_other _ _ _ _ (by intro e; injection e with e; omega), h2]
    rfl
theorem keeps_two (W : World) (b : Nat) (v1 v2 : Value) : KeepsOthers W ((W.setCell ⟨b, 0, none⟩ v1).setCell ⟨b + 1, 0, none⟩ v2) := (KeepsOthers.setCell W _ _).trans (KeepsOthers.setCell _ _ _)
theorem below_two {w : World} (W : World) (v1 v2 : Value) (hB : Below w.heap.size w W) : Below w.heap.size w ((W.setCell ⟨w.heap.size, 0, none⟩ v1).setCell ⟨w.heap.size + 1, 0, none⟩ v2) :=
  (hB.setCell (p := ⟨w.heap.size, 0, none⟩) (Nat.le_refl _) _).setCell (p := ⟨w.heap.size + 1, 0, none⟩) (by simp) _
set_option maxRecDepth 100000 in
set_option maxHeartbeats 2000000 in
theorem check_walk (p : ByteArray) (hp : p.size ≤ 400) (w : World) :
    Calls Tryd.prog 40 #[.string p] w fun e w' => e = .returned (.tuple #[.int .i64 ((fbW (piecesB 0 p.data.toList)).getD (0, 0)).1, .int .i64 ((fbW (piecesB 0 p.data.toList)).getD (0, 0)).2]) ∧ Below w.heap.size w w' := by
  refine (callsIn_wide (n := 3)).1 ?_
  refine callsIn_of_wp_marks Tryd.func40 rfl trivial ?_ rfl
  simp only [Tryd.ntmps40, List.size_toArray, List.length_cons, List.length_nil, Nat.reduceAdd, Nat.reduceSub, Array.replicate_succ, Array.replicate_zero, List.push_toArray, List.append_toArray, List.nil_append, List.cons_append]
  gi_wp2_with (refine ⟨trivial, ?_⟩; gi_at_call 73; refine (callsIn_wide.2 (each_any _ _)).mono ?_; rintro e w' ⟨rfl, rfl⟩)
  have c0 := cell_new_l w (.int .i64 0) 3
  have c1 := cell_new_l (w.alloc (.cells #[.int .i64 0] 3)) (.int .i64 0) 28
  have c2 := cell_new_l ((w.alloc (.cells #[.int .i64 0] 3)).alloc (.cells #[.int .i64 0] 28)) (.string p) 9
  simp only [World.size_alloc] at c1 c2
  have hB0 : Below w.heap.size w (((w.alloc (.cells #[.int .i64 0] 3)).alloc (.cells #[.int .i64 0] 28)).alloc (.cells #[.string p] 9)) := (((Below.refl _ w).alloc (Nat.le_refl _) _).alloc (by simp) _).alloc (by simp; omega) _
  refine wpIn_rangeFunc_ownF rfl (by omega) (gf := 97) (lb := #[.pointer (some ⟨w.heap.size + 1 + 1, 0, none⟩)]) rfl trivial (enters_of Tryd.func97 (by kernel_rfl) rfl)
    (each_stops (3 - 1) (by omega) (w.heap.size + 1 + 1) p (by omega) _ (by simp) c2.1) box_t (box_b (by simp)) (Below.refl _ _) (fun _ => rfl)
    (fun pre W => (fbW pre = none ∧ W.cell? ⟨w.heap.size, 0, none⟩ = some (.int .i64 0) ∧ W.frozen? ⟨w.heap.size, 0, none⟩ = false ∧ W.cell? ⟨w.heap.size + 1, 0, none⟩ = some (.int .i64 0) ∧ W.frozen? ⟨w.heap.size + 1, 0, none⟩ = false) ∧ Below w.heap.size w W)
    (fun c pre W => (c = .ret ∧ ∃ y : Int × Int, fbW pre = some y ∧ W.cell? ⟨w.heap.size, 0, none⟩ = some (.int .i64 y.1) ∧ W.cell? ⟨w.heap.size + 1, 0, none⟩ = some (.int .i64 y.2)) ∧ Below w.heap.size w W)
    (OwnFrom.and (Own.from (fun s A B row hs hg hr => ⟨hs.1, cell_kept hs.2.1 hg hr, (frozen_kept hs.2.1 hg hr).trans hs.2.2.1, cell_kept hs.2.2.2.1 hg hr, (frozen_kept hs.2.2.2.1 hg hr).trans hs.2.2.2.2⟩) _) (ownFrom_below (Nat.le_refl _) (by simp; omega)))
    (fun c => OwnFrom.and (Own.from (fun s A B row hs hg hr => ⟨hs.1, hs.2.choose, hs.2.choose_spec.1, cell_kept hs.2.choose_spec.2.1 hg hr, cell_kept hs.2.choose_spec.2.2 hg hr⟩) _) (ownFrom_below (Nat.le_refl _) (by simp; omega)))
    ⟨⟨rfl, cell_alloc_l _ (cell_alloc_l _ c0.1), frozen_alloc_l _ (cell_alloc_l _ c0.1) (frozen_alloc_l _ c0.1 c0.2), cell_alloc_l _ c1.1, frozen_alloc_l _ c1.1 c1.2⟩, hB0⟩
    (fun x => { tmps := #[.string p, undef, .pointer (some ⟨w.heap.size, 0, none⟩), .pointer (some ⟨w.heap.size + 1, 0, none⟩), .int .i64 (x.1 : Int), .string x.2, undef, .string p, .int .i64 (p.size : Int), .bool (decide (400 < (p.size : Int))), .string p, .func (.func 97) #[] #[.pointer (some ⟨w.heap.size + 1 + 1, 0, none⟩)], .int .i64 (x.1 : Int), .string x.2, undef, undef, undef, undef, undef, undef, undef, undef, undef, undef, undef, undef, undef, undef, undef, undef, undef, undef, undef, undef, undef, undef, undef, undef], defers := [] }) ?assign ?body ?done ?stop
  case assign =>
    intro l x W K hK
    gi_wp2
    exact hK
  case body =>
    rintro l pre x W ⟨⟨hn, hc1, hf1, hc2, hf2⟩, hB⟩ _
    have Hn := Lib.hid hn
    clear hn
    have hN : 1 ≤ 3 - 1 - 1 := by decide
    have es : x.2.toList = x.2.data.toList := Lib.toList_data x.2
    have el : x.2.data.toList.length = x.2.size := by rw [Array.length_toList]; rfl
    rcases bad_cases x.2.data.toList with ⟨q1, hb⟩ | ⟨q1, q2, hb⟩ | ⟨q1, q2, q3, hb⟩ | ⟨q1, q2, q3, q4, hb⟩ | ⟨q1, q2, q3, q4, m, hm, hb⟩ | ⟨q1, q2, q3, q4, hm, hb⟩
    · as_aux_lemma =>
      have Hb := Lib.hid hb
      rw [← es] at q1
      clear hb es el
      gi_wp2
      exact ⟨keeps_two _ _ _ _, ⟨rfl, _, fbW_snoc_some Hn.out Hb.out, (two_set W w.heap.size hc1 hc2).1, (two_set W w.heap.size hc1 hc2).2⟩, below_two W _ _ hB⟩
    · as_aux_lemma =>
      have Hb := Lib.hid hb
      rw [el] at q2
      rw [← es] at q1
      clear hb es el
      gi_wp2
      exact ⟨keeps_two _ _ _ _, ⟨rfl, _, fbW_snoc_some Hn.out Hb.out, (two_set W w.heap.size hc1 hc2).1, (two_set W w.heap.size hc1 hc2).2⟩, below_two W _ _ hB⟩
    · as_aux_lemma =>
      have Hb := Lib.hid hb
      rw [el] at q2
      rw [← es] at q1 q3
      clear hb es el
      gi_wp2
      exact ⟨keeps_two _ _ _ _, ⟨rfl, _, fbW_snoc_some Hn.out Hb.out, (two_set W w.heap.size hc1 hc2).1, (two_set W w.heap.size hc1 hc2).2⟩, below_two W _ _ hB⟩
    · as_aux_lemma =>
      have Hb := Lib.hid hb
      rw [el] at q2
      rw [← es] at q1 q3 q4
      clear hb es el
      gi_wp2
      exact ⟨keeps_two _ _ _ _, ⟨rfl, _, fbW_snoc_some Hn.out Hb.out, (two_set W w.heap.size hc1 hc2).1, (two_set W w.heap.size hc1 hc2).2⟩, below_two W _ _ hB⟩
    · as_aux_lemma =>
      have Hb := Lib.hid hb
      have Hm := Lib.hid hm
      rw [el] at q2
      rw [← es] at q1 q3 q4
      clear hb es el hm
      gi_wp2_with fail
      refine ⟨trivial, ?_⟩
      refine (CallsIn.inRound l (callsIn_wide.2 (ibyte _ 0 _))).mono ?_
      rw [Hm.out]
      rintro e w' ⟨rfl, rfl⟩
      gi_wp2
      exact ⟨keeps_two _ _ _ _, ⟨rfl, _, fbW_snoc_nul Hn.out Hb.out, (two_set W w.heap.size hc1 hc2).1, (two_set W w.heap.size hc1 hc2).2⟩, below_two W _ _ hB⟩
    · as_aux_lemma =>
      have Hb := Lib.hid hb
      have Hm := Lib.hid hm
      rw [el] at q2
      rw [← es] at q1 q3 q4
      clear hb es el hm
      gi_wp2_with fail
      refine ⟨trivial, ?_⟩
      refine (CallsIn.inRound l (callsIn_wide.2 (ibyte _ 0 _))).mono ?_
      rw [Hm.out]
      rintro e w' ⟨rfl, rfl⟩
      gi_wp2
      exact ⟨KeepsOthers.refl _, rfl, ⟨fbW_snoc_none Hn.out Hb.out, hc1, hf1, hc2, hf2⟩, hB⟩
  case done =>
    rintro D ys W hD rfl ⟨⟨hn, hc1, hf1, hc2, hf2⟩, hB⟩ hK
    gi_wp2
    have hK' := (keeps_two W w.heap.size (.int .i64 0) (.int .i64 0)).same D _ hK rfl
    have h2 := two_set W w.heap.size (v1 := .int .i64 0) (v2 := .int .i64 0) hc1 hc2
    refine ⟨by simp, .inl ⟨_, _, rfl, run_takeDeferred hK', ?_⟩⟩
    have hc5 := cell_kept h2.1 (grownBy_putObj' _ D (.deferred none)) (fun r e => by cases e; exact ⟨_, hK', rfl⟩)
    have hc6 := cell_kept h2.2 (grownBy_putObj' _ D (.deferred none)) (fun r e => by cases e; exact ⟨_, hK', rfl⟩)
    refine ⟨.tuple #[.int .i64 0, .int .i64 0], ?_, by rw [hn]; rfl, (below_two W _ _ hB).trans (belowK_b (w := w) (Nat.le_refl _) _ D _ _ (by simp at hD; omega) hK' rfl rfl)⟩
    simp [results, Tryd.f40, go_sem, hc5, hc6]
  case stop =>
    rintro D c pre W hD hpre ⟨⟨rfl, y, hy, hc1, hc2⟩, hB⟩ hK
    gi_wp2
    refine ⟨by simp, .inl ⟨_, _, rfl, run_takeDeferred hK, ?_⟩⟩
    have hc5 := cell_kept hc1 (grownBy_putObj' _ D (.deferred none)) (fun r e => by cases e; exact ⟨_, hK, rfl⟩)
    have hc6 := cell_kept hc2 (grownBy_putObj' _ D (.deferred none)) (fun r e => by cases e; exact ⟨_, hK, rfl⟩)
    refine ⟨.tuple #[.int .i64 y.1, .int .i64 y.2], ?_, by rw [fbW_prefix hy hpre]; rfl, hB.trans (belowK_b (w := w) (Nat.le_refl _) W D _ _ (by simp at hD; omega) hK rfl rfl)⟩
    simp [results, Tryd.f40, go_sem, hc5, hc6]
theorem fbW_eq : ∀ (l : List (Nat × List UInt8)), (∀ x ∈ l, x.1 + x.2.length ≤ 400) → fbW (l.map fun x => (x.1, bytesOfL x.2)) = (Nm.firstBad l).map fun y => ((y.1 : Int), (y.2 : Int))
  | [], _ => rfl
  | x :: r, h => by
    simp only [List.map_cons, fbW, Nm.firstBad]
    have e : (bytesOfL x.2).data.toList = x.2 := rfl
    rw [e]
    cases hb : Nm.bad x.2 with
    | none => exact fbW_eq r fun y hy => h y (List.mem_cons_of_mem _ hy)
    | some z =>
      obtain ⟨m, q⟩ := z
      have hx := h x (List.mem_cons_self ..)
      rcases Nm.bad_some hb with ⟨rfl, hm⟩ | ⟨hq, rfl⟩
      · simp only [if_true, Option.map_some, Option.some.injEq, Prod.mk.injEq, and_true]
        unfold wrap64; omega
      · simp only [if_neg hq, Option.map_some, Nat.add_zero]
set_option maxHeartbeats 2000000 in
set_option maxRecDepth 100000 in
theorem check_long (p : ByteArray) (hp : 400 < p.size) (w : World) :
    Calls Tryd.prog 40 #[.string p] w fun e w' => e = .returned (.tuple #[.int .i64 0, .int .i64 2]) ∧ Below w.heap.size w w' := by
  have hd : decide (400 < (p.size : Int)) = true := by simp; omega
  go_enter Tryd.func40, Tryd.ntmps40
  go_wp2
  exact bodyPost_ret (v := .tuple #[.int .i64 0, .int .i64 2]) (by simp [results, Tryd.f40, go_sem]) rfl ⟨rfl, ((Below.refl _ w).alloc (Nat.le_refl _) _).alloc (by simp) _⟩
theorem check_any (p : ByteArray) (w : World) :
    Calls Tryd.prog 40 #[.string p] w fun e w' => e = .returned (.tuple #[.int .i64 ((Nm.check p.data.toList).1 : Int), .int .i64 ((Nm.check p.data.toList).2 : Int)]) ∧ Below w.heap.size w w' := by
  have hl : p.data.toList.length = p.size := by rw [Array.length_toList]; rfl
  by_cases h : 400 < p.size
  · unfold Nm.check
    rw [if_pos (by omega)]
    exact check_long p h w
  · have hb := Nm.pieces_bound p.data.toList 0
    refine (check_walk p (by omega) w).mono ?_
    rintro e w' ⟨rfl, h2⟩
    refine ⟨?_, h2⟩
    unfold Nm.check piecesB
    rw [fbW_eq _ (fun x hx => by have := hb x hx; omega), if_neg (by omega)]
    cases Nm.firstBad (Nm.pieces 0 p.data.toList) <;> rfl
end Go.Proofs.YthpecpkncifngaaDoor
end

-- PRINTED by print.py (a twelfth state) out of the translation. Not trusted: Lean checks it.
section
namespace Go.Proofs.YthpecpkncifngaaDoor.XS
open Go.RowKit Go.Proofs.YthpecpkncifngaaDoorW.PrintWords Go.Proofs.YthpecpkncifngaaDoorW.PrintLast Go.Proofs.YthpecpkncifngaaDoorW.PrintMore
attribute [local go_sem] max2_int min2_int max_two min_two max_three min_three max_four min_four   -- for this text's walks alone
def errW : Option Int → Value
  | none => .nilIface
  | some c => .iface 0 (.int .i64 c)
theorem errW_none : errW none = .nilIface := rfl
theorem errW_some (c : Int) : errW (some c) = .iface 0 (.int .i64 c) := rfl
theorem info9 : (Tryd.prog.info? 9).map (fun i => (i.zero, i.size, i.bytes)) = some (some (.string ⟨#[]⟩), 1, 16) := by kernel_rfl
-- the values' own types
end Go.Proofs.YthpecpkncifngaaDoor.XS
end

-- PRINTED by print.py (a twelfth state) out of the translation. Not trusted: Lean checks it.
section
namespace Go.Proofs.YthpecpkncifngaaDoor.XS
open Go.RowKit Go.Proofs.YthpecpkncifngaaDoorW.PrintWords Go.Proofs.YthpecpkncifngaaDoorW.PrintLast Go.Proofs.YthpecpkncifngaaDoorW.PrintMore
attribute [local go_sem] max2_int min2_int max_two min_two max_three min_three max_four min_four   -- for this text's walks alone
theorem one_byte (a : ByteArray) (h : a.size = 1) : a = ⟨#[a.data.toList.headD 0]⟩ := by
  obtain ⟨⟨l⟩⟩ := a
  match l, h with
  | [x], _ => rfl
def strings_explode.f (_ : ByteArray) (_ : Int) : Option (List ByteArray) := none
theorem strings_explode.calls (a0 : ByteArray) (a1 : Int) (r : List ByteArray) (w : World) (h : strings_explode.f a0 a1 = some r) :
    Calls Tryd.prog 116 #[.string a0, .int .i64 a1] w fun e w' => ∃ v0_ : Value, e = .returned (v0_) ∧ Kd.R Kd.string 9 w' w.heap.size (fun _ => True) v0_ r ∧ Below w.heap.size w w' := by
  simp [strings_explode.f] at h
def strings_Count.f (a0 a1 : ByteArray) : Option Int := if a1.size = 1 then some (Lib.countByte a0.data.toList (a1.data.toList.headD 0) : Nat) else none
theorem strings_Count.calls (a0 : ByteArray) (a1 : ByteArray) (r : Int) (w : World) (h : strings_Count.f a0 a1 = some r) :
    Calls Tryd.prog 117 #[.string a0, .string a1] w fun e w' => e = .returned (.int .i64 r) ∧ Drawn0 w w' := by
  unfold strings_Count.f at h
  split at h
  · rename_i h1
    obtain rfl := Option.some.inj h
    have e := one_byte a1 h1
    rw [e]
    refine (Tryd.strings_Count_one a0 (a1.data.toList.headD 0) w).mono ?_
    rintro e w' ⟨rfl, rfl⟩
    exact ⟨rfl, Drawn0.refl _⟩
  · simp at h
def strings_Index.f (a0 a1 : ByteArray) : Option Int := if a1.size = 1 then some (Lib.indexByte a0.data.toList (a1.data.toList.headD 0)) else none
theorem strings_Index.calls (a0 : ByteArray) (a1 : ByteArray) (r : Int) (w : World) (h : strings_Index.f a0 a1 = some r) :
    Calls Tryd.prog 118 #[.string a0, .string a1] w fun e w' => e = .returned (.int .i64 r) ∧ Drawn0 w w' := by
  unfold strings_Index.f at h
  split at h
  · rename_i h1
    obtain rfl := Option.some.inj h
    have e := one_byte a1 h1
    rw [e]
    refine (Tryd.strings_Index_one a0 (a1.data.toList.headD 0) w).mono ?_
    rintro e w' ⟨rfl, rfl⟩
    exact ⟨rfl, Drawn0.refl _⟩
  · simp at h
mutual
def strings_genSplit.j0 : Nat → ByteArray → ByteArray → Int → Int → Option (List ByteArray)
  | 0, _, _, _, _ => none
  | k + 1, x0, x1, x2, x3 => if 0 ≤ (mn x3 (wrap64 ((x0.size : Int) + 1))) then (if (mn x3 (wrap64 ((x0.size : Int) + 1)) : Int).toNat ≤ 17592186044416 then (strings_genSplit.l0 k x0 x1 x2 (wrap64 ((mn x3 (wrap64 ((x0.size : Int) + 1))) - 1)) (List.replicate (mn x3 (wrap64 ((x0.size : Int) + 1)) : Int).toNat (⟨#[]⟩ : ByteArray)) 0) else (none)) else (none)
def strings_genSplit.l0 : Nat → ByteArray → ByteArray → Int → Int → List ByteArray → Int → Option (List ByteArray)
  | 0, _, _, _, _, _, _ => none
  | k + 1, x0, x1, x2, x3, x9, x10 => if x10 < x3 then ((strings_Index.f x0 x1).bind fun t108 => (if t108 < 0 then (if 0 ≤ x10 then (if x10 < (x9.length : Int) then (if 0 ≤ (wrap64 (x10 + 1)) then (if (wrap64 (x10 + 1)) ≤ (x9.length : Int) then (some ((x9.set (x10 : Int).toNat x0).take ((wrap64 (x10 + 1)) : Int).toNat)) else (none)) else (none)) else (none)) else (none)) else (if 0 ≤ (wrap64 (t108 + x2)) then (if (wrap64 (t108 + x2)) ≤ (x0.size : Int) then (if 0 ≤ x10 then (if x10 < (x9.length : Int) then (if 0 ≤ (wrap64 (t108 + (x1.size : Int))) then (if (wrap64 (t108 + (x1.size : Int))) ≤ (x0.size : Int) then (strings_genSplit.l0 k (x0.extract ((wrap64 (t108 + (x1.size : Int))) : Int).toNat x0.size) x1 x2 x3 (x9.set (x10 : Int).toNat (x0.extract 0 ((wrap64 (t108 + x2)) : Int).toNat)) (wrap64 (x10 + 1))) else (none)) else (none)) else (none)) else (none)) else (none)) else (none)))) else (if 0 ≤ x10 then (if x10 < (x9.length : Int) then (if 0 ≤ (wrap64 (x10 + 1)) then (if (wrap64 (x10 + 1)) ≤ (x9.length : Int) then (some ((x9.set (x10 : Int).toNat x0).take ((wrap64 (x10 + 1)) : Int).toNat)) else (none)) else (none)) else (none)) else (none))
end
def strings_genSplit.f (k : Nat) (a0 : ByteArray) (a1 : ByteArray) (a2 : Int) (a3 : Int) : Option (List ByteArray) := if a3 = 0 then (some ([] : List ByteArray)) else (if a1.toList = ([] : List UInt8) then ((strings_explode.f a0 a3).bind fun t101 => (some t101)) else (if a3 < 0 then ((strings_Count.f a0 a1).bind fun t104 => (strings_genSplit.j0 k a0 a1 a2 (wrap64 (t104 + 1)))) else (strings_genSplit.j0 k a0 a1 a2 a3)))
set_option maxHeartbeats 8000000 in
set_option maxRecDepth 100000 in
theorem strings_genSplit.calls (k : Nat) (a0 : ByteArray) (a1 : ByteArray) (a2 : Int) (a3 : Int) (r : List ByteArray) (w : World) (h : strings_genSplit.f k a0 a1 a2 a3 = some r) :
    Calls Tryd.prog 101 #[.string a0, .string a1, .int .i64 a2, .int .i64 a3] w fun e w' => ∃ v0_ : Value, e = .returned (v0_) ∧ Kd.R Kd.string 9 w' w.heap.size (fun _ => True) v0_ r ∧ Below w.heap.size w w' := by
  have HB := Aside0.mk (Below.refl w.heap.size w)
  have H : (if a3 = 0 then (some ([] : List ByteArray)) else (if a1.toList = ([] : List UInt8) then ((strings_explode.f a0 a3).bind fun t101 => (some t101)) else (if a3 < 0 then ((strings_Count.f a0 a1).bind fun t104 => (strings_genSplit.j0 k a0 a1 a2 (wrap64 (t104 + 1)))) else (strings_genSplit.j0 k a0 a1 a2 a3)))) = some r := h
  clear h
  by_cases c5 : a3 = 0
  · rw [if_pos c5] at H
    have c5b0 : (a3 == 0) = true := beq_iff_eq.mpr c5
    have c5b1 : (a3 != 0) = false := bne_eq_false_iff_eq.mpr c5
    clear c5
    obtain rfl := Option.some.inj H
    go_enter Tryd.func101, Tryd.ntmps101
    go_wp2
    go_ret
    exact ⟨_, by first | rfl | (simp [errW_none, errW_some] <;> rfl) | (simp [*, errW_none, errW_some] <;> rfl), by first | exact Kd.R_nil _ _ _ _ _ | exact Kd.N_nil _ _ _ _ _ | exact Kd.V_nil _ _ _ _ _ | exact Kd.Q_nil _ _ _ _ _ | exact Kd.S_nil _ _ _ _ _, by repeat (first | (with_reducible first | exact HB.out | apply below_alloc | apply pw_below_drewN | apply below_drew1) | exact HB.out)⟩
  · rw [if_neg c5] at H
    have c5b0 : (a3 == 0) = false := beq_eq_false_iff_ne.mpr c5
    have c5b1 : (a3 != 0) = true := bne_iff_ne.mpr c5
    by_cases c6 : a1.toList = ([] : List UInt8)
    · rw [if_pos c6] at H
      have c6b0 : (a1.toList == ([] : List UInt8)) = true := beq_iff_eq.mpr c6
      have c6b1 : (a1.toList != ([] : List UInt8)) = false := bne_eq_false_iff_eq.mpr c6
      clear c6
      replace H := Option.bind_eq_some_iff.mp H
      obtain ⟨t101, A70, H⟩ := H
      replace H : (some t101) = some r := H
      have A7 := Aside0.mk A70
      clear A70
      obtain rfl := Option.some.inj H
      go_enter Tryd.func101, Tryd.ntmps101
      go_wp2_with (first | ((with_reducible refine gate_callee (f := 116) rfl ?_); refine goesL_ (some 18) rfl rfl Tryd.func116 (by kernel_rfl) rfl #[.string a0, .int .i64 a3] rfl (by (try simp only [List.map_toArray, List.map_cons, List.map_nil]); first | done | rfl | (simp only [List.length_drop, List.length_take]; rfl)) ?_; (with_reducible refine (strings_explode.calls a0 a3 t101 _ A7.out).mono ?_); rintro e w8 ⟨v102, rfl, ho0, hb⟩; refine ⟨_, rfl, ?_⟩; have n0_ := Aside0.mk (Kd.R_lower ho0 (below_size (by repeat (first | (with_reducible first | exact HB.out | apply below_alloc | apply pw_below_drewN | apply below_drew1) | exact HB.out)))); have n1_ := Aside0.mk (below_step (by repeat (first | (with_reducible first | exact HB.out | apply below_alloc | apply pw_below_drewN | apply below_drew1) | exact HB.out)) hb); clear HB; have HO103 := n0_; have HB := n1_; clear n0_ n1_; (try clear hb); (try clear hb2); (try clear hk); (try clear hi); (try clear ho0)))
      go_ret
      exact ⟨_, by first | rfl | (simp [errW_none, errW_some] <;> rfl) | (simp [*, errW_none, errW_some] <;> rfl), by (with_reducible repeat (first | apply Kd.R_alloc | apply Kd.R_drewN | apply Kd.R_drew)); exact HO103.out, by repeat (first | (with_reducible first | exact HB.out | apply below_alloc | apply pw_below_drewN | apply below_drew1) | exact HB.out)⟩
    · rw [if_neg c6] at H
      have c6b0 : (a1.toList == ([] : List UInt8)) = false := beq_eq_false_iff_ne.mpr c6
      have c6b1 : (a1.toList != ([] : List UInt8)) = true := bne_iff_ne.mpr c6
      have HC9 := Aside0.mk H
      clear H
      go_enter Tryd.func101, Tryd.ntmps101
      go_upto_if 20 with (fail)
      go_cut [3] (fun v3 wc => ∃ (kq : Nat) (x3_8 : Int), v3 = .int .i64 x3_8 ∧ Aside0 (strings_genSplit.j0 kq a0 a1 a2 x3_8 = some r) ∧ Aside0 (kq ≤ k) ∧ Aside0 (Below w.heap.size w wc))
      case first =>
        have H := HC9.out
        clear HC9
        by_cases c10 : a3 < 0
        · rw [if_pos c10] at H
          have c10b0 : decide (a3 < 0) = true := decide_eq_true c10
          clear c10
          (first | rw [c10b0] | (simp only [i64_w, i32_w]; rw [c10b0]) | skip)
          replace H := Option.bind_eq_some_iff.mp H
          obtain ⟨t104, A110, H⟩ := H
          replace H : (strings_genSplit.j0 k a0 a1 a2 (wrap64 (t104 + 1))) = some r := H
          have A11 := Aside0.mk A110
          clear A110
          have H' := Aside0.mk H
          clear H
          go_wp2_with (first | ((with_reducible refine gate_callee (f := 117) rfl ?_); refine goesL_ (some 23) rfl rfl Tryd.func117 (by kernel_rfl) rfl #[.string a0, .string a1] rfl (by (try simp only [List.map_toArray, List.map_cons, List.map_nil]); first | done | rfl | (simp only [List.length_drop, List.length_take]; rfl)) ?_; (with_reducible refine (strings_Count.calls a0 a1 t104 _ A11.out).mono ?_); rintro e w' ⟨rfl, ⟨nd, rfl⟩⟩; refine ⟨_, rfl, ?_⟩))
          go_meet
          case rel => exact ⟨_, (wrap64 (t104 + 1)), (by first | rfl | (simp; done) | (simp [*]; done)), H', ⟨by first | omega | exact Nat.le_refl _⟩, ⟨by repeat (first | (with_reducible first | exact HB.out | apply below_alloc | apply pw_below_drewN | apply below_drew1) | exact HB.out)⟩⟩
        · rw [if_neg c10] at H
          have c10b0 : decide (a3 < 0) = false := decide_eq_false c10
          clear c10
          (first | rw [c10b0] | (simp only [i64_w, i32_w]; rw [c10b0]) | skip)
          have H' := Aside0.mk H
          clear H
          go_wp2
          go_meet
          case rel => exact ⟨_, (a3), (by first | rfl | (simp; done) | (simp [*]; done)), H', ⟨by first | omega | exact Nat.le_refl _⟩, ⟨by repeat (first | (with_reducible first | exact HB.out | apply below_alloc | apply pw_below_drewN | apply below_drew1) | exact HB.out)⟩⟩
      case rest =>
        clear HC9
        try clear c1
        try clear p2
        try clear c5
        try clear c5b0
        try clear c5b1
        try clear c6
        try clear c6b0
        try clear c6b1
        try clear p6
        try clear c10
        try clear c10b0
        try clear c11
        obtain ⟨kq, x3_8, rfl, HA, HJ8, HB⟩ := hcut
        cases kq with
        | zero => exact absurd HA.out (by simp [strings_genSplit.j0])
        | succ kj8 =>
          have H := HA.out
          clear HA
          simp only [strings_genSplit.j0] at H
          obtain ⟨ji12, hji12⟩ : ∃ j_ : Int, (mn x3_8 (wrap64 ((a0.size : Int) + 1))) = j_ := ⟨_, rfl⟩
          replace H : (if 0 ≤ (ji12) then (if (ji12 : Int).toNat ≤ 17592186044416 then (strings_genSplit.l0 kj8 a0 a1 a2 (wrap64 ((ji12) - 1)) (List.replicate (ji12 : Int).toNat (⟨#[]⟩ : ByteArray)) 0) else (none)) else (none)) = some r := by first | (rw [hji12] at H; exact H) | (simp only [hji12] at H ⊢; exact H)
          have hji12_ : (if (wrap64 ((a0.size : Int) + 1)) < x3_8 then (wrap64 ((a0.size : Int) + 1)) else x3_8) = ji12 := hji12
          by_cases c13 : 0 ≤ (ji12)
          · rw [if_pos c13] at H
            have c13b0 := eq_true c13
            have c13b1 : decide (0 ≤ (ji12)) = true := decide_eq_true c13
            clear c13
            by_cases c14 : (ji12 : Int).toNat ≤ 17592186044416
            · rw [if_pos c14] at H
              have c14b0 := eq_true c14
              have c14b1 : decide ((ji12 : Int).toNat ≤ 17592186044416) = true := decide_eq_true c14
              clear c14
              obtain ⟨y105, hy105⟩ : ∃ y_ : List ByteArray, y_ = (List.replicate (ji12 : Int).toNat (⟨#[]⟩ : ByteArray)) := ⟨_, rfl⟩
              replace H : (strings_genSplit.l0 kj8 a0 a1 a2 (wrap64 ((ji12) - 1)) y105 0) = some r := by first | (rw [hy105]; with_reducible exact H) | (have H2_ := (Option.bind_some _ _).symm.trans H; rw [hy105]; with_reducible exact H2_) | (have H2_ := (Option.bind_some _ _).symm.trans H; with_reducible exact H2_) | with_reducible exact H | (rw [hy105]; exact H) | exact H
              have Ny105 := Aside0.mk hy105
              clear hy105
              have H' := Aside0.mk H
              clear H
              go_wp2_with (first | ((with_reducible refine gate_dst (N := 31) rfl ?_); refine Kd.R_make Kd.string _ 9 rfl (N := 31) rfl 60 _ _ rfl ji12 rfl rfl Tryd.underlying60 (.string ⟨#[]⟩) 16 info9 rfl (by decide) (by omega) (⟨#[]⟩ : ByteArray) (ok := fun _ => True) (okp := fun _ => True) rfl (fun _ hk => hk) trivial (of_decide_eq_true (by first | (with_reducible assumption) | assumption)) (Nat.le_trans (Nat.mul_le_mul_right _ (of_decide_eq_true (by first | (with_reducible assumption) | assumption) : ji12.toNat ≤ 17592186044416)) (by omega)) (Below.refl _ _) (Nat.le_refl _) ?_; intro v106 w15 ho16 hb hg_ hnew_; clear hg_ hnew_; (first | rw [← Ny105.out] at ho16 | (simp only [Int.reduceToNat] at ho16; rw [← Ny105.out] at ho16)); have n0_ := Aside0.mk (Kd.R_lower ho16 (below_size (by repeat (first | (with_reducible first | exact HB.out | apply below_alloc | apply pw_below_drewN | apply below_drew1) | exact HB.out)))); have n1_ := Aside0.mk (below_step (by repeat (first | (with_reducible first | exact HB.out | apply below_alloc | apply pw_below_drewN | apply below_drew1) | exact HB.out)) hb); clear HB; have HO107 := n0_; have HB := n1_; clear n0_ n1_; clear hb ho16))
              go_loopg [0, 10] kj8 (fun kq v0 v10 w' => ∃ (x0_2 : ByteArray) (x9_2 : List ByteArray) (x10_2 : Int), v0 = .string x0_2 ∧ v10 = .int .i64 x10_2 ∧ Aside0 (strings_genSplit.l0 kq x0_2 a1 a2 (wrap64 ((ji12) - 1)) x9_2 x10_2 = some r) ∧ Aside0 (kq ≤ kj8) ∧ Aside0 (Kd.R Kd.string 9 w' w.heap.size (fun _ => True) v106 x9_2) ∧ Aside0 (Below w.heap.size w w'))
              case atStart => exact ⟨(a0), (y105), (0), (by first | rfl | (simp; done) | (simp [*]; done)), (by first | rfl | (simp; done) | (simp [*]; done)), H', ⟨Nat.le_refl _⟩, ⟨by (with_reducible repeat (first | apply Kd.R_alloc | apply Kd.R_drewN | apply Kd.R_drew)); exact HO107.out⟩, ⟨by repeat (first | (with_reducible first | exact HB.out | apply below_alloc | apply pw_below_drewN | apply below_drew1) | exact HB.out)⟩⟩
              case round =>
                clear H'
                try clear c1
                try clear p2
                try clear c5
                try clear c5b0
                try clear c5b1
                try clear c6
                try clear c6b0
                try clear c6b1
                try clear p6
                try clear c10
                try clear c10b0
                try clear c11
                try clear c13
                try clear c13b0
                try clear c13b1
                try clear c14
                try clear c14b0
                try clear c14b1
                try clear p2
                try clear p6
                obtain ⟨x0_2, x9_2, x10_2, rfl, rfl, HA, HK2, HO_9, HB⟩ := hrel
                cases gk with
                | zero => exact absurd HA.out (by simp [strings_genSplit.l0])
                | succ k2 =>
                  have H := HA.out
                  clear HA
                  simp only [strings_genSplit.l0] at H
                  by_cases c17 : x10_2 < (wrap64 ((ji12) - 1))
                  · rw [if_pos c17] at H
                    have c17b0 : decide (x10_2 < (wrap64 ((ji12) - 1))) = true := decide_eq_true c17
                    clear c17
                    replace H := Option.bind_eq_some_iff.mp H
                    obtain ⟨t108, A180, H⟩ := H
                    replace H : (if t108 < 0 then (if 0 ≤ x10_2 then (if x10_2 < (x9_2.length : Int) then (if 0 ≤ (wrap64 (x10_2 + 1)) then (if (wrap64 (x10_2 + 1)) ≤ (x9_2.length : Int) then (some ((x9_2.set (x10_2 : Int).toNat x0_2).take ((wrap64 (x10_2 + 1)) : Int).toNat)) else (none)) else (none)) else (none)) else (none)) else (if 0 ≤ (wrap64 (t108 + a2)) then (if (wrap64 (t108 + a2)) ≤ (x0_2.size : Int) then (if 0 ≤ x10_2 then (if x10_2 < (x9_2.length : Int) then (if 0 ≤ (wrap64 (t108 + (a1.size : Int))) then (if (wrap64 (t108 + (a1.size : Int))) ≤ (x0_2.size : Int) then (strings_genSplit.l0 k2 (x0_2.extract ((wrap64 (t108 + (a1.size : Int))) : Int).toNat x0_2.size) a1 a2 (wrap64 ((ji12) - 1)) (x9_2.set (x10_2 : Int).toNat (x0_2.extract 0 ((wrap64 (t108 + a2)) : Int).toNat)) (wrap64 (x10_2 + 1))) else (none)) else (none)) else (none)) else (none)) else (none)) else (none))) = some r := H
                    have A18 := Aside0.mk A180
                    clear A180
                    by_cases c19 : t108 < 0
                    · rw [if_pos c19] at H
                      have c19b0 : decide (t108 < 0) = true := decide_eq_true c19
                      clear c19
                      by_cases c20 : 0 ≤ x10_2
                      · rw [if_pos c20] at H
                        have c20b0 : decide (0 ≤ x10_2) = true := decide_eq_true c20
                        clear c20
                        by_cases c21 : x10_2 < (x9_2.length : Int)
                        · rw [if_pos c21] at H
                          have c21b0 : decide (x10_2 < (x9_2.length : Int)) = true := decide_eq_true c21
                          clear c21
                          obtain ⟨y109, hy109⟩ : ∃ y_ : List ByteArray, y_ = (x9_2.set (x10_2 : Int).toNat x0_2) := ⟨_, rfl⟩
                          replace H : (if 0 ≤ (wrap64 (x10_2 + 1)) then (if (wrap64 (x10_2 + 1)) ≤ (x9_2.length : Int) then (some (y109.take ((wrap64 (x10_2 + 1)) : Int).toNat)) else (none)) else (none)) = some r := by first | (rw [hy109]; with_reducible exact H) | (have H2_ := (Option.bind_some _ _).symm.trans H; rw [hy109]; with_reducible exact H2_) | (have H2_ := (Option.bind_some _ _).symm.trans H; with_reducible exact H2_) | with_reducible exact H | (rw [hy109]; exact H) | exact H
                          have Ny109 := Aside0.mk hy109
                          clear hy109
                          obtain ⟨ji23, hji23⟩ : ∃ j_ : Int, (wrap64 (x10_2 + 1)) = j_ := ⟨_, rfl⟩
                          replace H : (if 0 ≤ (ji23) then (if (ji23) ≤ (x9_2.length : Int) then (some (y109.take ((ji23) : Int).toNat)) else (none)) else (none)) = some r := by first | (rw [hji23] at H; exact H) | (simp only [hji23] at H ⊢; exact H)
                          (try rw [hji23] at A18)
                          have hji23w : (IntKind.i64.wrap (x10_2 + 1)) = ji23 := (i64_w _).trans hji23
                          by_cases c24 : 0 ≤ (ji23)
                          · rw [if_pos c24] at H
                            have c24b0 := eq_true c24
                            have c24b1 : decide (0 ≤ (ji23)) = true := decide_eq_true c24
                            clear c24
                            by_cases c25 : (ji23) ≤ (x9_2.length : Int)
                            · rw [if_pos c25] at H
                              have c25b0 := eq_true c25
                              have c25b1 : decide ((ji23) ≤ (x9_2.length : Int)) = true := decide_eq_true c25
                              clear c25
                              obtain ⟨y110, hy110⟩ : ∃ y_ : List ByteArray, y_ = (y109.take ((ji23) : Int).toNat) := ⟨_, rfl⟩
                              replace H : (some y110) = some r := by first | (rw [hy110]; with_reducible exact H) | (have H2_ := (Option.bind_some _ _).symm.trans H; rw [hy110]; with_reducible exact H2_) | (have H2_ := (Option.bind_some _ _).symm.trans H; with_reducible exact H2_) | with_reducible exact H | (rw [hy110]; exact H) | exact H
                              have Ny110 := Aside0.mk hy110
                              clear hy110
                              obtain rfl := Option.some.inj H
                              go_wp2_with (first | ((with_reducible refine gate_callee (f := 118) rfl ?_); refine goesL_ (some 39) rfl rfl Tryd.func118 (by kernel_rfl) rfl #[.string x0_2, .string a1] rfl (by (try simp only [List.map_toArray, List.map_cons, List.map_nil]); first | done | rfl | (simp only [List.length_drop, List.length_take]; rfl)) ?_; (with_reducible refine (strings_Index.calls x0_2 a1 t108 _ A18.out).mono ?_); rintro e w' ⟨rfl, ⟨nd, rfl⟩⟩; refine ⟨_, rfl, ?_⟩; (try (rw [drewN_self wr]; generalize hq_ : World.drewN wr _ = wr; have n0_ : Aside0 (Kd.R Kd.string 9 wr w.heap.size (fun _ => True) v106 x9_2) := ⟨by rw [← hq_]; exact (by (with_reducible repeat (first | apply Kd.R_alloc | apply Kd.R_drewN | apply Kd.R_drew)); exact HO_9.out)⟩; have n1_ : Aside0 (Below w.heap.size w wr) := ⟨by rw [← hq_]; exact (by repeat (first | (with_reducible first | exact HB.out | apply below_alloc | apply pw_below_drewN | apply below_drew1) | exact HB.out))⟩; clear HO_9 HB hq_; have HO_9 := n0_; have HB := n1_; clear n0_ n1_)); have p22 : 0 ≤ (x10_2 : Int) := of_decide_eq_true (by first | (with_reducible assumption) | assumption); have q22 : (x10_2 : Int) < ((x9_2.length : Int) : Int) := of_decide_eq_true (by first | (with_reducible assumption) | assumption); obtain ⟨go22, co22, eo22, gb22, gl22, cl22, HG22⟩ := Kd.R_form HO_9.out (by omega); (first | cases eo22 | (injection eo22 with ea_ en_ ec_; (first | subst ea_ | (injection ea_ with ea_; subst ea_)); subst ec_; clear en_)); have GB22 := Aside0.mk gb22; have GG22 := Aside0.mk HG22; clear gb22 gl22 HG22; obtain ⟨hx22_0, hf22_0⟩ := Kd.R_celln (⟨#[]⟩ : ByteArray) HO_9.out (x10_2 : Int) p22 q22; replace p22 := eq_true p22; replace q22 := eq_true q22; obtain ⟨hy26_, hz26_⟩ := Kd.R_celln (⟨#[]⟩ : ByteArray) HO_9.out (x10_2 : Int) (of_decide_eq_true (by first | (with_reducible assumption) | assumption)) (of_decide_eq_true (by first | (with_reducible assumption) | assumption)); have HP26 := Kd.R_putg HO_9.out (x10_2 : Int) x0_2; have hl_ : y109.length = x9_2.length := (by rw [Ny109.out, List.length_set]); have hp_ : Kd.R Kd.string 9 (wr.setCell ⟨go22, (x10_2 : Int).toNat, none⟩ (.string x0_2)) w.heap.size (fun _ => True) (.slice (some ⟨go22, 0, none⟩) x9_2.length co22) y109 := (by rw [Ny109.out]; exact HP26.1); clear HP26; have n0_ := Aside0.mk hp_; have n1_ := Aside0.mk (below_set (HB.out) GB22.out : Below w.heap.size w (wr.setCell ⟨go22, (x10_2 : Int).toNat, none⟩ (.string x0_2))); clear HO_9; clear HB; have HO_9 := n0_; have HB := n1_; clear n0_ n1_ hp_; have q28 : ((ji23) : Int) ≤ ((x9_2.length : Int) : Int) := of_decide_eq_true (by first | (with_reducible assumption) | assumption); obtain ⟨i028, hi028, _, hsz28, _⟩ := info_parts info9; have hcut28 := cut_to (P := Tryd.prog) 60 9 .i64 Tryd.underlying60 hi028 (some ⟨go22, 0, none⟩) x9_2.length co22 (ji23) (of_decide_eq_true (by first | (with_reducible assumption) | assumption)) q28 (Kd.R_reads' HO_9.out).2.1; have hr28 := Kd.R_take (m := ((ji23) : Int).toNat) HO_9.out (by omega); have hy28 : y110.length = ((ji23) : Int).toNat := (by rw [Ny110.out, List.length_take]; omega); rw [← Ny110.out] at hr28; rw [← hy28] at hr28 hcut28; clear hy28 hi028 hsz28 HO_9; have HO112 := Aside0.mk hr28; clear hr28; replace q28 := eq_true q28))
                              (refine bodyPost_ret (v := .slice (some ⟨go22, 0, none⟩) y110.length co22) ?_ ?_ ?_; exact (by exact results_tmp (fn := Tryd.f101) (t := 8) rfl _ _ _); rfl)
                              exact ⟨_, by first | rfl | (simp [errW_none, errW_some] <;> rfl) | (simp only [← hji12, ← hji23]; first | rfl | (simp [errW_none, errW_some] <;> rfl)) | (simp [*, errW_none, errW_some] <;> rfl), by (with_reducible repeat (first | apply Kd.R_alloc | apply Kd.R_drewN | apply Kd.R_drew)); exact HO112.out, by repeat (first | (with_reducible first | exact HB.out | apply below_alloc | apply pw_below_drewN | apply below_drew1) | exact HB.out)⟩
                            · rw [if_neg c25] at H
                              exact absurd H (by simp)
                          · rw [if_neg c24] at H
                            exact absurd H (by simp)
                        · rw [if_neg c21] at H
                          exact absurd H (by simp)
                      · rw [if_neg c20] at H
                        exact absurd H (by simp)
                    · rw [if_neg c19] at H
                      have c19b0 : decide (t108 < 0) = false := decide_eq_false c19
                      clear c19
                      obtain ⟨ji29, hji29⟩ : ∃ j_ : Int, (wrap64 (t108 + a2)) = j_ := ⟨_, rfl⟩
                      replace H : (if 0 ≤ (ji29) then (if (ji29) ≤ (x0_2.size : Int) then (if 0 ≤ x10_2 then (if x10_2 < (x9_2.length : Int) then (if 0 ≤ (wrap64 (t108 + (a1.size : Int))) then (if (wrap64 (t108 + (a1.size : Int))) ≤ (x0_2.size : Int) then (strings_genSplit.l0 k2 (x0_2.extract ((wrap64 (t108 + (a1.size : Int))) : Int).toNat x0_2.size) a1 a2 (wrap64 ((ji12) - 1)) (x9_2.set (x10_2 : Int).toNat (x0_2.extract 0 ((ji29) : Int).toNat)) (wrap64 (x10_2 + 1))) else (none)) else (none)) else (none)) else (none)) else (none)) else (none)) = some r := by first | (rw [hji29] at H; exact H) | (simp only [hji29] at H ⊢; exact H)
                      (try rw [hji29] at A18)
                      have hji29w : (IntKind.i64.wrap (t108 + a2)) = ji29 := (i64_w _).trans hji29
                      by_cases c30 : 0 ≤ (ji29)
                      · rw [if_pos c30] at H
                        have c30b0 := eq_true c30
                        have c30b1 : decide (0 ≤ (ji29)) = true := decide_eq_true c30
                        clear c30
                        by_cases c31 : (ji29) ≤ (x0_2.size : Int)
                        · rw [if_pos c31] at H
                          have c31b0 := eq_true c31
                          have c31b1 : decide ((ji29) ≤ (x0_2.size : Int)) = true := decide_eq_true c31
                          clear c31
                          by_cases c32 : 0 ≤ x10_2
                          · rw [if_pos c32] at H
                            have c32b0 : decide (0 ≤ x10_2) = true := decide_eq_true c32
                            clear c32
                            by_cases c33 : x10_2 < (x9_2.length : Int)
                            · rw [if_pos c33] at H
                              have c33b0 : decide (x10_2 < (x9_2.length : Int)) = true := decide_eq_true c33
                              clear c33
                              obtain ⟨y113, hy113⟩ : ∃ y_ : List ByteArray, y_ = (x9_2.set (x10_2 : Int).toNat (x0_2.extract 0 ((ji29) : Int).toNat)) := ⟨_, rfl⟩
                              replace H : (if 0 ≤ (wrap64 (t108 + (a1.size : Int))) then (if (wrap64 (t108 + (a1.size : Int))) ≤ (x0_2.size : Int) then (strings_genSplit.l0 k2 (x0_2.extract ((wrap64 (t108 + (a1.size : Int))) : Int).toNat x0_2.size) a1 a2 (wrap64 ((ji12) - 1)) y113 (wrap64 (x10_2 + 1))) else (none)) else (none)) = some r := by first | (rw [hy113]; with_reducible exact H) | (have H2_ := (Option.bind_some _ _).symm.trans H; rw [hy113]; with_reducible exact H2_) | (have H2_ := (Option.bind_some _ _).symm.trans H; with_reducible exact H2_) | with_reducible exact H | (rw [hy113]; exact H) | exact H
                              have Ny113 := Aside0.mk hy113
                              clear hy113
                              obtain ⟨ji35, hji35⟩ : ∃ j_ : Int, (wrap64 (t108 + (a1.size : Int))) = j_ := ⟨_, rfl⟩
                              replace H : (if 0 ≤ (ji35) then (if (ji35) ≤ (x0_2.size : Int) then (strings_genSplit.l0 k2 (x0_2.extract ((ji35) : Int).toNat x0_2.size) a1 a2 (wrap64 ((ji12) - 1)) y113 (wrap64 (x10_2 + 1))) else (none)) else (none)) = some r := by first | (rw [hji35] at H; exact H) | (simp only [hji35] at H ⊢; exact H)
                              (try rw [hji35] at A18)
                              have hji35w : (IntKind.i64.wrap (t108 + (a1.size : Int))) = ji35 := (i64_w _).trans hji35
                              by_cases c36 : 0 ≤ (ji35)
                              · rw [if_pos c36] at H
                                have c36b0 := eq_true c36
                                have c36b1 : decide (0 ≤ (ji35)) = true := decide_eq_true c36
                                clear c36
                                by_cases c37 : (ji35) ≤ (x0_2.size : Int)
                                · rw [if_pos c37] at H
                                  have c37b0 := eq_true c37
                                  have c37b1 : decide ((ji35) ≤ (x0_2.size : Int)) = true := decide_eq_true c37
                                  clear c37
                                  have H' := Aside0.mk H
                                  clear H
                                  go_wp2_with (first | ((with_reducible refine gate_callee (f := 118) rfl ?_); refine goesL_ (some 39) rfl rfl Tryd.func118 (by kernel_rfl) rfl #[.string x0_2, .string a1] rfl (by (try simp only [List.map_toArray, List.map_cons, List.map_nil]); first | done | rfl | (simp only [List.length_drop, List.length_take]; rfl)) ?_; (with_reducible refine (strings_Index.calls x0_2 a1 t108 _ A18.out).mono ?_); rintro e w' ⟨rfl, ⟨nd, rfl⟩⟩; refine ⟨_, rfl, ?_⟩; (try (rw [drewN_self wr]; generalize hq_ : World.drewN wr _ = wr; have n0_ : Aside0 (Kd.R Kd.string 9 wr w.heap.size (fun _ => True) v106 x9_2) := ⟨by rw [← hq_]; exact (by (with_reducible repeat (first | apply Kd.R_alloc | apply Kd.R_drewN | apply Kd.R_drew)); exact HO_9.out)⟩; have n1_ : Aside0 (Below w.heap.size w wr) := ⟨by rw [← hq_]; exact (by repeat (first | (with_reducible first | exact HB.out | apply below_alloc | apply pw_below_drewN | apply below_drew1) | exact HB.out))⟩; clear HO_9 HB hq_; have HO_9 := n0_; have HB := n1_; clear n0_ n1_)); have p34 : 0 ≤ (x10_2 : Int) := of_decide_eq_true (by first | (with_reducible assumption) | assumption); have q34 : (x10_2 : Int) < ((x9_2.length : Int) : Int) := of_decide_eq_true (by first | (with_reducible assumption) | assumption); obtain ⟨go34, co34, eo34, gb34, gl34, cl34, HG34⟩ := Kd.R_form HO_9.out (by omega); (first | cases eo34 | (injection eo34 with ea_ en_ ec_; (first | subst ea_ | (injection ea_ with ea_; subst ea_)); subst ec_; clear en_)); have GB34 := Aside0.mk gb34; have GG34 := Aside0.mk HG34; clear gb34 gl34 HG34; obtain ⟨hx34_0, hf34_0⟩ := Kd.R_celln (⟨#[]⟩ : ByteArray) HO_9.out (x10_2 : Int) p34 q34; replace p34 := eq_true p34; replace q34 := eq_true q34; obtain ⟨hy38_, hz38_⟩ := Kd.R_celln (⟨#[]⟩ : ByteArray) HO_9.out (x10_2 : Int) (of_decide_eq_true (by first | (with_reducible assumption) | assumption)) (of_decide_eq_true (by first | (with_reducible assumption) | assumption)); have HP38 := Kd.R_putg HO_9.out (x10_2 : Int) (x0_2.extract 0 ((ji29) : Int).toNat)) | ((with_reducible refine gate_store (t := 9) (p := 49) rfl ?_); refine store_event (t := 9) (p := 49) (v := ?vo_w39) (w1 := (wr.setCell ⟨go34, (x10_2 : Int).toNat, none⟩ (.string (x0_2.extract 0 ((ji29) : Int).toNat)))) ?hg ?ho ?hn ?hr ?_; (case ho => rfl); (case hg => rfl); (case hn => rfl); (case hr => first | (go_simp; done) | (go_simp; rfl)); intro w39 hw; have hg : wr.grownBy w39 (some go34) := (by rw [hw]; exact HP38.2); have hp_ : Kd.R Kd.string 9 w39 w.heap.size (fun _ => True) (.slice (some ⟨go34, 0, none⟩) x9_2.length co34) y113 := (by rw [hw, Ny113.out]; exact HP38.1); clear HP38; have n0_ := Aside0.mk (hp_); have n1_ := Aside0.mk ((by rw [hw]; exact below_set (HB.out) GB34.out : Below w.heap.size w w39)); clear HO_9; clear HB; have HO_9 := n0_; have HB := n1_; clear n0_ n1_; clear hg hw hp_))
                                  go_roundg k2
                                  case measure => have := HJ8.out; have := HK2.out; omega
                                  case rel => exact ⟨(x0_2.extract ((ji35) : Int).toNat x0_2.size), (y113), (wrap64 (x10_2 + 1)), (by first | rfl | (simp; done) | (simp only [← hji35] <;> (first | rfl | simp)) | (simp [*]; done)), (by first | rfl | (simp; done) | (simp [*]; done)), H', ⟨by have := HJ8.out; have := HK2.out; omega⟩, ⟨by (with_reducible repeat (first | apply Kd.R_alloc | apply Kd.R_drewN | apply Kd.R_drew)); exact HO_9.out⟩, ⟨by repeat (first | (with_reducible first | exact HB.out | apply below_alloc | apply pw_below_drewN | apply below_drew1) | exact HB.out)⟩⟩
                                · rw [if_neg c37] at H
                                  exact absurd H (by simp)
                              · rw [if_neg c36] at H
                                exact absurd H (by simp)
                            · rw [if_neg c33] at H
                              exact absurd H (by simp)
                          · rw [if_neg c32] at H
                            exact absurd H (by simp)
                        · rw [if_neg c31] at H
                          exact absurd H (by simp)
                      · rw [if_neg c30] at H
                        exact absurd H (by simp)
                  · rw [if_neg c17] at H
                    have c17b0 : decide (x10_2 < (wrap64 ((ji12) - 1))) = false := decide_eq_false c17
                    clear c17
                    by_cases c40 : 0 ≤ x10_2
                    · rw [if_pos c40] at H
                      have c40b0 : decide (0 ≤ x10_2) = true := decide_eq_true c40
                      clear c40
                      by_cases c41 : x10_2 < (x9_2.length : Int)
                      · rw [if_pos c41] at H
                        have c41b0 : decide (x10_2 < (x9_2.length : Int)) = true := decide_eq_true c41
                        clear c41
                        obtain ⟨y114, hy114⟩ : ∃ y_ : List ByteArray, y_ = (x9_2.set (x10_2 : Int).toNat x0_2) := ⟨_, rfl⟩
                        replace H : (if 0 ≤ (wrap64 (x10_2 + 1)) then (if (wrap64 (x10_2 + 1)) ≤ (x9_2.length : Int) then (some (y114.take ((wrap64 (x10_2 + 1)) : Int).toNat)) else (none)) else (none)) = some r := by first | (rw [hy114]; with_reducible exact H) | (have H2_ := (Option.bind_some _ _).symm.trans H; rw [hy114]; with_reducible exact H2_) | (have H2_ := (Option.bind_some _ _).symm.trans H; with_reducible exact H2_) | with_reducible exact H | (rw [hy114]; exact H) | exact H
                        have Ny114 := Aside0.mk hy114
                        clear hy114
                        obtain ⟨ji43, hji43⟩ : ∃ j_ : Int, (wrap64 (x10_2 + 1)) = j_ := ⟨_, rfl⟩
                        replace H : (if 0 ≤ (ji43) then (if (ji43) ≤ (x9_2.length : Int) then (some (y114.take ((ji43) : Int).toNat)) else (none)) else (none)) = some r := by first | (rw [hji43] at H; exact H) | (simp only [hji43] at H ⊢; exact H)
                        have hji43w : (IntKind.i64.wrap (x10_2 + 1)) = ji43 := (i64_w _).trans hji43
                        by_cases c44 : 0 ≤ (ji43)
                        · rw [if_pos c44] at H
                          have c44b0 := eq_true c44
                          have c44b1 : decide (0 ≤ (ji43)) = true := decide_eq_true c44
                          clear c44
                          by_cases c45 : (ji43) ≤ (x9_2.length : Int)
                          · rw [if_pos c45] at H
                            have c45b0 := eq_true c45
                            have c45b1 : decide ((ji43) ≤ (x9_2.length : Int)) = true := decide_eq_true c45
                            clear c45
                            obtain ⟨y115, hy115⟩ : ∃ y_ : List ByteArray, y_ = (y114.take ((ji43) : Int).toNat) := ⟨_, rfl⟩
                            replace H : (some y115) = some r := by first | (rw [hy115]; with_reducible exact H) | (have H2_ := (Option.bind_some _ _).symm.trans H; rw [hy115]; with_reducible exact H2_) | (have H2_ := (Option.bind_some _ _).symm.trans H; with_reducible exact H2_) | with_reducible exact H | (rw [hy115]; exact H) | exact H
                            have Ny115 := Aside0.mk hy115
                            clear hy115
                            obtain rfl := Option.some.inj H
                            have p42 : 0 ≤ (x10_2 : Int) := of_decide_eq_true (by first | (with_reducible assumption) | assumption)
                            have q42 : (x10_2 : Int) < ((x9_2.length : Int) : Int) := of_decide_eq_true (by first | (with_reducible assumption) | assumption)
                            obtain ⟨go42, co42, eo42, gb42, gl42, cl42, HG42⟩ := Kd.R_form HO_9.out (by omega)
                            (first | cases eo42 | (injection eo42 with ea_ en_ ec_; (first | subst ea_ | (injection ea_ with ea_; subst ea_)); subst ec_; clear en_))
                            have GB42 := Aside0.mk gb42
                            have GG42 := Aside0.mk HG42
                            clear gb42 gl42 HG42
                            obtain ⟨hx42_0, hf42_0⟩ := Kd.R_celln (⟨#[]⟩ : ByteArray) HO_9.out (x10_2 : Int) p42 q42
                            replace p42 := eq_true p42
                            replace q42 := eq_true q42
                            have HP46 := Kd.R_putg HO_9.out (x10_2 : Int) x0_2
                            (have hl_ : y114.length = x9_2.length := (by rw [Ny114.out, List.length_set]); have hp_ : Kd.R Kd.string 9 (wr.setCell ⟨go42, (x10_2 : Int).toNat, none⟩ (.string x0_2)) w.heap.size (fun _ => True) (.slice (some ⟨go42, 0, none⟩) x9_2.length co42) y114 := (by rw [Ny114.out]; exact HP46.1); clear HP46; have n0_ := Aside0.mk hp_; have n1_ := Aside0.mk (below_set (HB.out) GB42.out : Below w.heap.size w (wr.setCell ⟨go42, (x10_2 : Int).toNat, none⟩ (.string x0_2))); clear HO_9; clear HB; have HO_9 := n0_; have HB := n1_; clear n0_ n1_ hp_; have q48 : ((ji43) : Int) ≤ ((x9_2.length : Int) : Int) := of_decide_eq_true (by first | (with_reducible assumption) | assumption); obtain ⟨i048, hi048, _, hsz48, _⟩ := info_parts info9; have hcut48 := cut_to (P := Tryd.prog) 60 9 .i64 Tryd.underlying60 hi048 (some ⟨go42, 0, none⟩) x9_2.length co42 (ji43) (of_decide_eq_true (by first | (with_reducible assumption) | assumption)) q48 (Kd.R_reads' HO_9.out).2.1; have hr48 := Kd.R_take (m := ((ji43) : Int).toNat) HO_9.out (by omega); have hy48 : y115.length = ((ji43) : Int).toNat := (by rw [Ny115.out, List.length_take]; omega); rw [← Ny115.out] at hr48; rw [← hy48] at hr48 hcut48; clear hy48 hi048 hsz48 HO_9; have HO117 := Aside0.mk hr48; clear hr48; replace q48 := eq_true q48)
                            go_wp2_with (fail)
                            go_ret
                            exact ⟨_, by first | rfl | (simp [errW_none, errW_some] <;> rfl) | (simp only [← hji12, ← hji43]; first | rfl | (simp [errW_none, errW_some] <;> rfl)) | (simp [*, errW_none, errW_some] <;> rfl), by (with_reducible repeat (first | apply Kd.R_alloc | apply Kd.R_drewN | apply Kd.R_drew)); exact HO117.out, by repeat (first | (with_reducible first | exact HB.out | apply below_alloc | apply pw_below_drewN | apply below_drew1) | exact HB.out)⟩
                          · rw [if_neg c45] at H
                            exact absurd H (by simp)
                        · rw [if_neg c44] at H
                          exact absurd H (by simp)
                      · rw [if_neg c41] at H
                        exact absurd H (by simp)
                    · rw [if_neg c40] at H
                      exact absurd H (by simp)
            · rw [if_neg c14] at H
              exact absurd H (by simp)
          · rw [if_neg c13] at H
            exact absurd H (by simp)
def strings_Split.f (k : Nat) (a0 : ByteArray) (a1 : ByteArray) : Option (List ByteArray) := (strings_genSplit.f k a0 a1 0 (-1)).bind fun t118 => (some t118)
set_option maxHeartbeats 8000000 in
set_option maxRecDepth 100000 in
theorem strings_Split.calls (k : Nat) (a0 : ByteArray) (a1 : ByteArray) (r : List ByteArray) (w : World) (h : strings_Split.f k a0 a1 = some r) :
    Calls Tryd.prog 84 #[.string a0, .string a1] w fun e w' => ∃ v0_ : Value, e = .returned (v0_) ∧ Kd.R Kd.string 9 w' w.heap.size (fun _ => True) v0_ r ∧ Below w.heap.size w w' := by
  have HB := Aside0.mk (Below.refl w.heap.size w)
  have H : ((strings_genSplit.f k a0 a1 0 (-1)).bind fun t118 => (some t118)) = some r := h
  clear h
  replace H := Option.bind_eq_some_iff.mp H
  obtain ⟨t118, A30, H⟩ := H
  replace H : (some t118) = some r := H
  have A3 := Aside0.mk A30
  clear A30
  obtain rfl := Option.some.inj H
  go_enter Tryd.func84, Tryd.ntmps84
  go_wp2_with (first | ((with_reducible refine gate_callee (f := 101) rfl ?_); refine goesL_ (some 7) rfl rfl Tryd.func101 (by kernel_rfl) rfl #[.string a0, .string a1, .int .i64 0, .int .i64 (-1)] rfl (by (try simp only [List.map_toArray, List.map_cons, List.map_nil]); first | done | rfl | (simp only [List.length_drop, List.length_take]; rfl)) ?_; (with_reducible refine (strings_genSplit.calls k a0 a1 0 (-1) t118 _ A3.out).mono ?_); rintro e w4 ⟨v119, rfl, ho0, hb⟩; refine ⟨_, rfl, ?_⟩; have n0_ := Aside0.mk (Kd.R_lower ho0 (below_size (by repeat (first | (with_reducible first | exact HB.out | apply below_alloc | apply pw_below_drewN | apply below_drew1) | exact HB.out)))); have n1_ := Aside0.mk (below_step (by repeat (first | (with_reducible first | exact HB.out | apply below_alloc | apply pw_below_drewN | apply below_drew1) | exact HB.out)) hb); clear HB; have HO120 := n0_; have HB := n1_; clear n0_ n1_; (try clear hb); (try clear hb2); (try clear hk); (try clear hi); (try clear ho0)))
  go_ret
  exact ⟨_, by first | rfl | (simp [errW_none, errW_some] <;> rfl) | (simp [*, errW_none, errW_some] <;> rfl), by (with_reducible repeat (first | apply Kd.R_alloc | apply Kd.R_drewN | apply Kd.R_drew)); exact HO120.out, by repeat (first | (with_reducible first | exact HB.out | apply below_alloc | apply pw_below_drewN | apply below_drew1) | exact HB.out)⟩
end Go.Proofs.YthpecpkncifngaaDoor.XS
end

/- More plain words on paths: the last place of a byte. -/
section
namespace Go.Proofs.YthpecpkncifngaaDoor.Nm
def lastIdx (c : UInt8) : List UInt8 → Int
  | [] => -1
  | x :: l => if 0 ≤ lastIdx c l then lastIdx c l + 1 else if x = c then 0 else -1
theorem lastIdx_ge (c : UInt8) : ∀ l, -1 ≤ lastIdx c l
  | [] => by simp [lastIdx]
  | x :: l => by
    have := lastIdx_ge c l
    simp only [lastIdx]
    split
    · omega
    · split <;> omega
theorem lastIdx_lt (c : UInt8) : ∀ l, lastIdx c l < l.length
  | [] => by simp [lastIdx]
  | x :: l => by
    have := lastIdx_lt c l
    simp only [lastIdx, List.length_cons]
    split
    · omega
    · split <;> omega
theorem lastIdx_snoc (c x : UInt8) : ∀ l, lastIdx c (l ++ [x]) = if x = c then (l.length : Int) else lastIdx c l
  | [] => by simp [lastIdx]
  | y :: l => by
    simp only [List.cons_append, lastIdx, lastIdx_snoc c x l, List.length_cons]
    by_cases h : x = c
    · simp only [h, if_true]
      rw [if_pos (by omega)]
      omega
    · simp only [h, if_false]
end Go.Proofs.YthpecpkncifngaaDoor.Nm
end

/- More plain words on paths: texts of pieces, put together again; the order; what is beneath. -/
section
namespace Go.Proofs.YthpecpkncifngaaDoor.Nm
def texts (l : List UInt8) : List (List UInt8) := (pieces 0 l).map (·.2)
def joinT : List (List UInt8) → List UInt8
  | [] => []
  | [x] => x
  | x :: y :: r => x ++ 47 :: joinT (y :: r)
theorem pc_texts : ∀ (l : List UInt8) (p q : Nat), (pc p l).1 = (pc q l).1 ∧ (pc p l).2.map (·.2) = (pc q l).2.map (·.2)
  | [], _, _ => ⟨rfl, rfl⟩
  | c :: l, p, q => by
    obtain ⟨h1, h2⟩ := pc_texts l (p + 1) (q + 1)
    by_cases hc : c = 47
    · simp only [pc, hc, if_true, List.map_cons, h1, h2, and_self]
    · simp only [pc, hc, if_false, h1, h2, and_self]
theorem pieces_texts (l : List UInt8) (p : Nat) : (pieces p l).map (·.2) = texts l := by
  obtain ⟨h1, h2⟩ := pc_texts l p 0
  simp only [texts, pieces, List.map_cons, h1, h2]
theorem pc_append : ∀ (a b : List UInt8) (p : Nat), pc p (a ++ 47 :: b) = ((pc p a).1, (pc p a).2 ++ pieces (p + a.length + 1) b)
  | [], b, p => by simp [pc, pieces]
  | c :: a, b, p => by
    have h := pc_append a b (p + 1)
    have e : p + 1 + a.length + 1 = p + (c :: a).length + 1 := by simp only [List.length_cons]; omega
    by_cases hc : c = 47
    · simp only [List.cons_append, pc, hc, if_true, h, e, List.length_cons]
    · simp only [List.cons_append, pc, hc, if_false, h, e]
theorem pieces_append (a b : List UInt8) (p : Nat) : pieces p (a ++ 47 :: b) = pieces p a ++ pieces (p + a.length + 1) b := by
  simp only [pieces, pc_append, List.cons_append]
theorem texts_append (a b : List UInt8) : texts (a ++ 47 :: b) = texts a ++ texts b := by
  simp only [texts, pieces_append, List.map_append]
  rw [pieces_texts b (0 + a.length + 1)]
  rfl
theorem texts_ne (l : List UInt8) : texts l ≠ [] := by simp [texts, pieces]
theorem joinT_pc : ∀ (l : List UInt8) (p : Nat), joinT ((pc p l).1 :: (pc p l).2.map (·.2)) = l
  | [], _ => rfl
  | c :: l, p => by
    have h := joinT_pc l (p + 1)
    by_cases hc : c = 47
    · subst hc
      simp only [pc, if_true, List.map_cons, joinT, List.nil_append, h]
    · simp only [pc, hc, if_false]
      cases hs : (pc (p + 1) l).2 with
      | nil => rw [hs] at h; simp only [List.map_nil, joinT] at h ⊢; rw [h]
      | cons x r => rw [hs] at h; simp only [List.map_cons, joinT] at h ⊢; rw [List.cons_append, h]
theorem joinT_texts (l : List UInt8) : joinT (texts l) = l := joinT_pc l 0
theorem joinT_append : ∀ (x : List (List UInt8)) (y : List (List UInt8)), x ≠ [] → y ≠ [] → joinT (x ++ y) = joinT x ++ 47 :: joinT y
  | [a], y, _, hy => by
    cases y with
    | nil => exact absurd rfl hy
    | cons b r => rfl
  | a :: b :: r, y, _, hy => by
    have := joinT_append (b :: r) y (by simp) hy
    simp only [List.cons_append, joinT] at this ⊢
    rw [this]; simp
theorem beneath_iff (a p : List UInt8) : (∃ b, p = a ++ 47 :: b) ↔ ∃ r, r ≠ [] ∧ texts p = texts a ++ r := by
  constructor
  · rintro ⟨b, rfl⟩
    exact ⟨texts b, texts_ne b, texts_append a b⟩
  · rintro ⟨r, hr, h⟩
    refine ⟨joinT r, ?_⟩
    have := congrArg joinT h
    rw [joinT_texts, joinT_append _ _ (texts_ne a) hr, joinT_texts] at this
    exact this
theorem bad_ne {l : List UInt8} {m e : Nat} (h : bad l = some (m, e)) : e ≠ 0 := by
  rintro rfl
  unfold bad at h
  repeat' split at h
  all_goals simp at h
theorem firstBad_ne {l : List (Nat × List UInt8)} {y : Nat × Nat} (h : firstBad l = some y) : y.2 ≠ 0 := by
  induction l with
  | nil => simp [firstBad] at h
  | cons x r ih =>
    simp only [firstBad] at h
    cases hb : bad x.2 with
    | none => rw [hb] at h; exact ih h
    | some z =>
      rw [hb] at h
      obtain ⟨m, e⟩ := z
      simp only [Option.some.injEq] at h
      subst h
      exact bad_ne hb
theorem firstBad_none {l : List (Nat × List UInt8)} : firstBad l = none ↔ ∀ t ∈ l.map (·.2), bad t = none := by
  induction l with
  | nil => simp [firstBad]
  | cons x r ih =>
    simp only [firstBad, List.map_cons, List.mem_cons, forall_eq_or_imp]
    cases hb : bad x.2 with
    | none => simp only [true_and]; exact ih
    | some z => simp
theorem check_ok (l : List UInt8) : (check l).2 = 0 ↔ l.length ≤ 400 ∧ ∀ t ∈ texts l, bad t = none := by
  unfold check
  by_cases h : 400 < l.length
  · rw [if_pos h]
    constructor
    · intro e; simp at e
    · rintro ⟨h1, _⟩; omega
  · rw [if_neg h]
    have e : (firstBad (pieces 0 l) = none) ↔ ∀ t ∈ texts l, bad t = none := firstBad_none
    cases hf : firstBad (pieces 0 l) with
    | none => simp only [Option.getD_none, true_iff]; exact ⟨by omega, e.1 hf⟩
    | some y =>
      have := firstBad_ne hf
      simp only [Option.getD_some]
      constructor
      · intro h0; exact absurd h0 this
      · rintro ⟨_, h2⟩; rw [e.2 h2] at hf; simp at hf
def cmpL : List (List UInt8) → List (List UInt8) → Int
  | [], [] => 0
  | [], _ :: _ => -1
  | _ :: _, [] => 1
  | x :: a, y :: b => if Op.bytesLess x y = true then -1 else if Op.bytesLess y x = true then 1 else cmpL a b
end Go.Proofs.YthpecpkncifngaaDoor.Nm
end

/- strings.Split at a stroke: the texts between the strokes, in a row of its own. -/
section
namespace Go.Proofs.YthpecpkncifngaaDoor.Sp
open Go.RowKit Go.Proofs.YthpecpkncifngaaDoor Go.Proofs.YthpecpkncifngaaDoor.XS Go.Proofs.YthpecpkncifngaaDoorW.PrintWords Go.Proofs.YthpecpkncifngaaDoorW.PrintLast Go.Proofs.YthpecpkncifngaaDoorW.PrintMore
theorem len_eq (p : ByteArray) : p.data.toList.length = p.size := by rw [Array.length_toList]; rfl
theorem pc_count : ∀ (l : List UInt8) (pos : Nat), (Nm.pc pos l).2.length = Lib.countByte l 47
  | [], _ => rfl
  | c :: l, pos => by
    have := pc_count l (pos + 1)
    by_cases hc : c = 47
    · subst hc; simp only [Nm.pc, if_true, List.length_cons, this, Lib.countByte, List.count_cons_self]
    · simp only [Nm.pc, hc, if_false, this, Lib.countByte]
      rw [List.count_cons_of_ne (by simpa using hc)]
theorem texts_count (l : List UInt8) : (Nm.texts l).length = Lib.countByte l 47 + 1 := by
  simp [Nm.texts, Nm.pieces, pc_count]
theorem texts_none {l : List UInt8} (h : Lib.indexByte l 47 = -1) : Nm.texts l = [l] := by rw [Nm.texts, Nm.pieces_none l 0 h]; rfl
theorem texts_some {l : List UInt8} {n : Nat} (h : Lib.indexByte l 47 = n) : Nm.texts l = l.take n :: Nm.texts (l.drop (n + 1)) := by
  rw [Nm.texts, Nm.pieces_some l 0 n h, List.map_cons, Nm.pieces_texts]
def textsB (p : ByteArray) : List ByteArray := (Nm.texts p.data.toList).map bytesOfL
def sl : ByteArray := ⟨#[47]⟩
theorem sl_size : ((sl.size : Nat) : Int) = 1 := rfl
theorem sl_ne : ¬ sl.toList = [] := by rw [Lib.toList_data]; simp [sl]
theorem idx47 (p : ByteArray) : strings_Index.f p sl = some (Lib.indexByte p.data.toList 47) := rfl
theorem ext_to (p : ByteArray) (m : Nat) : (p.extract 0 m).data.toList = p.data.toList.take m := by simp [ByteArray.data_extract]
theorem ext_from (p : ByteArray) (m : Nat) : (p.extract m p.size).data.toList = p.data.toList.drop m := by
  rw [ByteArray.data_extract, Array.toList_extract]
  simp only [List.extract]
  rw [List.take_of_length_le]
  rw [List.length_drop, len_eq]
  exact Nat.le_refl _
theorem l0_end (k : Nat) (x0 : ByteArray) (x9 : List ByteArray) (i : Nat) (hl : x9.length = i + 1) (hi : i ≤ 2199023255552) :
    strings_genSplit.l0 (k + 1) x0 sl 0 (i : Int) x9 (i : Int) = some (x9.take i ++ [x0]) := by
  have hw : wrap64 ((i : Int) + 1) = ((i + 1 : Nat) : Int) := by unfold wrap64; omega
  simp only [strings_genSplit.l0]
  rw [if_neg (by omega), if_pos (by omega), if_pos (by omega), hw, if_pos (by omega), if_pos (by omega), Int.toNat_natCast, Int.toNat_natCast]
  congr 1
  rw [List.take_add_one, List.take_set_of_le (Nat.le_refl _), List.getElem?_set_self (by omega)]
  rfl
theorem l0_step (k : Nat) (x0 : ByteArray) (x9 : List ByteArray) (i n m : Nat) (hm : Lib.indexByte x0.data.toList 47 = m) (hlt : m < x0.size) (hs : x0.size ≤ 1099511627776) (hin : i < n) (hl : x9.length = n + 1) (hn : n ≤ 2199023255552) :
    strings_genSplit.l0 (k + 1) x0 sl 0 (n : Int) x9 (i : Int) = strings_genSplit.l0 k (x0.extract (m + 1) x0.size) sl 0 (n : Int) (x9.set i (x0.extract 0 m)) ((i + 1 : Nat) : Int) := by
  have hw : wrap64 ((i : Int) + 1) = ((i + 1 : Nat) : Int) := by unfold wrap64; omega
  have hw2 : wrap64 ((m : Int) + 0) = ((m : Nat) : Int) := by unfold wrap64; omega
  have hw3 : wrap64 ((m : Int) + 1) = ((m + 1 : Nat) : Int) := by unfold wrap64; omega
  simp only [strings_genSplit.l0]
  rw [if_pos (by omega), idx47, hm, Option.bind_some, if_neg (by omega), hw2, if_pos (by omega), if_pos (by omega), if_pos (by omega), if_pos (by omega), sl_size, hw3, if_pos (by omega), if_pos (by omega), hw,
    Int.toNat_natCast, Int.toNat_natCast, Int.toNat_natCast]
theorem split_l0 : ∀ (d : Nat) (x0 : ByteArray) (x9 : List ByteArray) (i n : Nat), x0.size ≤ d → x0.size ≤ 1099511627776 → x9.length = n + 1 → n + 1 = i + (Nm.texts x0.data.toList).length → n ≤ 2199023255552 →
    Ev (fun k => strings_genSplit.l0 k x0 sl 0 (n : Int) x9 (i : Int)) (x9.take i ++ textsB x0) := by
  intro d
  induction d with
  | zero =>
    intro x0 x9 i n hd hs hl hn hi
    have e0 : x0.data.toList = [] := List.eq_nil_of_length_eq_zero (by rw [len_eq]; omega)
    have et : Nm.texts x0.data.toList = [x0.data.toList] := texts_none (by rw [e0]; rfl)
    rw [et] at hn
    obtain rfl : n = i := by simpa using hn
    refine Ev.step (fun k => l0_end k x0 x9 n hl hi) ?_
    rw [textsB, et]
    exact Ev.now _
  | succ d ih =>
    intro x0 x9 i n hd hs hl hn hi
    by_cases h : Lib.indexByte x0.data.toList 47 = -1
    · have et : Nm.texts x0.data.toList = [x0.data.toList] := texts_none h
      rw [et] at hn
      obtain rfl : n = i := by simpa using hn
      refine Ev.step (fun k => l0_end k x0 x9 n hl hi) ?_
      rw [textsB, et]
      exact Ev.now _
    · obtain ⟨m, hm⟩ : ∃ m : Nat, Lib.indexByte x0.data.toList 47 = m := ⟨(Lib.indexByte x0.data.toList 47).toNat, by have := Lib.indexByte_ge x0.data.toList 47; omega⟩
      have et := texts_some hm
      have hlt : m < x0.size := by have := (Nm.pc_some _ 0 m hm).1; rwa [len_eq] at this
      have h1 : 0 < (Nm.texts (x0.data.toList.drop (m + 1))).length := List.length_pos_iff.2 (Nm.texts_ne _)
      have hsz : (x0.extract (m + 1) x0.size).size = x0.size - (m + 1) := by simp [ByteArray.size_extract]
      rw [et, List.length_cons] at hn
      have e3 : bytesOfL (x0.data.toList.take m) = x0.extract 0 m := by rw [← ext_to]; rfl
      refine Ev.step (fun k => l0_step k x0 x9 i n m hm hlt hs (by omega) hl hi) ?_
      have := ih (x0.extract (m + 1) x0.size) (x9.set i (x0.extract 0 m)) (i + 1) n (by rw [hsz]; omega) (by rw [hsz]; omega) (by rw [List.length_set]; exact hl) (by rw [ext_from]; omega) hi
      have e2 : (x9.set i (x0.extract 0 m)).take (i + 1) ++ textsB (x0.extract (m + 1) x0.size) = x9.take i ++ textsB x0 := by
        rw [List.take_add_one, List.take_set_of_le (Nat.le_refl _), List.getElem?_set_self (by omega), textsB, textsB, et, ext_from, List.map_cons, e3]
        simp
      rw [← e2]
      exact this
theorem split_ev (p : ByteArray) (hp : p.size ≤ 1048576) : Ev (fun k => strings_Split.f k p sl) (textsB p) := by
  have hc := texts_count p.data.toList
  have hl := Nm.pieces_length p.data.toList 0
  have hl2 : (Nm.texts p.data.toList).length ≤ p.size + 1 := by rw [← len_eq]; simpa [Nm.texts] using hl
  obtain ⟨n, hn⟩ : ∃ n, (Nm.texts p.data.toList).length = n + 1 := ⟨(Nm.texts p.data.toList).length - 1, by omega⟩
  have h0 : Ev (fun k => strings_genSplit.j0 k p sl 0 ((n + 1 : Nat) : Int)) (textsB p) := by
    have hw : wrap64 ((p.size : Int) + 1) = ((p.size + 1 : Nat) : Int) := by unfold wrap64; omega
    have hm : mn ((n + 1 : Nat) : Int) ((p.size + 1 : Nat) : Int) = ((n + 1 : Nat) : Int) := by
      unfold mn; split <;> omega
    have e1 : wrap64 (((n + 1 : Nat) : Int) - 1) = (n : Int) := by unfold wrap64; omega
    have := split_l0 p.size p (List.replicate (n + 1) ⟨#[]⟩) 0 n (Nat.le_refl _) (by omega) (by simp) (by omega) (by omega)
    rw [List.take_zero, List.nil_append] at this
    refine Ev.step (fun k => ?_) this
    simp only [strings_genSplit.j0]
    rw [hw, hm, if_pos (by omega), Int.toNat_natCast, if_pos (by omega), e1]
    rfl
  unfold strings_Split.f strings_genSplit.f
  refine Ev.congr (fun k => ?_) h0
  have e : strings_Count.f p sl = some ((Lib.countByte p.data.toList 47 : Nat) : Int) := rfl
  have hw : wrap64 (((Lib.countByte p.data.toList 47 : Nat) : Int) + 1) = ((n + 1 : Nat) : Int) := by rw [← hn, hc]; unfold wrap64; omega
  rw [if_neg (by decide), if_neg sl_ne, if_pos (by decide), e, Option.bind_some, hw]
  cases strings_genSplit.j0 k p sl 0 ((n + 1 : Nat) : Int) <;> rfl
theorem split_calls (p : ByteArray) (hp : p.size ≤ 1048576) (w : World) :
    Calls Tryd.prog 84 #[.string p, .string sl] w fun e w' => ∃ v, e = .returned v ∧ Kd.R Kd.string 9 w' w.heap.size (fun _ => True) v (textsB p) ∧ Below w.heap.size w w' := by
  obtain ⟨k, h⟩ := (split_ev p hp).rounds
  exact strings_Split.calls k p sl _ w h
end Go.Proofs.YthpecpkncifngaaDoor.Sp
end

/- Plain words on paths: where a link leads. -/
section
namespace Go.Proofs.YthpecpkncifngaaDoor.Nm
def way : List (List UInt8) → List (List UInt8) → Option (List (List UInt8))
  | ps, [] => some ps
  | ps, x :: r => if x = [] ∨ x = [46] then way ps r else if x = [46, 46] then (if ps = [] then none else way ps.dropLast r) else way (ps ++ [x]) r
def led : Option (List (List UInt8)) → List UInt8 × Nat
  | none => ([], 83)
  | some L => (joinT L, 0)
def lead (a t : List UInt8) : List UInt8 × Nat :=
  if (check a).2 ≠ 0 then ([], (check a).2)
  else if t = [] then ([], 80)
  else if 400 < t.length then ([], 2)
  else if 0 ≤ Lib.indexByte t 0 then ([], 82)
  else if t.head? = some 47 then ([], 83)
  else led (way (texts a).dropLast (texts t))
theorem way_append : ∀ (b ps c : List (List UInt8)), way ps (b ++ c) = (way ps b).bind fun q => way q c
  | [], ps, c => rfl
  | x :: r, ps, c => by
    simp only [List.cons_append, way]
    split
    · exact way_append r ps c
    · split
      · split
        · rfl
        · exact way_append r _ c
      · exact way_append r _ c
theorem way_snoc {ps b q : List (List UInt8)} (h : way ps b = some q) (x : List UInt8) : way ps (b ++ [x]) = way q [x] := by rw [way_append, h]; rfl
theorem way_len : ∀ (b ps q : List (List UInt8)), way ps b = some q → q.length ≤ ps.length + b.length
  | [], ps, q, h => by simp only [way, Option.some.injEq] at h; subst h; simp
  | x :: r, ps, q, h => by
    simp only [way] at h
    split at h
    · have := way_len r ps q h; simp; omega
    · split at h
      · split at h
        · simp at h
        · have := way_len r _ q h; simp at this ⊢; omega
      · have := way_len r _ q h; simp at this ⊢; omega
theorem way_empty (q : List (List UInt8)) {x : List UInt8} (h : x.isEmpty = true) : way q [x] = some q := by
  have : x = [] := by simpa using h
  subst this; rfl
theorem way_dot (q : List (List UInt8)) {x : List UInt8} (h : (x == [46]) = true) : way q [x] = some q := by
  have : x = [46] := by simpa using h
  subst this; rfl
theorem way_up (q : List (List UInt8)) {x : List UInt8} (h : (x == [46, 46]) = true) : way q [x] = if q = [] then none else some q.dropLast := by
  have : x = [46, 46] := by simpa using h
  subst this
  simp [way]
theorem way_part (q : List (List UInt8)) {x : List UInt8} (h1 : x.isEmpty = false) (h2 : (x == [46]) = false) (h3 : (x == [46, 46]) = false) : way q [x] = some (q ++ [x]) := by
  have e1 : x ≠ [] := by simpa using h1
  have e2 : x ≠ [46] := by simpa using h2
  have e3 : x ≠ [46, 46] := by simpa using h3
  simp [way, e1, e2, e3]
theorem way_none_prefix {ps b c : List (List UInt8)} (h : way ps b = none) : way ps (b ++ c) = none := by rw [way_append, h]; rfl
def totL (l : List (List UInt8)) : Nat := (l.map (fun x => x.length + 1)).sum
theorem totL_append (a b : List (List UInt8)) : totL (a ++ b) = totL a + totL b := by simp [totL]
theorem totL_dropLast : ∀ (l : List (List UInt8)), totL l.dropLast ≤ totL l
  | [] => Nat.le_refl _
  | [x] => by simp [totL]
  | x :: y :: r => by
    have := totL_dropLast (y :: r)
    simp only [List.dropLast_cons_cons, totL, List.map_cons, List.sum_cons] at this ⊢
    omega
theorem joinT_totL : ∀ (l : List (List UInt8)), (joinT l).length ≤ totL l
  | [] => Nat.le_refl _
  | [x] => by simp [joinT, totL]
  | x :: y :: r => by
    have := joinT_totL (y :: r)
    simp only [joinT, totL, List.map_cons, List.sum_cons, List.length_append, List.length_cons] at this ⊢
    omega
theorem totL_pc : ∀ (l : List UInt8) (p : Nat), (pc p l).1.length + totL ((pc p l).2.map (·.2)) = l.length
  | [], _ => rfl
  | c :: l, p => by
    have := totL_pc l (p + 1)
    by_cases hc : c = 47
    · simp only [pc, hc, if_true, List.map_cons, totL, List.map_cons, List.sum_cons, List.length_cons, List.length_nil] at this ⊢
      omega
    · simp only [pc, hc, if_false, List.length_cons] at this ⊢
      omega
theorem totL_texts (l : List UInt8) : totL (texts l) = l.length + 1 := by
  have := totL_pc l 0
  simp only [texts, pieces, List.map_cons, totL, List.sum_cons] at this ⊢
  omega
theorem way_tot : ∀ (b ps q : List (List UInt8)), way ps b = some q → totL q ≤ totL ps + totL b
  | [], ps, q, h => by simp only [way, Option.some.injEq] at h; subst h; simp
  | x :: r, ps, q, h => by
    have hx : totL (x :: r) = x.length + 1 + totL r := by simp [totL]
    simp only [way] at h
    split at h
    · have := way_tot r ps q h; omega
    · split at h
      · split at h
        · simp at h
        · have := way_tot r _ q h; have := totL_dropLast ps; omega
      · have := way_tot r _ q h
        rw [totL_append] at this
        have e : totL [x] = x.length + 1 := by simp [totL]
        omega
end Go.Proofs.YthpecpkncifngaaDoor.Nm
end

/- strings.Join of a row that is read. -/
section
namespace Go.Proofs.YthpecpkncifngaaDoor.Jn
open Go.RowKit Go.Proofs.YthpecpkncifngaaDoor Go.Proofs.YthpecpkncifngaaDoorW.PrintWords Go.Proofs.YthpecpkncifngaaDoorW.PrintLast Go.Proofs.YthpecpkncifngaaDoorW.PrintMore
theorem spot_of {w : World} {a : Addr} {v : Value} (h : w.cell? a = some v) : a = ⟨a.block, a.off, none⟩ := by
  obtain ⟨b, o, s⟩ := a
  cases s with
  | none => rfl
  | some s =>
    unfold World.cell? at h
    split at h <;> simp at h
theorem add_at (b o j : Nat) : (⟨b, o, none⟩ : Addr).add j = ⟨b, o + j, none⟩ := by unfold Addr.add; split <;> simp_all
theorem join_C (A0 : Option Addr) (c0 : Nat) (l0 : List ByteArray) (a1 : ByteArray) (w : World) (hr0 : Kd.C Kd.string w A0 l0.length l0) (hc0 : l0.length ≤ c0)
    (hb : l0.length ≤ 140737488355328 ∧ (Lib.join (l0.map (·.data.toList)) a1.data.toList).length ≤ 140737488355328) :
    Calls Tryd.prog 85 #[.slice A0 l0.length c0, .string a1] w fun e w' => e = .returned (.string ⟨(Lib.join (l0.map (·.data.toList)) a1.data.toList).toArray⟩) ∧ Below w.heap.size w w' := by
  rcases Nat.eq_zero_or_pos l0.length with h0 | h0
  · obtain rfl := List.eq_nil_of_length_eq_zero h0
    refine (Tryd.strings_Join_none A0 c0 a1 w).mono ?_
    rintro e w' ⟨rfl, rfl⟩
    exact ⟨by simp [Lib.join, List.intercalate], Below.refl _ _⟩
  · obtain ⟨ad, cs, rfl, _, hk, hcell⟩ := Kd.C_get hr0 ByteArray.empty 0 (by omega) (by omega)
    have hK : cs = [.string (l0.getD (0 : Int).toNat ByteArray.empty)] := hk
    subst hK
    have h1 := hcell 0 _ rfl
    rw [show (0 : Int).toNat * Kd.string.sz + 0 = 0 from rfl, show ad.add 0 = ad from rfl] at h1
    have hs := spot_of h1
    have hblk := World.block_lt_of_cell? w ad h1
    rw [hs]
    refine Tryd.strings_Join ad.block ad.off c0 l0 a1 w (fun j x hx => ?_) hblk hb.1 hc0 hb.2
    have hj : j < l0.length := (List.getElem?_eq_some_iff.1 hx).1
    obtain ⟨ad2, cs2, e2, _, hk2, hcell2⟩ := Kd.C_get hr0 ByteArray.empty (j : Int) (by omega) (by omega)
    obtain rfl := Option.some.inj e2
    have hK2 : cs2 = [.string (l0.getD (j : Int).toNat ByteArray.empty)] := hk2
    subst hK2
    have h2 := hcell2 0 _ rfl
    rw [show (j : Int).toNat * Kd.string.sz + 0 = j from by show (j : Int).toNat * 1 + 0 = j; omega, hs, add_at, List.getD_eq_getElem?_getD, Int.toNat_natCast, hx] at h2
    exact h2
def rowV (L : List (List UInt8)) : List Value := L.map fun x => .string (bytesOfL x)
theorem rowV_encs (L : List (List UInt8)) : encs Value.string (L.map bytesOfL) = rowV L := by simp [encs, rowV]
theorem join_eq (l : List (List UInt8)) : Lib.join l [47] = Nm.joinT l := by
  induction l with
  | nil => rfl
  | cons x r ih =>
    cases r with
    | nil => simp [Lib.join, List.intercalate, Nm.joinT]
    | cons y s =>
      have : Lib.join (x :: y :: s) [47] = x ++ 47 :: Lib.join (y :: s) [47] := by simp [Lib.join, List.intercalate]
      rw [this, ih]; rfl
theorem join_own {W : World} {base n c : Nat} {A : Option Addr} {L : List (List UInt8)} (h : W.ownsRow base 9 1 (.slice A n c) L.length (rowV L)) (hl : L.length ≤ 4294967296) (ht : Nm.totL L ≤ 4294967296) :
    Calls Tryd.prog 85 #[.slice A n c, .string ⟨#[47]⟩] W fun e w' => e = .returned (.string (bytesOfL (Nm.joinT L))) ∧ Below W.heap.size W w' := by
  have hR : (Kd.string).R 9 W base (fun _ => True) (.slice A n c) (L.map bytesOfL) := Kd.R_of_own (by rw [List.length_map, rowV_encs]; exact h) (fun _ _ => trivial)
  obtain ⟨rfl, h2, h3⟩ := Kd.R_reads' hR
  have hm : (L.map bytesOfL).map (·.data.toList) = L := by
    rw [List.map_map]
    have : ((fun x : ByteArray => x.data.toList) ∘ bytesOfL) = id := rfl
    rw [this, List.map_id]
  have := join_C A c (L.map bytesOfL) ⟨#[47]⟩ W h3 h2 (by
    rw [hm, List.length_map]
    have e : (⟨#[47]⟩ : ByteArray).data.toList = [47] := rfl
    rw [e, join_eq]
    have := Nm.joinT_totL L
    omega)
  rw [hm, show (⟨#[47]⟩ : ByteArray).data.toList = [47] from rfl, join_eq] at this
  exact this
theorem own_last {W : World} {base n c : Nat} {A : Option Addr} {L : List (List UInt8)} (h : W.ownsRow base 9 1 (.slice A n c) L.length (rowV L)) (m : Nat) (hm : m = L.length - 1) : W.ownsRow base 9 1 (.slice A m c) L.dropLast.length (rowV L.dropLast) := by
  have hR : (Kd.string).R 9 W base (fun _ => True) (.slice A n c) (L.map bytesOfL) := Kd.R_of_own (by rw [List.length_map, rowV_encs]; exact h) (fun _ _ => trivial)
  have := Kd.own_of_R (Kd.R_take (m := m) hR (by rw [List.length_map]; omega))
  rw [← List.map_take, List.length_map, rowV_encs] at this
  subst hm
  rw [List.dropLast_eq_take]
  exact this
theorem own_slice {W : World} {base : Nat} {v : Value} {L : List (List UInt8)} (h : W.ownsRow base 9 1 v L.length (rowV L)) : ∃ A c, v = .slice A L.length c ∧ L.length ≤ c := by
  rcases h.2 with ⟨rfl, h0⟩ | ⟨g, cap, cur, rfl, _, _, h1, _⟩
  · exact ⟨none, 0, by rw [h0], by omega⟩
  · exact ⟨_, _, rfl, h1⟩
end Go.Proofs.YthpecpkncifngaaDoor.Jn
end

/- The contract of name.Lead. -/
section
namespace Go.Proofs.YthpecpkncifngaaDoor.LeadW
open Go.RowKit Go.Shelf Go.Proofs.YthpecpkncifngaaDoor Go.Proofs.YthpecpkncifngaaDoor.Jn
open Go.Proofs.YthpecpkncifngaaDoorW.PrintWords Go.Proofs.YthpecpkncifngaaDoorW.PrintLast Go.Proofs.YthpecpkncifngaaDoorW.PrintMore
attribute [local go_sem] Oper.semAt_some
theorem boxed_own {β : Type} (B : Nat) (t : TypeId) (v : Value) : Own (fun (_ : β) W => Boxed W B t v) := fun s A C row hs hg hr => hs.kept hg (fun e => by
  obtain ⟨o, ho, hc⟩ := hr B e.symm
  rw [show A.heap[B]? = _ from hs] at ho; cases ho; cases hc)
theorem box_below {w W : World} {B : Nat} {t : TypeId} {v : Value} (h : Boxed w B t v) (hb : Below w.heap.size w W) : Boxed W B t v := (hb.block B h.lt).trans h
theorem box_far {W : World} {B C : Nat} {t : TypeId} {v u : Value} (h : Boxed W B t v) (hc : C ≠ B) : Boxed (W.setCell ⟨C, 0, none⟩ u) B t v := (Below.heap_setCell W ⟨C, 0, none⟩ u B (Ne.symm hc)).trans h
theorem info_str : (Tryd.prog.info? 9).map (fun i => (i.zero, i.size, i.bytes)) = some (some (.string ⟨#[]⟩), 1, 16) := by kernel_rfl
theorem append_at {F : Fence} {n : Nat} {P : Program} (w : World) {ops : Array Oper} {rest : List Oper} {o : Oper} {a : Act} {Q : Exit → Act → World → Prop}
    (hg : o.guard = none) (s x : Operand) (t : TypeId) (hop : o.op = Op.call { callee := Callee.builtin Builtin.append, args := #[s, x], argTypes := #[t, t] })
    (base : Nat) (e : TypeId) (i : TypeInfo) (z : Value) (size bytes : Nat) (h1 : P.underlying t = some (.slice e)) (h2 : P.info? e = some i) (h3 : i.zero = some z) (h4 : i.size = size) (h5 : i.bytes = bytes) (h6 : z.cells.size = size) (h7 : 0 < size)
    (v : Value) (k : Nat) (xs : List Value) (hs : a.eval s = v) (hown : w.ownsRow base e size v k xs) (ad : Addr) (m c : Nat) (news : List Value) (hx : a.eval x = .slice (some ad) m c) (hn : news.length = m * size)
    (hc : ∀ j u, news[j]? = some u → w.cell? (ad.add j) = some u) (h1c : ∀ u ∈ news, u.oneCell' = true) (b1 : k + m ≤ maxLen) (b2 : (k + m) * bytes ≤ 140737488355328) (b3 : base ≤ w.heap.size)
    (hK : ∀ v' w', w'.ownsRow base e size v' (k + m) (xs ++ news) → w.grownBy w' v.ownBlock → (v'.ownBlock = v.ownBlock ∨ v'.ownBlock = some w.heap.size) → wpListIn F n P ops Q rest (a.put o.dst v') w') :
    wpListIn F n P ops Q (o :: rest) a w := by
  refine wpListIn_plain hg fun K hK' => ?_
  obtain ⟨v', w', hrun, r1, r2, _, r3⟩ := run_append_own_at (P := P) w base t o.type e i z size bytes h1 h2 h3 h4 h5 h6 h7 v k xs hown ad m c news hn hc h1c b1 b2 b3
  unfold Oper.wpIn
  refine ⟨?_, ?_⟩
  · simp [Oper.about, hop, resolve, Target.leads, Sem.run_pure]
  · rw [Oper.semAt_plain F _ _ (by rw [hop]; intro c hc'; cases hc')]
    simp [execOp, hop, resolve, invoke, builtin, hs, hx, hrun, Result.andThen]
    exact hK' _ _ (hK v' w' r1 r2 r3)
def txt (pre : List (Nat × ByteArray)) : List (List UInt8) := pre.map fun x => x.2.data.toList
theorem txt_snoc (pre : List (Nat × ByteArray)) (x : Nat × ByteArray) : txt (pre ++ [x]) = txt pre ++ [x.2.data.toList] := by simp [txt]
theorem txt_all (l : List UInt8) : txt (piecesB 0 l) = Nm.texts l := by
  simp only [txt, piecesB, List.map_map, Nm.texts]
  rfl
def wl (P0 : List (List UInt8)) (pre : List (Nat × ByteArray)) : List (List UInt8) := (Nm.way P0 (txt pre)).getD []
theorem wl_of {P0 : List (List UInt8)} {pre : List (Nat × ByteArray)} {L : List (List UInt8)} (h : Nm.way P0 (txt pre) = some L) : wl P0 pre = L := by rw [wl, h]; rfl
theorem wrap_last (N n : Nat) (h1 : N = n + 1) (h : n ≤ 1048576) : wrap64 ((N : Int) - 1) = (n : Int) := by unfold wrap64; omega
theorem split_form (p : ByteArray) (hp : p.size ≤ 400) {w2 : World} {base : Nat} {v : Value} (hR : Kd.R Kd.string 9 w2 base (fun _ => True) v (Sp.textsB p)) :
    ∃ g N n cap, v = .slice (some ⟨g, 0, none⟩) N cap ∧ N = n + 1 ∧ g < w2.heap.size ∧ base ≤ g ∧ N ≤ cap ∧ n ≤ 400 ∧
      w2.ownsRow base 9 1 (.slice (some ⟨g, 0, none⟩) n cap) (Nm.texts p.data.toList).dropLast.length (rowV (Nm.texts p.data.toList).dropLast) := by
  obtain ⟨n, hn⟩ : ∃ n, (Nm.texts p.data.toList).length = n + 1 := ⟨(Nm.texts p.data.toList).length - 1, by have := List.length_pos_iff.2 (Nm.texts_ne p.data.toList); omega⟩
  have hrow0 : w2.ownsRow base 9 1 v (Nm.texts p.data.toList).length (rowV (Nm.texts p.data.toList)) := by
    have := Kd.own_of_R hR
    rw [Sp.textsB, List.length_map, rowV_encs] at this
    exact this
  rw [hn] at hrow0
  obtain ⟨g, cap, rfl⟩ := ownsRow_succ hrow0
  have hnl : n ≤ 400 := by
    have := Nm.pieces_length p.data.toList 0
    have h2 := Sp.len_eq p
    have h3 : (Nm.texts p.data.toList).length = (Nm.pieces 0 p.data.toList).length := by simp [Nm.texts]
    omega
  exact ⟨g, n + 1, n, cap, rfl, rfl, Kd.R_lt hR g rfl, Kd.R_base hR g rfl, (Kd.R_reads' hR).2.1, hnl, own_last (n := n + 1) (by rw [hn]; exact hrow0) n (by rw [hn]; rfl)⟩
theorem len_tot (L : List (List UInt8)) : L.length ≤ Nm.totL L := by
  induction L with
  | nil => exact Nat.le_refl _
  | cons x r ih => simp only [Nm.totL, List.map_cons, List.sum_cons, List.length_cons] at ih ⊢; omega
theorem len_zero {α : Type} {l : List α} (h : ((l.length : Int) == 0) = true) : l = [] := by
  have : (l.length : Int) = 0 := by simpa using h
  exact List.eq_nil_of_length_eq_zero (by omega)
theorem own_any (A : Option Addr) (n m c : Nat) : (Value.slice A n c).ownBlock = (Value.slice A m c).ownBlock := by cases A <;> rfl
theorem rowV_snoc (L : List (List UInt8)) (x : ByteArray) : rowV (L ++ [x.data.toList]) = rowV L ++ [.string x] := by simp [rowV]; rfl
theorem wl_len {P0 : List (List UInt8)} {pre : List (Nat × ByteArray)} {q : ByteArray} (h : Nm.way P0 (txt pre) = some (wl P0 pre)) (h0 : P0.length ≤ 400) (hq : q.size ≤ 400) (hl : pre.length < (piecesB 0 q.data.toList).length) : (wl P0 pre).length ≤ 1048576 := by
  have h1 := Nm.way_len _ _ _ h
  have h2 : (txt pre).length = pre.length := by simp [txt]
  have h3 : (piecesB 0 q.data.toList).length = (Nm.pieces 0 q.data.toList).length := by simp [piecesB]
  have h4 := Nm.pieces_length q.data.toList 0
  have h5 := Sp.len_eq q
  omega
theorem two_box (W : World) (b : Nat) {v1 v2 u1 u2 : Value} {t1 t2 : TypeId} (h1 : Boxed W b t1 u1) (h2 : Boxed W (b + 1) t2 u2) :
    Boxed ((W.setCell ⟨b, 0, none⟩ v1).setCell ⟨b + 1, 0, none⟩ v2) b t1 v1 ∧ Boxed ((W.setCell ⟨b, 0, none⟩ v1).setCell ⟨b + 1, 0, none⟩ v2) (b + 1) t2 v2 :=
  ⟨box_far (Boxed.set v1 h1) (by omega), Boxed.set v2 (box_far h2 (by omega))⟩
set_option maxRecDepth 100000 in
set_option maxHeartbeats 4000000 in
theorem lead_bad (p q : ByteArray) (e : Nat) (he : (Nm.check p.data.toList).2 = e) (h0 : e ≠ 0) (w : World) :
    Calls Tryd.prog 59 #[.string p, .string q] w fun e_ w' => e_ = .returned (.tuple #[.string ⟨#[]⟩, .int .i64 e]) ∧ Below w.heap.size w w' := by
  have b1 := Boxed.new w 9 (.string ⟨#[]⟩)
  have b2 := Boxed.new (w.alloc (.cells #[.string ⟨#[]⟩] 9)) 28 (.int .i64 0)
  rw [World.size_alloc] at b2
  have hB0 : Below w.heap.size w ((w.alloc (.cells #[.string ⟨#[]⟩] 9)).alloc (.cells #[.int .i64 0] 28)) := ((Below.refl _ w).alloc (Nat.le_refl _) _).alloc (by simp) _
  have hne : ((e : Int) != 0) = true := by simp; omega
  refine (callsIn_wide (n := 3)).1 ?_
  refine callsIn_of_wp_marks Tryd.func59 rfl trivial ?_ rfl
  simp only [Tryd.ntmps59, List.size_toArray, List.length_cons, List.length_nil, Nat.reduceAdd, Nat.reduceSub, Array.replicate_succ, Array.replicate_zero, List.push_toArray, List.append_toArray, List.nil_append, List.cons_append]
  gi_wp2_with fail
  refine ⟨trivial, ?_⟩
  refine (callsIn_wide.2 (check_any _ _)).mono ?_
  rintro e w1 ⟨rfl, hB1⟩
  rw [he]
  have hb1 := box_below (b1.alloc (.cells #[.int .i64 0] 28)) hB1
  have hb2 := box_below b2 hB1
  have c1 := hb1.cell
  have c2 := hb2.cell
  have f1 := hb1.frozen
  have f2 := hb2.frozen
  gi_wp2_with fail
  obtain ⟨r1, r2⟩ := two_box w1 w.heap.size (v1 := .string ⟨#[]⟩) (v2 := .int .i64 e) hb1 hb2
  have r1' := r1.cell
  have r2' := r2.cell
  refine ⟨.tuple #[.string ⟨#[]⟩, .int .i64 e], ?_, rfl, below_two w1 _ _ (hB0.trans (hB1.mono (by simp; omega)))⟩
  simp [results, Tryd.f59, go_sem, r1', r2']
set_option maxRecDepth 100000 in
set_option maxHeartbeats 4000000 in
theorem lead_walk (p q : ByteArray) (he : (Nm.check p.data.toList).2 = 0) (w : World) :
    Calls Tryd.prog 59 #[.string p, .string q] w fun e_ w' => e_ = .returned (.tuple #[.string (bytesOfL (Nm.lead p.data.toList q.data.toList).1), .int .i64 ((Nm.lead p.data.toList q.data.toList).2 : Int)]) ∧ Below w.heap.size w w' := by
  have b1 := Boxed.new w 9 (.string ⟨#[]⟩)
  have b2 := Boxed.new (w.alloc (.cells #[.string ⟨#[]⟩] 9)) 28 (.int .i64 0)
  rw [World.size_alloc] at b2
  have hB0 : Below w.heap.size w ((w.alloc (.cells #[.string ⟨#[]⟩] 9)).alloc (.cells #[.int .i64 0] 28)) := ((Below.refl _ w).alloc (Nat.le_refl _) _).alloc (by simp) _
  have hne : (((0 : Nat) : Int) != 0) = false := rfl
  refine (callsIn_wide (n := 3)).1 ?_
  refine callsIn_of_wp_marks Tryd.func59 rfl trivial ?_ rfl
  simp only [Tryd.ntmps59, List.size_toArray, List.length_cons, List.length_nil, Nat.reduceAdd, Nat.reduceSub, Array.replicate_succ, Array.replicate_zero, List.push_toArray, List.append_toArray, List.nil_append, List.cons_append]
  gi_wp2_with fail
  refine ⟨trivial, ?_⟩
  refine (callsIn_wide.2 (check_any _ _)).mono ?_
  rintro e w1 ⟨rfl, hB1⟩
  rw [he]
  have hb1 := box_below (b1.alloc (.cells #[.int .i64 0] 28)) hB1
  have hb2 := box_below b2 hB1
  have c1 := hb1.cell
  have c2 := hb2.cell
  have f1 := hb1.frozen
  have f2 := hb2.frozen
  have hBw : Below w.heap.size w w1 := hB0.trans (hB1.mono (by simp; omega))
  have hlq : q.data.toList.length = q.size := Sp.len_eq q
  by_cases q1 : q.toList.isEmpty = true
  · have lead_80_ : Nm.lead p.data.toList q.data.toList = ([], 80) := by
      have : q.data.toList = [] := by rw [← Lib.toList_data]; simpa using q1
      simp [Nm.lead, he, this]
    gi_wp2_with fail
    obtain ⟨r1, r2⟩ := two_box w1 w.heap.size (v1 := .string ⟨#[]⟩) (v2 := .int .i64 80) hb1 hb2
    have r1' := r1.cell
    have r2' := r2.cell
    have hlead : Nm.lead p.data.toList q.data.toList = ([], 80) := lead_80_
    rw [hlead]
    refine ⟨.tuple #[.string ⟨#[]⟩, .int .i64 80], ?_, rfl, below_two w1 _ _ hBw⟩
    simp [results, Tryd.f59, go_sem, r1', r2']
  replace q1 : q.toList.isEmpty = false := by simpa using q1
  have hq1 : q.data.toList ≠ [] := by rw [← Lib.toList_data]; simpa using q1
  by_cases q2 : decide (400 < (q.size : Int)) = true
  · have lead_2_ : Nm.lead p.data.toList q.data.toList = ([], 2) := by
      have : 400 < q.data.toList.length := by rw [hlq]; have := of_decide_eq_true q2; omega
      simp only [Nm.lead, he, hq1, this, if_true, if_false, ne_eq, not_true_eq_false]
    gi_wp2_with fail
    obtain ⟨r1, r2⟩ := two_box w1 w.heap.size (v1 := .string ⟨#[]⟩) (v2 := .int .i64 2) hb1 hb2
    have r1' := r1.cell
    have r2' := r2.cell
    have hlead : Nm.lead p.data.toList q.data.toList = ([], 2) := lead_2_
    rw [hlead]
    refine ⟨.tuple #[.string ⟨#[]⟩, .int .i64 2], ?_, rfl, below_two w1 _ _ hBw⟩
    simp [results, Tryd.f59, go_sem, r1', r2']
  replace q2 : decide (400 < (q.size : Int)) = false := by simpa using q2
  have hq2 : ¬ 400 < q.data.toList.length := by rw [hlq]; have := of_decide_eq_false q2; omega
  have qs : 0 < q.size := by have := List.length_pos_iff.2 hq1; omega
  gi_wp2_with fail
  refine ⟨trivial, ?_⟩
  refine (callsIn_wide.2 (ibyte _ 0 _)).mono ?_
  rintro e w' ⟨rfl, rfl⟩
  by_cases q3 : decide (0 ≤ Lib.indexByte q.data.toList 0) = true
  · have lead_82_ : Nm.lead p.data.toList q.data.toList = ([], 82) := by
      have := of_decide_eq_true q3
      simp only [Nm.lead, he, hq1, hq2, this, if_true, if_false, ne_eq, not_true_eq_false]
    gi_wp2_with fail
    obtain ⟨r1, r2⟩ := two_box w1 w.heap.size (v1 := .string ⟨#[]⟩) (v2 := .int .i64 82) hb1 hb2
    have r1' := r1.cell
    have r2' := r2.cell
    have hlead : Nm.lead p.data.toList q.data.toList = ([], 82) := lead_82_
    rw [hlead]
    refine ⟨.tuple #[.string ⟨#[]⟩, .int .i64 82], ?_, rfl, below_two w1 _ _ hBw⟩
    simp [results, Tryd.f59, go_sem, r1', r2']
  replace q3 : decide (0 ≤ Lib.indexByte q.data.toList 0) = false := by simpa using q3
  have hq3 := of_decide_eq_false q3
  have hq4 : q.data.toList.head? = some q[0] := by
    rw [List.head?_eq_getElem?, Array.getElem?_toList]
    exact Array.getElem?_eq_getElem qs
  by_cases q4 : (((q[0]'qs).toNat : Int) == 47) = true
  · have lead_83_ : Nm.lead p.data.toList q.data.toList = ([], 83) := by
      have h47 : q[0] = 47 := by
        have : ((q[0]'qs).toNat : Int) = 47 := by simpa using q4
        exact UInt8.toNat_inj.1 (by show (q[0]'qs).toNat = 47; omega)
      have : q.data.toList.head? = some 47 := by rw [hq4, h47]
      simp only [Nm.lead, he, hq1, hq2, hq3, this, if_true, if_false, ne_eq, not_true_eq_false]
    gi_wp2_with fail
    obtain ⟨r1, r2⟩ := two_box w1 w.heap.size (v1 := .string ⟨#[]⟩) (v2 := .int .i64 83) hb1 hb2
    have r1' := r1.cell
    have r2' := r2.cell
    have hlead : Nm.lead p.data.toList q.data.toList = ([], 83) := lead_83_
    rw [hlead]
    refine ⟨.tuple #[.string ⟨#[]⟩, .int .i64 83], ?_, rfl, below_two w1 _ _ hBw⟩
    simp [results, Tryd.f59, go_sem, r1', r2']
  have hlead : Nm.lead p.data.toList q.data.toList = Nm.led (Nm.way (Nm.texts p.data.toList).dropLast (Nm.texts q.data.toList)) := by
    have h47 : ¬ q.data.toList.head? = some 47 := by
      rw [hq4]
      intro e
      injection e with e
      rw [e] at q4
      exact q4 rfl
    simp only [Nm.lead, he, hq1, hq2, hq3, h47, if_false, ne_eq, not_true_eq_false]
  replace q4 : (((q[0]'qs).toNat : Int) == 47) = false := by simpa using q4
  have Hlead := Lib.hid hlead
  have hq400 : q.size ≤ 400 := by omega
  clear hlead hq4 hq3 hq1 hq2
  have hp4 : p.size ≤ 400 := by
    unfold Nm.check at he
    by_cases h : 400 < p.data.toList.length
    · rw [if_pos h] at he; simp at he
    · rw [Sp.len_eq] at h; omega
  gi_wp2_with fail
  refine ⟨trivial, ?_⟩
  refine (callsIn_wide.2 (Sp.split_calls p (by omega) _)).mono ?_
  rintro e w2 ⟨v, rfl, hR, hB2⟩
  obtain ⟨g, N, n, cap, rfl, hNn, hg, hgb, hncap, hnl, hrow1⟩ := split_form p (by omega) hR
  obtain ⟨i0, hi0, hz0, hz1, hz2⟩ := info_parts info_str
  have hcut := cut_to (P := Tryd.prog) 60 9 .i64 Tryd.underlying60 hi0 (some ⟨g, 0, none⟩) N cap (n : Int) (Int.natCast_nonneg n) (by rw [hNn]; exact Int.ofNat_le.2 (Nat.le_succ n)) hncap
  rw [Int.toNat_natCast] at hcut
  have hb1 := box_below hb1 hB2
  have hb2 := box_below hb2 hB2
  have hB3 : Below w.heap.size w w2 := hBw.trans (hB2.mono hBw.size)
  have hw : wrap64 ((N : Int) - 1) = (n : Int) := wrap_last N n hNn (by omega)
  have HNn := Lib.hid hNn
  clear hNn hR
  gi_wp2_with fail
  refine ⟨trivial, ?_⟩
  refine (callsIn_wide.2 (each_any _ _)).mono ?_
  rintro e w3 ⟨rfl, rfl⟩
  gi_wp2_with fail
  have hP0 : (Nm.texts p.data.toList).dropLast.length ≤ 400 := by
    have h3 := hrow1.1
    have := Nm.pieces_length p.data.toList 0
    have h4 : (Nm.texts p.data.toList).length = (Nm.pieces 0 p.data.toList).length := by simp [Nm.texts]
    have h2 := Sp.len_eq p
    rw [List.length_dropLast]
    omega
  obtain ⟨P0, hP⟩ : ∃ P0, (Nm.texts p.data.toList).dropLast = P0 := ⟨_, rfl⟩
  have HP := Lib.hid hP
  rw [hP] at hrow1 hP0
  clear hP
  have hWa : Below w2.heap.size w2 ((w2.alloc (.cells #[.slice (some ⟨g, 0, none⟩) n cap] 60)).alloc (.cells #[.string q] 9)) := ((Below.refl _ w2).alloc (Nat.le_refl _) _).alloc (by simp) _
  have d1 := Boxed.new w2 60 (.slice (some ⟨g, 0, none⟩) n cap)
  have d2 := Boxed.new (w2.alloc (.cells #[.slice (some ⟨g, 0, none⟩) n cap] 60)) 9 (.string q)
  rw [World.size_alloc] at d2
  have d3 := d1.alloc (.cells #[.string q] 9)
  have hb1 := box_below hb1 hWa
  have hb2 := box_below hb2 hWa
  have hB4 := hB3.trans (hWa.mono hB3.size)
  have hrow2 := (hrow1.alloc (.cells #[.slice (some ⟨g, 0, none⟩) n cap] 60)).alloc (.cells #[.string q] 9)
  have hsz : ((w2.alloc (.cells #[.slice (some ⟨g, 0, none⟩) n cap] 60)).alloc (.cells #[.string q] 9)).heap.size = w2.heap.size + 2 := by simp
  have h02 : w.heap.size + 2 ≤ w1.heap.size := by have := hB1.size; simpa using this
  have h12 : w1.heap.size ≤ w2.heap.size := hB2.size
  clear d1 hcut hw hrow1 hB0 hB1 hB2 hBw hB3 hWa hncap hnl HNn c1 c2 f1 f2 b1 b2
  generalize ((w2.alloc (.cells #[.slice (some ⟨g, 0, none⟩) n cap] 60)).alloc (.cells #[.string q] 9)) = w3 at *
  refine wpIn_rangeFunc_ownF rfl (by omega) (gf := 97) (lb := #[.pointer (some ⟨w2.heap.size + 1, 0, none⟩)]) rfl trivial (enters_of Tryd.func97 (by kernel_rfl) rfl)
    (each_stops (3 - 1) (by omega) (w2.heap.size + 1) q (by omega) w3 (by omega) d2.cell) box_t (box_b (by omega)) (Below.refl _ _) (fun _ => rfl)
    (fun pre W => (∃ v, Boxed W w2.heap.size 60 v ∧ W.ownsRow w1.heap.size 9 1 v (wl P0 pre).length (rowV (wl P0 pre)) ∧ (Nm.way P0 (txt pre) = some (wl P0 pre) ∧ v.ownBlock ≠ some (w2.heap.size + 1))) ∧ (Boxed W w.heap.size 9 (.string ⟨#[]⟩) ∧ (Boxed W (w.heap.size + 1) 28 (.int .i64 0) ∧ (Boxed W (w2.heap.size + 1) 9 (.string q) ∧ Below w.heap.size w W))))
    (fun c pre W => (c = .ret ∧ Nm.way P0 (txt pre) = none) ∧ (Boxed W w.heap.size 9 (.string ⟨#[]⟩) ∧ (Boxed W (w.heap.size + 1) 28 (.int .i64 83) ∧ Below w.heap.size w W)))
    (OwnFrom.and (Own.from (holdsRow_own w1.heap.size w2.heap.size 60 9 1 (fun pre => (wl P0 pre).length) (fun pre => rowV (wl P0 pre)) (fun pre v => Nm.way P0 (txt pre) = some (wl P0 pre) ∧ v.ownBlock ≠ some (w2.heap.size + 1))) _)
      (OwnFrom.and (Own.from (boxed_own _ _ _) _) (OwnFrom.and (Own.from (boxed_own _ _ _) _) (OwnFrom.and (Own.from (boxed_own _ _ _) _) (ownFrom_below (Nat.le_refl _) (by omega))))))
    (fun c => OwnFrom.and (fun s A B row hs hg hr => hs) (OwnFrom.and (Own.from (boxed_own _ _ _) _) (OwnFrom.and (Own.from (boxed_own _ _ _) _) (ownFrom_below (Nat.le_refl _) (by omega)))))
    ⟨⟨_, d3, hrow2, rfl, by simp [Value.ownBlock]; omega⟩, hb1, hb2, d2, hB4⟩ ?a1 ?assign ?body ?done ?stop
  case assign =>
    intro l x W K hK
    gi_wp2
    exact hK
  case body =>
    rintro l pre x W ⟨⟨v, hv, hrow, hway, hvo⟩, hr1, hr2, hbe, hB⟩ hlen
    obtain ⟨A, c, rfl, hAc⟩ := Jn.own_slice hrow
    have hc1 := hv.cell
    have hf1 := hv.frozen
    have es := Lib.hid (Lib.toList_data x.2)
    have hwl : (wl P0 pre).length ≤ 1048576 := wl_len hway hP0 (by omega) hlen
    by_cases q5 : x.2.toList.isEmpty = true
    · have hw2 : Nm.way P0 (txt (pre ++ [x])) = some (wl P0 pre) := by rw [txt_snoc, Nm.way_snoc hway]; exact Nm.way_empty _ (by rw [← es.out]; exact q5)
      as_aux_lemma =>
      have Hw2 := Lib.hid hw2
      clear hw2
      gi_wp2
      exact ⟨KeepsOthers.refl _, rfl, ⟨_, hv, by rw [wl_of Hw2.out]; exact hrow, by rw [wl_of Hw2.out]; exact Hw2.out, hvo⟩, hr1, hr2, hbe, hB⟩
    replace q5 : x.2.toList.isEmpty = false := by simpa using q5
    by_cases q6 : (x.2.toList == [46]) = true
    · have hw2 : Nm.way P0 (txt (pre ++ [x])) = some (wl P0 pre) := by rw [txt_snoc, Nm.way_snoc hway]; exact Nm.way_dot _ (by rw [← es.out]; exact q6)
      as_aux_lemma =>
      have Hw2 := Lib.hid hw2
      clear hw2
      gi_wp2
      exact ⟨KeepsOthers.refl _, rfl, ⟨_, hv, by rw [wl_of Hw2.out]; exact hrow, by rw [wl_of Hw2.out]; exact Hw2.out, hvo⟩, hr1, hr2, hbe, hB⟩
    replace q6 : (x.2.toList == [46]) = false := by simpa using q6
    by_cases q7 : (x.2.toList == [46, 46]) = true
    · have hw2 : Nm.way P0 (txt (pre ++ [x])) = if wl P0 pre = [] then none else some (wl P0 pre).dropLast := by rw [txt_snoc, Nm.way_snoc hway]; exact Nm.way_up _ (by rw [← es.out]; exact q7)
      by_cases q8 : (((wl P0 pre).length : Int) == 0) = true
      · have hnil : wl P0 pre = [] := len_zero q8
        rw [if_pos hnil] at hw2
        as_aux_lemma =>
        have Hw2 := Lib.hid hw2
        clear hw2 hnil
        have c1 := hr1.cell
        have f1 := hr1.frozen
        have c2 := hr2.cell
        have f2 := hr2.frozen
        obtain ⟨r1, r2⟩ := two_box W w.heap.size (v1 := .string ⟨#[]⟩) (v2 := .int .i64 83) hr1 hr2
        have R1 := Lib.hid r1
        have R2 := Lib.hid r2
        clear r1 r2
        gi_wp2
        exact ⟨keeps_two _ _ _ _, ⟨rfl, Hw2.out⟩, R1.out, R2.out, below_two W _ _ hB⟩
      · have hnil : wl P0 pre ≠ [] := fun e => by rw [e] at q8; exact q8 rfl
        rw [if_neg hnil] at hw2
        replace q8 : (((wl P0 pre).length : Int) == 0) = false := by simpa using q8
        obtain ⟨m, hm⟩ : ∃ m, (wl P0 pre).length = m + 1 := ⟨(wl P0 pre).length - 1, by have := List.length_pos_iff.2 hnil; omega⟩
        as_aux_lemma =>
        have hcut := cut_to (P := Tryd.prog) 60 9 .i64 Tryd.underlying60 hi0 A (wl P0 pre).length c (((wl P0 pre).length : Int) - 1) (by omega) (by omega) hAc
        have hjt : (((wl P0 pre).length : Int) - 1).toNat = (wl P0 pre).length - 1 := by omega
        rw [hjt] at hcut
        clear hjt
        have hr := own_last hrow _ rfl
        have Hw2 := Lib.hid hw2
        have Hr := Lib.hid hr
        clear hw2 hnil hm hr
        gi_wp2
        refine ⟨KeepsOthers.setCell _ _ _, World.cell?_setCell_far _ _ _ _ (by simp), ⟨.slice A ((wl P0 pre).length - 1) c, Boxed.set _ hv, ?_, by rw [wl_of Hw2.out]; exact Hw2.out, by rw [own_any A _ (wl P0 pre).length c]; exact hvo⟩, box_far hr1 (by omega), box_far hr2 (by omega), box_far hbe (by omega), hB.setCell (p := ⟨w2.heap.size, 0, none⟩) (by show w.heap.size ≤ w2.heap.size; omega) _⟩
        rw [wl_of Hw2.out]
        exact Hr.out.kept (grownBy_setCell' W w2.heap.size _) (.inr (hv.not_row (by decide) Hr.out).symm)
    replace q7 : (x.2.toList == [46, 46]) = false := by simpa using q7
    have hw2 : Nm.way P0 (txt (pre ++ [x])) = some (wl P0 pre ++ [x.2.data.toList]) := by
      rw [txt_snoc, Nm.way_snoc hway]
      exact Nm.way_part _ (by rw [← es.out]; exact q5) (by rw [← es.out]; exact q6) (by rw [← es.out]; exact q7)
    as_aux_lemma =>
    have Hw2 := Lib.hid hw2
    clear hw2
    have k1 : (wl P0 pre).length + 1 ≤ maxLen := by simp only [maxLen]; omega
    have k2 : ((wl P0 pre).length + 1) * 16 ≤ 140737488355328 := by omega
    have k3 : w1.heap.size ≤ W.heap.size := by have := hbe.lt; omega
    have k4 : w1.heap.size ≤ (W.alloc (.cells #[.string x.2] 9)).heap.size := by simp; omega
    have K1 := Lib.hid k1
    have K2 := Lib.hid k2
    clear k1 k2
    gi_wp2_with (gi_at_builtin; refine append_at _ rfl _ _ 60 rfl w1.heap.size 9 i0 (.string ⟨#[]⟩) 1 16 Tryd.underlying60 hi0 hz0 hz1 hz2 rfl (by decide) _ _ _ rfl (hrow.alloc _) ⟨W.heap.size, 0, none⟩ 1 1 [.string x.2] rfl rfl (cell_one_new _ _ _) (by simp [Value.oneCell']) K1.out K2.out k4 ?_; intro v' w1' hown' hgrow hat; obtain ⟨g', cap', rfl⟩ := ownsRow_succ hown'; obtain ⟨hv1, hv2, hr2', hk2, hb2'⟩ := hv.appended (by decide) hrow k3 h12 hown' hgrow; have hc1' := hv1.cell; have hf1' := hv1.frozen)
    have e1 : wl P0 (pre ++ [x]) = wl P0 pre ++ [x.2.data.toList] := wl_of Hw2.out
    have g1 := ((hr1.alloc (.cells #[.string x.2] 9)).kept hgrow (fun e => by have := own_base hrow _ e.symm; omega))
    have g2 := ((hr2.alloc (.cells #[.string x.2] 9)).kept hgrow (fun e => by have := own_base hrow _ e.symm; omega))
    have g3 := ((hbe.alloc (.cells #[.string x.2] 9)).kept hgrow (Ne.symm hvo))
    refine ⟨hk2, ((box_far g3 (by omega)).cell).trans hbe.cell.symm, ⟨_, hv2, ?_, by rw [e1]; exact Hw2.out, ?_⟩, box_far g1 (by omega), box_far g2 (by omega), box_far g3 (by omega), hB.trans (hb2'.mono (by omega))⟩
    · rw [e1, rowV_snoc, List.length_append]
      exact hr2'
    · have hlt := hbe.lt
      rcases hat with hat | hat
      · rw [hat]; exact hvo
      · rw [hat, World.size_alloc]
        intro e
        injection e with e
        omega
  case done =>
    rintro D ys W hD rfl ⟨⟨v, hv, hrow, hway, hvo⟩, hr1, hr2, hbe, hB⟩ hK
    obtain ⟨A, c, rfl, hAc⟩ := Jn.own_slice hrow
    have hc1 := hv.cell
    rw [txt_all] at hway
    have hld : Nm.lead p.data.toList q.data.toList = (Nm.joinT (wl P0 (piecesB 0 q.data.toList)), 0) := by
      rw [Hlead.out, HP.out, hway]
      rfl
    have hlw : Nm.totL (wl P0 (piecesB 0 q.data.toList)) ≤ 1048576 := by
      have h1 := Nm.way_tot _ _ _ hway
      have h2 : Nm.totL P0 ≤ p.data.toList.length + 1 := by rw [← HP.out, ← Nm.totL_texts]; exact Nm.totL_dropLast _
      rw [Nm.totL_texts] at h1
      have h3 := Sp.len_eq p
      omega
    have hll : (wl P0 (piecesB 0 q.data.toList)).length ≤ 1048576 := Nat.le_trans (len_tot _) hlw
    generalize wl P0 (piecesB 0 q.data.toList) = L at *
    gi_wp2_with fail
    refine ⟨trivial, ?_⟩
    refine (callsIn_wide.2 (join_own hrow (by omega) (by omega))).mono ?_
    rintro e w4 ⟨rfl, hBj⟩
    have hr1 := box_below hr1 hBj
    have hr2 := box_below hr2 hBj
    have hK4 : w4.heap[D]? = some (.deferred (some [])) := (hBj.block D (Array.getElem?_eq_some_iff.1 hK).1).trans hK
    have c1 := hr1.cell
    have f1 := hr1.frozen
    have c2 := hr2.cell
    have f2 := hr2.frozen
    have hB5 := hB.trans (hBj.mono hB.size)
    gi_wp2_with fail
    have hK' := (keeps_two w4 w.heap.size (.string (bytesOfL (Nm.joinT L))) (.int .i64 0)).same D _ hK4 rfl
    obtain ⟨r1, r2⟩ := two_box w4 w.heap.size (v1 := .string (bytesOfL (Nm.joinT L))) (v2 := .int .i64 0) hr1 hr2
    refine ⟨by simp, .inl ⟨_, _, rfl, run_takeDeferred hK', ?_⟩⟩
    have hc5 := cell_kept r1.cell (grownBy_putObj' _ D (.deferred none)) (fun r e => by cases e; exact ⟨_, hK', rfl⟩)
    have hc6 := cell_kept r2.cell (grownBy_putObj' _ D (.deferred none)) (fun r e => by cases e; exact ⟨_, hK', rfl⟩)
    refine ⟨.tuple #[.string (bytesOfL (Nm.joinT L)), .int .i64 0], ?_, by rw [hld]; rfl, (below_two w4 _ _ hB5).trans (belowK_b (w := w) (Nat.le_refl _) _ D _ _ (by omega) hK' rfl rfl)⟩
    simp [results, Tryd.f59, go_sem, hc5, hc6]
  case stop =>
    rintro D c pre W hD hpre ⟨⟨rfl, hway⟩, hr1, hr2, hB⟩ hK
    have hld : Nm.lead p.data.toList q.data.toList = ([], 83) := by
      obtain ⟨r, hr⟩ := hpre
      have : Nm.way P0 (Nm.texts q.data.toList) = none := by
        rw [← txt_all, ← hr]
        have e : txt (pre ++ r) = txt pre ++ txt r := by simp [txt]
        rw [e]
        exact Nm.way_none_prefix hway
      rw [Hlead.out, HP.out, this]
      rfl
    gi_wp2_with fail
    refine ⟨by simp, .inl ⟨_, _, rfl, run_takeDeferred hK, ?_⟩⟩
    have hc5 := cell_kept hr1.cell (grownBy_putObj' _ D (.deferred none)) (fun r e => by cases e; exact ⟨_, hK, rfl⟩)
    have hc6 := cell_kept hr2.cell (grownBy_putObj' _ D (.deferred none)) (fun r e => by cases e; exact ⟨_, hK, rfl⟩)
    refine ⟨.tuple #[.string ⟨#[]⟩, .int .i64 83], ?_, by rw [hld]; rfl, hB.trans (belowK_b (w := w) (Nat.le_refl _) W D _ _ (by omega) hK rfl rfl)⟩
    simp [results, Tryd.f59, go_sem, hc5, hc6]
theorem lead_any (p q : ByteArray) (w : World) :
    Calls Tryd.prog 59 #[.string p, .string q] w fun e_ w' => e_ = .returned (.tuple #[.string (bytesOfL (Nm.lead p.data.toList q.data.toList).1), .int .i64 ((Nm.lead p.data.toList q.data.toList).2 : Int)]) ∧ Below w.heap.size w w' := by
  by_cases h : (Nm.check p.data.toList).2 = 0
  · exact lead_walk p q h w
  · have e : Nm.lead p.data.toList q.data.toList = ([], (Nm.check p.data.toList).2) := by simp only [Nm.lead, h, ne_eq, not_false_eq_true, if_true]
    rw [e]
    exact lead_bad p q _ rfl h w
end Go.Proofs.YthpecpkncifngaaDoor.LeadW
end

-- PRINTED by print.py (a twelfth state) out of the translation. Not trusted: Lean checks it.
section
namespace Go.Proofs.YthpecpkncifngaaDoor.X
open Go.RowKit Go.Proofs.YthpecpkncifngaaDoorW.PrintWords Go.Proofs.YthpecpkncifngaaDoorW.PrintLast Go.Proofs.YthpecpkncifngaaDoorW.PrintMore
attribute [local go_sem] max2_int min2_int max_two min_two max_three min_three max_four min_four   -- for this text's walks alone
def errW : Option Int → Value
  | none => .nilIface
  | some c => .iface 0 (.int .i64 c)
theorem errW_none : errW none = .nilIface := rfl
theorem errW_some (c : Int) : errW (some c) = .iface 0 (.int .i64 c) := rfl
theorem info5 : (Tryd.prog.info? 5).map (fun i => (i.zero, i.size, i.bytes)) = some (some (.int .u8 0), 1, 1) := by kernel_rfl
theorem info9 : (Tryd.prog.info? 9).map (fun i => (i.zero, i.size, i.bytes)) = some (some (.string ⟨#[]⟩), 1, 16) := by kernel_rfl
theorem info26 : (Tryd.prog.info? 26).map (fun i => (i.zero, i.size, i.bytes)) = some (some (.agg #[(.string ⟨#[]⟩), (.int .u8 0), (.int .i64 0), (.int .i64 0), (.slice none 0 0), (.string ⟨#[]⟩)]), 6, 80) := by kernel_rfl
-- the values' own types
structure S26 where
  f0 : ByteArray
  f1 : Int
  f2 : Int
  f3 : Int
  f4 : (List Int)
  f5 : ByteArray
def z26 : S26 := ⟨(⟨#[]⟩ : ByteArray), (0 : Int), (0 : Int), (0 : Int), ([] : List Int), (⟨#[]⟩ : ByteArray)⟩
def k26 : Kd S26 := Kd.iso (Kd.pair Kd.string (Kd.pair (Kd.int .u8) (Kd.pair (Kd.int .i64) (Kd.pair (Kd.int .i64) (Kd.pair (Kd.slice 5 (Kd.int .u8)) Kd.string))))) (fun x : S26 => (x.f0, x.f1, x.f2, x.f3, x.f4, x.f5))
theorem k26_open {w : World} {x : S26} {cs : List Value} (h : k26.K w x cs) : ∃ A4 c4, cs = [.string x.f0, .int .u8 x.f1, .int .i64 x.f2, .int .i64 x.f3, .slice A4 x.f4.length c4, .string x.f5] ∧ x.f4.length ≤ c4 ∧ (Kd.int .u8).C w A4 x.f4.length x.f4 := by
  obtain ⟨_, _, rfl, rfl, ⟨_, _, rfl, rfl, ⟨_, _, rfl, rfl, ⟨_, _, rfl, rfl, ⟨_, _, rfl, ⟨A4, c4, rfl, l4, g4⟩, rfl⟩⟩⟩⟩⟩ := h
  exact ⟨A4, c4, rfl, l4, g4⟩
theorem k26_mk (w : World) (x : S26) {A4 : Option Addr} {c4 : Nat} (l4 : x.f4.length ≤ c4) (g4 : (Kd.int .u8).C w A4 x.f4.length x.f4) : k26.K w x [.string x.f0, .int .u8 x.f1, .int .i64 x.f2, .int .i64 x.f3, .slice A4 x.f4.length c4, .string x.f5] := ⟨[.string x.f0], [.int .u8 x.f1, .int .i64 x.f2, .int .i64 x.f3, .slice A4 x.f4.length c4, .string x.f5], rfl, rfl, ⟨[.int .u8 x.f1], [.int .i64 x.f2, .int .i64 x.f3, .slice A4 x.f4.length c4, .string x.f5], rfl, rfl, ⟨[.int .i64 x.f2], [.int .i64 x.f3, .slice A4 x.f4.length c4, .string x.f5], rfl, rfl, ⟨[.int .i64 x.f3], [.slice A4 x.f4.length c4, .string x.f5], rfl, rfl, ⟨[.slice A4 x.f4.length c4], [.string x.f5], rfl, ⟨A4, c4, rfl, l4, g4⟩, rfl⟩⟩⟩⟩⟩
theorem k26_mkF (W : World) (ok : Nat → Prop) (x : S26) {A4 : Option Addr} {c4 : Nat} (l4 : x.f4.length ≤ c4) (g4 : Kd.F (Kd.int .u8) W ok A4 x.f4.length x.f4) : Kd.FK k26 W ok x [.string x.f0, .int .u8 x.f1, .int .i64 x.f2, .int .i64 x.f3, .slice A4 x.f4.length c4, .string x.f5] := fun W2 hW => k26_mk W2 x l4 (g4 W2 hW)
def rd_T26 (xs : List S26) (i : Int) : S26 := xs.getD i.toNat z26
theorem at_T26 {w : World} {A : Option Addr} {n : Nat} {xs : List S26} (h : Kd.C k26 w A n xs) (i : Int) (h0 : 0 ≤ i) (h1 : i < n) : ∃ ad A4 c4, A = some ad ∧ w.cell? (ad.add (i.toNat * 6)) = some (.string (rd_T26 xs i).f0) ∧ w.cell? ⟨(ad.add (i.toNat * 6)).block, (ad.add (i.toNat * 6)).off + 1, none⟩ = some (.int .u8 (rd_T26 xs i).f1) ∧ w.cell? ⟨(ad.add (i.toNat * 6)).block, (ad.add (i.toNat * 6)).off + 2, none⟩ = some (.int .i64 (rd_T26 xs i).f2) ∧ w.cell? ⟨(ad.add (i.toNat * 6)).block, (ad.add (i.toNat * 6)).off + 3, none⟩ = some (.int .i64 (rd_T26 xs i).f3) ∧ w.cell? ⟨(ad.add (i.toNat * 6)).block, (ad.add (i.toNat * 6)).off + 4, none⟩ = some (.slice A4 (rd_T26 xs i).f4.length c4) ∧ w.cell? ⟨(ad.add (i.toNat * 6)).block, (ad.add (i.toNat * 6)).off + 5, none⟩ = some (.string (rd_T26 xs i).f5) ∧ (rd_T26 xs i).f4.length ≤ c4 ∧ (Kd.int .u8).C w A4 (rd_T26 xs i).f4.length (rd_T26 xs i).f4 := by
  obtain ⟨ad, c, e, _, hK, hc0⟩ := Kd.C_get h z26 i h0 h1
  have hc : ∀ j u, c[j]? = some u → w.cell? (ad.add (i.toNat * 6 + j)) = some u := hc0
  obtain ⟨A4, c4, rfl, l4, g4⟩ := k26_open hK
  exact ⟨ad, A4, c4, e, hc 0 _ rfl, by rw [← add_field _ _ 1 (by omega)]; exact hc 1 _ rfl, by rw [← add_field _ _ 2 (by omega)]; exact hc 2 _ rfl, by rw [← add_field _ _ 3 (by omega)]; exact hc 3 _ rfl, by rw [← add_field _ _ 4 (by omega)]; exact hc 4 _ rfl, by rw [← add_field _ _ 5 (by omega)]; exact hc 5 _ rfl, l4, g4⟩
end Go.Proofs.YthpecpkncifngaaDoor.X
end

/- The contracts of slices.IndexFunc at items, and of tree.Find. -/
section
namespace Go.Proofs.YthpecpkncifngaaDoor.X
open Go.RowKit Go.Shelf Go.Proofs.YthpecpkncifngaaDoor Go.Proofs.YthpecpkncifngaaDoorW.PrintWords Go.Proofs.YthpecpkncifngaaDoorW.PrintLast Go.Proofs.YthpecpkncifngaaDoorW.PrintMore
def cellsIt (x : S26) (A4 : Option Addr) (c4 : Nat) : Array Value := #[.string x.f0, .int .u8 x.f1, .int .i64 x.f2, .int .i64 x.f3, .slice A4 x.f4.length c4, .string x.f5]
theorem at_it {w W : World} {A : Option Addr} {n : Nat} {xs : List S26} (h : Kd.C k26 w A n xs) (hb : Below w.heap.size w W) (i : Nat) (h1 : i < n) :
    ∃ ad A4 c4, A = some ad ∧ W.cell? (ad.add (i * 6)) = some (.string (rd_T26 xs i).f0) ∧ W.cell? ⟨(ad.add (i * 6)).block, (ad.add (i * 6)).off + 1, none⟩ = some (.int .u8 (rd_T26 xs i).f1) ∧ W.cell? ⟨(ad.add (i * 6)).block, (ad.add (i * 6)).off + 2, none⟩ = some (.int .i64 (rd_T26 xs i).f2) ∧ W.cell? ⟨(ad.add (i * 6)).block, (ad.add (i * 6)).off + 3, none⟩ = some (.int .i64 (rd_T26 xs i).f3) ∧ W.cell? ⟨(ad.add (i * 6)).block, (ad.add (i * 6)).off + 4, none⟩ = some (.slice A4 (rd_T26 xs i).f4.length c4) ∧ W.cell? ⟨(ad.add (i * 6)).block, (ad.add (i * 6)).off + 5, none⟩ = some (.string (rd_T26 xs i).f5) ∧ (rd_T26 xs i).f4.length ≤ c4 ∧ (Kd.int .u8).C W A4 (rd_T26 xs i).f4.length (rd_T26 xs i).f4 := by
  obtain ⟨ad, A4, c4, e, h0, h1', h2, h3, h4, h5, hl, hr⟩ := at_T26 h (i : Int) (by omega) (by omega)
  rw [Int.toNat_natCast] at h0 h1' h2 h3 h4 h5
  have st : ∀ {a : Addr} {v : Value}, w.cell? a = some v → W.cell? a = some v := fun {a v} hv => (hb.cell (World.block_lt_of_cell? w _ hv)).trans hv
  exact ⟨ad, A4, c4, e, st h0, st h1', st h2, st h3, st h4, st h5, hl, Kd.C_below hr hb⟩
def idxP (p : S26 → Bool) (xs : List S26) : Nat → Int
  | k => if h : k < xs.length then (if p (rd_T26 xs k) then (k : Int) else idxP p xs (k + 1)) else -1
termination_by k => xs.length - k
theorem idxP_yes {p : S26 → Bool} {xs : List S26} {k : Nat} (h : k < xs.length) (hp : p (rd_T26 xs k) = true) : idxP p xs k = (k : Int) := by rw [idxP, dif_pos h, if_pos hp]
theorem idxP_no {p : S26 → Bool} {xs : List S26} {k : Nat} (h : k < xs.length) (hp : p (rd_T26 xs k) = false) : idxP p xs k = idxP p xs (k + 1) := by rw [idxP, dif_pos h, if_neg (by simp [hp])]
theorem idxP_end {p : S26 → Bool} {xs : List S26} {k : Nat} (h : xs.length ≤ k) : idxP p xs k = -1 := by rw [idxP, dif_neg (by omega)]
def Tells (g : Nat) (cap : Array Value) (p : S26 → Bool) (w : World) : Prop :=
  ∀ (W : World) (x : S26) (A4 : Option Addr) (c4 : Nat), Below w.heap.size w W → x.f4.length ≤ c4 → (Kd.int .u8).C W A4 x.f4.length x.f4 →
    Calls Tryd.prog g (#[.agg (cellsIt x A4 c4)] ++ cap) W fun e w' => e = .returned (.bool (p x)) ∧ Below W.heap.size W w'
set_option maxRecDepth 100000 in
set_option maxHeartbeats 1000000 in
theorem indexFunc_any (cap : Array Value) (p : S26 → Bool) (A : Option Addr) (c : Nat) (xs : List S26) (w : World) (hr : Kd.C k26 w A xs.length xs) (hm : xs.length ≤ 140737488355328) (hp : Tells 64 cap p w) :
    Calls Tryd.prog 63 #[.slice A xs.length c, .func (.func 64) #[] cap] w fun e w' => e = .returned (.int .i64 (idxP p xs 0)) ∧ Below w.heap.size w w' := by
  have HR := Aside0.mk hr
  have HP := Aside0.mk hp
  clear hr hp
  go_enter Tryd.func63, Tryd.ntmps63
  go_wp2
  go_loopw [8] (fun i wr => ∃ k : Nat, k ≤ xs.length ∧ i = .int .i64 k ∧ Hid (idxP p xs 0 = idxP p xs k) ∧ Aside0 (Below w.heap.size w wr)) (fun i _ => xs.length - (intOf i).toNat)
  case atStart => exact ⟨0, Nat.zero_le _, rfl, Lib.hid rfl, ⟨Below.refl _ _⟩⟩
  case round =>
    obtain ⟨k, hk, rfl, hi, hB⟩ := hrel
    by_cases hlt : k < xs.length
    · obtain ⟨ad, A4, c4, rfl, h0, h1, h2, h3, h4, h5, hl, hr4⟩ := at_it HR.out hB.out k hlt
      have HR4 := Aside0.mk hr4
      clear hr4
      have hB' := hB.out
      by_cases hpk : p (rd_T26 xs k) = true
      · have HI := Lib.hid (hi.out.trans (idxP_yes hlt hpk))
        have HK := Lib.hid hpk
        clear hi hpk
        go_wp2_with fail
        refine (HP.out wr _ A4 c4 hB.out hl HR4.out).mono ?_
        rw [HK.out]
        rintro e w1 ⟨rfl, hb⟩
        go_wp2
        go_ret
        exact ⟨by rw [HI.out]; rfl, hB'.trans (hb.mono hB'.size)⟩
      · have hpk' : p (rd_T26 xs k) = false := by simpa using hpk
        have HI := Lib.hid (hi.out.trans (idxP_no hlt hpk'))
        have HK := Lib.hid hpk'
        clear hi hpk hpk'
        go_wp2_with fail
        refine (HP.out wr _ A4 c4 hB.out hl HR4.out).mono ?_
        rw [HK.out]
        rintro e w1 ⟨rfl, hb⟩
        go_wp2
        go_roundw
        case rel => exact ⟨k + 1, by omega, by go_num, HI, ⟨hB'.trans (hb.mono hB'.size)⟩⟩
        case measure => simp [intOf]; omega
    · have HI := Lib.hid (hi.out.trans (idxP_end (by omega)))
      clear hi
      have hB' := hB.out
      go_wp2
      go_ret
      exact ⟨by rw [HI.out]; rfl, hB'⟩
theorem find1_tells (path : ByteArray) (B : Nat) (w : World) (hc : w.cell? ⟨B, 0, none⟩ = some (.string path)) : Tells 64 #[.pointer (some ⟨B, 0, none⟩)] (fun x => x.f0.toList == path.toList) w := by
  intro W x A4 c4 hB hl hr
  have hb := World.block_lt_of_cell? w _ hc
  have hc' := (hB.cell hb).trans hc
  have hbW : B < W.heap.size := Nat.lt_of_lt_of_le hb hB.size
  clear hc
  unfold cellsIt
  go_enter Tryd.func64, Tryd.ntmps64
  go_wp2
  go_ret
  exact ⟨rfl, (Below.refl _ _).alloc (Nat.le_refl _) _⟩
def findP (xs : List S26) (path : ByteArray) : Int × Int := if idxP (fun x => x.f0.toList == path.toList) xs 0 < 0 then (0, 4) else (idxP (fun x => x.f0.toList == path.toList) xs 0, 0)
theorem find_any (A : Option Addr) (c : Nat) (xs : List S26) (path : ByteArray) (w : World) (hr : Kd.C k26 w A xs.length xs) (hm : xs.length ≤ 140737488355328) :
    Calls Tryd.prog 26 #[.slice A xs.length c, .string path] w fun e w' => e = .returned (.tuple #[.int .i64 (findP xs path).1, .int .i64 (findP xs path).2]) ∧ Below w.heap.size w w' := by
  have HR := Aside0.mk hr
  clear hr
  have hB0 : Below w.heap.size w (w.alloc (.cells #[.string path] 9)) := (Below.refl _ w).alloc (Nat.le_refl _) _
  have hcell : (w.alloc (.cells #[.string path] 9)).cell? ⟨w.heap.size, 0, none⟩ = some (.string path) := (cell_new_l w (.string path) 9).1
  have HT := Aside0.mk (find1_tells path w.heap.size _ hcell)
  clear hcell
  go_enter Tryd.func26, Tryd.ntmps26
  go_wp2_with fail
  refine (indexFunc_any _ _ A c xs _ (Kd.C_below HR.out hB0) hm HT.out).mono ?_
  rintro e w1 ⟨rfl, hb⟩
  by_cases hn : idxP (fun x => x.f0.toList == path.toList) xs 0 < 0
  · have hd := decide_eq_true hn
    have HN := Lib.hid hn
    clear hn
    go_wp2
    go_ret2
    exact ⟨by unfold findP; rw [if_pos (by have := HN.out; omega)]; rfl, hB0.trans (hb.mono hB0.size)⟩
  · have hd := decide_eq_false hn
    have HN := Lib.hid hn
    clear hn
    go_wp2
    go_ret2
    exact ⟨by unfold findP; rw [if_neg (by have := HN.out; omega)]; rfl, hB0.trans (hb.mono hB0.size)⟩
end Go.Proofs.YthpecpkncifngaaDoor.X
end

/- The contract of tree.May. -/
section
namespace Go.Proofs.YthpecpkncifngaaDoor.X
open Go.RowKit Go.Shelf Go.Proofs.YthpecpkncifngaaDoor Go.Proofs.YthpecpkncifngaaDoorW.PrintWords Go.Proofs.YthpecpkncifngaaDoorW.PrintLast Go.Proofs.YthpecpkncifngaaDoorW.PrintMore
def plainP (x : S26) : Int := if 65536 < x.f4.length then 2 else 0
theorem plain_any (x : S26) (A4 : Option Addr) (c4 : Nat) (w : World) :
    Calls Tryd.prog 74 #[.agg (cellsIt x A4 c4)] w fun e w' => e = .returned (.int .i64 (plainP x)) ∧ Below w.heap.size w w' := by
  unfold cellsIt
  by_cases h : 65536 < x.f4.length
  · have hd : decide (65536 < x.f4.length) = true := decide_eq_true h
    have hd' : decide ((65536 : Int) < (x.f4.length : Int)) = true := by simp; omega
    have H := Lib.hid h
    clear h
    go_enter Tryd.func74, Tryd.ntmps74
    go_wp2
    go_ret
    exact ⟨by unfold plainP; rw [if_pos H.out]; rfl, (Below.refl _ _).alloc (Nat.le_refl _) _⟩
  · have hd : decide (65536 < x.f4.length) = false := decide_eq_false h
    have hd' : decide ((65536 : Int) < (x.f4.length : Int)) = false := by simp; omega
    have H := Lib.hid h
    clear h
    go_enter Tryd.func74, Tryd.ntmps74
    go_wp2
    go_ret
    exact ⟨by unfold plainP; rw [if_neg H.out]; rfl, (Below.refl _ _).alloc (Nat.le_refl _) _⟩
def hardP (x : S26) : Int := ((Nm.check x.f5.data.toList).2 : Int)
theorem hard_any (x : S26) (A4 : Option Addr) (c4 : Nat) (w : World) :
    Calls Tryd.prog 75 #[.agg (cellsIt x A4 c4)] w fun e w' => e = .returned (.int .i64 (hardP x)) ∧ Below w.heap.size w w' := by
  unfold cellsIt
  go_enter Tryd.func75, Tryd.ntmps75
  go_wp2_with fail
  refine (check_any _ _).mono ?_
  rintro e w1 ⟨rfl, hb⟩
  go_wp2
  go_ret
  exact ⟨rfl, ((Below.refl _ w).alloc (Nat.le_refl _) _).trans (hb.mono (by simp))⟩
def softP (x : S26) : Int := ((Nm.lead x.f0.data.toList x.f5.data.toList).2 : Int)
theorem soft_any (x : S26) (A4 : Option Addr) (c4 : Nat) (w : World) :
    Calls Tryd.prog 76 #[.agg (cellsIt x A4 c4)] w fun e w' => e = .returned (.int .i64 (softP x)) ∧ Below w.heap.size w w' := by
  unfold cellsIt
  go_enter Tryd.func76, Tryd.ntmps76
  go_wp2_with fail
  refine (LeadW.lead_any _ _ _).mono ?_
  rintro e w1 ⟨rfl, hb⟩
  go_wp2
  go_ret
  exact ⟨rfl, ((Below.refl _ w).alloc (Nat.le_refl _) _).trans (hb.mono (by simp))⟩
def ofV (k : Int) : Value :=
  if k = 1 then .tuple #[.agg #[.int .i64 4095, .int .i64 1099511627776, .bool true, .bool false, .func (.func 74) #[] #[]], .bool true]
  else if k = 2 then .tuple #[.agg #[.int .i64 4095, .int .i64 1099511627776, .bool false, .bool false, .func (.func 74) #[] #[]], .bool true]
  else if k = 3 then .tuple #[.agg #[.int .i64 0, .int .i64 0, .bool false, .bool true, .func (.func 75) #[] #[]], .bool true]
  else if k = 4 then .tuple #[.agg #[.int .i64 0, .int .i64 1099511627776, .bool false, .bool true, .func (.func 76) #[] #[]], .bool true]
  else .tuple #[.agg #[.int .i64 0, .int .i64 0, .bool false, .bool false, .nilFunc], .bool false]
set_option maxHeartbeats 1000000 in
theorem of_any (k : Int) (w : World) :
    Calls Tryd.prog 41 #[.int .u8 k] w fun e w' => e = .returned (ofV k) ∧ Below w.heap.size w w' := by
  by_cases h1 : k = 1
  · subst h1
    go_enter Tryd.func41, Tryd.ntmps41
    go_wp2
    refine bodyPost_ret (v := ofV 1) (by simp [results, Tryd.results41, go_sem]; rfl) rfl ⟨rfl, ?_⟩
    exact ((Below.refl _ w).alloc (Nat.le_refl _) _)
  have d1 : (k == (1 : Int)) = false := by simpa using h1
  by_cases h2 : k = 2
  · subst h2
    go_enter Tryd.func41, Tryd.ntmps41
    go_wp2
    refine bodyPost_ret (v := ofV 2) (by simp [results, Tryd.results41, go_sem]; rfl) rfl ⟨rfl, ?_⟩
    exact ((Below.refl _ w).alloc (Nat.le_refl _) _)
  have d2 : (k == (2 : Int)) = false := by simpa using h2
  by_cases h3 : k = 3
  · subst h3
    go_enter Tryd.func41, Tryd.ntmps41
    go_wp2
    refine bodyPost_ret (v := ofV 3) (by simp [results, Tryd.results41, go_sem]; rfl) rfl ⟨rfl, ?_⟩
    exact ((Below.refl _ w).alloc (Nat.le_refl _) _)
  have d3 : (k == (3 : Int)) = false := by simpa using h3
  by_cases h4 : k = 4
  · subst h4
    go_enter Tryd.func41, Tryd.ntmps41
    go_wp2
    refine bodyPost_ret (v := ofV 4) (by simp [results, Tryd.results41, go_sem]; rfl) rfl ⟨rfl, ?_⟩
    exact ((Below.refl _ w).alloc (Nat.le_refl _) _)
  have d4 : (k == (4 : Int)) = false := by simpa using h4
  have e : ofV k = .tuple #[.agg #[.int .i64 0, .int .i64 0, .bool false, .bool false, .nilFunc], .bool false] := by unfold ofV; rw [if_neg h1, if_neg h2, if_neg h3, if_neg h4]
  rw [e]
  clear e h1 h2 h3 h4
  go_enter Tryd.func41, Tryd.ntmps41
  go_wp2
  refine bodyPost_ret (v := .tuple #[.agg #[.int .i64 0, .int .i64 0, .bool false, .bool false, .nilFunc], .bool false]) (by simp [results, Tryd.results41, go_sem]) rfl ⟨rfl, ?_⟩
  exact ((Below.refl _ w).alloc (Nat.le_refl _) _)
theorem blk_after {w w1 : World} {o : Obj} (hb : Below (w.alloc o).heap.size (w.alloc o) w1) : w1.heap[w.heap.size]? = some o := (hb.block _ (by simp)).trans (blk_new w _)
theorem box_it {w w1 : World} (x : S26) (A4 : Option Addr) (c4 : Nat) (hb : Below (w.alloc (.cells (cellsIt x A4 c4) 26)).heap.size (w.alloc (.cells (cellsIt x A4 c4) 26)) w1) :
    w1.cell? ⟨w.heap.size, 0, none⟩ = some (.string x.f0) ∧ w1.cell? ⟨w.heap.size, 1, none⟩ = some (.int .u8 x.f1) ∧ w1.cell? ⟨w.heap.size, 2, none⟩ = some (.int .i64 x.f2) ∧ w1.cell? ⟨w.heap.size, 3, none⟩ = some (.int .i64 x.f3) ∧ w1.cell? ⟨w.heap.size, 4, none⟩ = some (.slice A4 x.f4.length c4) ∧ w1.cell? ⟨w.heap.size, 5, none⟩ = some (.string x.f5) ∧ w.heap.size < w1.heap.size := by
  have hz := hb.size
  rw [World.size_alloc] at hz
  have st : ∀ j v, (cellsIt x A4 c4)[j]? = some v → w1.cell? ⟨w.heap.size, j, none⟩ = some v := fun j v hv => (blk_cell (blk_after hb) j).trans hv
  exact ⟨st 0 _ rfl, st 1 _ rfl, st 2 _ rfl, st 3 _ rfl, st 4 _ rfl, st 5 _ rfl, hz⟩
def mayT (x : S26) (M T : Int) (bo tq : Bool) (r : Int) : Int :=
  if x.f3 < 0 then 1 else if T < x.f3 then 1 else if x.f2 < 0 then 1 else if M < x.f2 then 1 else
  if 0 < x.f4.length ∧ bo = false then 110 else if x.f5.toList ≠ [] ∧ tq = false then 110 else r
set_option maxRecDepth 100000 in
set_option maxHeartbeats 4000000 in
theorem may_plain (x : S26) (A4 : Option Addr) (c4 : Nat) (w : World) (M T : Int) (bo tq : Bool) (hl : x.f4.length ≤ c4) (hr : (Kd.int .u8).C w A4 x.f4.length x.f4)
    (hof : ofV x.f1 = .tuple #[.agg #[.int .i64 M, .int .i64 T, .bool bo, .bool tq, .func (.func 74) #[] #[]], .bool true]) (hck : (Nm.check x.f0.data.toList).2 = 0) :
    Calls Tryd.prog 15 #[.agg (cellsIt x A4 c4)] w fun e w' => e = .returned (.int .i64 (mayT x M T bo tq (plainP x))) ∧ Below w.heap.size w w' := by
  have HO := Lib.hid hof
  have HK := Lib.hid hck
  have HB := Aside0.mk ((Below.refl _ w).alloc (Nat.le_refl _) (.cells (cellsIt x A4 c4) 26))
  clear hof hck
  unfold cellsIt
  go_enter Tryd.func15, Tryd.ntmps15
  go_wp2_with fail
  refine (check_any _ _).mono ?_
  rw [HK.out]
  rintro e w1 ⟨rfl, hb⟩
  obtain ⟨a0, a1, a2, a3, a4, a5, az⟩ := box_it x A4 c4 hb
  have HB1 := Aside0.mk (HB.out.trans (hb.mono HB.out.size))
  clear hb HB
  go_wp2_with fail
  refine (of_any _ _).mono ?_
  rw [HO.out]
  rintro e w2 ⟨rfl, hb⟩
  have st : ∀ {j : Nat} {v : Value}, w1.cell? ⟨w.heap.size, j, none⟩ = some v → w2.cell? ⟨w.heap.size, j, none⟩ = some v := fun {j v} hv => (hb.cell (p := ⟨w.heap.size, j, none⟩) az).trans hv
  replace a0 := st a0
  replace a1 := st a1
  replace a2 := st a2
  replace a3 := st a3
  replace a4 := st a4
  replace a5 := st a5
  have az2 := Nat.lt_of_lt_of_le az hb.size
  have HB2 := Aside0.mk (HB1.out.trans (hb.mono HB1.out.size))
  clear hb HB1 st az HO HK
  have fin : ∀ (v : Int) (w' : World), Below w2.heap.size w2 w' → v = mayT x M T bo tq (plainP x) → Ending.returned (.int .i64 v) = .returned (.int .i64 (mayT x M T bo tq (plainP x))) ∧ Below w.heap.size w w' := fun v w' h e => ⟨by rw [e], HB2.out.trans (h.mono HB2.out.size)⟩
  have FIN := Aside0.mk fin
  clear fin
  have hl4 : (0 : Int) ≤ x.f4.length := by omega
  rcases Bool.eq_false_or_eq_true (decide (x.f3 < 0)) with d1 | d1
  · go_wp2
    go_ret
    exact FIN.out _ _ ((Below.refl _ _).alloc (Nat.le_refl _) _) (by unfold mayT; rw [if_pos (of_decide_eq_true d1)])
  rcases Bool.eq_false_or_eq_true (decide (T < x.f3)) with d2 | d2
  · go_wp2
    go_ret
    exact FIN.out _ _ ((Below.refl _ _).alloc (Nat.le_refl _) _) (by unfold mayT; rw [if_neg (of_decide_eq_false d1), if_pos (of_decide_eq_true d2)])
  rcases Bool.eq_false_or_eq_true (decide (x.f2 < 0)) with d3 | d3
  · go_wp2
    go_ret
    exact FIN.out _ _ ((Below.refl _ _).alloc (Nat.le_refl _) _) (by unfold mayT; rw [if_neg (of_decide_eq_false d1), if_neg (of_decide_eq_false d2), if_pos (of_decide_eq_true d3)])
  rcases Bool.eq_false_or_eq_true (decide (M < x.f2)) with d4 | d4
  · go_wp2
    go_ret
    exact FIN.out _ _ ((Below.refl _ _).alloc (Nat.le_refl _) _) (by unfold mayT; rw [if_neg (of_decide_eq_false d1), if_neg (of_decide_eq_false d2), if_neg (of_decide_eq_false d3), if_pos (of_decide_eq_true d4)])
  have M4 : ∀ r, mayT x M T bo tq r = if 0 < x.f4.length ∧ bo = false then 110 else if x.f5.toList ≠ [] ∧ tq = false then 110 else r := fun r => by
    unfold mayT
    rw [if_neg (of_decide_eq_false d1), if_neg (of_decide_eq_false d2), if_neg (of_decide_eq_false d3), if_neg (of_decide_eq_false d4)]
  have HM := Aside0.mk M4
  clear M4
  have key : (0 < x.f4.length ∧ bo = false) ∨ ¬ (0 < x.f4.length ∧ bo = false) := Decidable.em _
  rcases key with k5 | k5
  · obtain ⟨k5, rfl⟩ := k5
    have d5 : decide ((0 : Int) < (x.f4.length : Int)) = true := decide_eq_true (by omega)
    have d5' : decide (0 < x.f4.length) = true := decide_eq_true (by omega)
    have d5n : x.f4 ≠ [] := fun h => by rw [h] at k5; exact Nat.lt_irrefl _ k5
    have K5 := Lib.hid k5
    clear k5
    go_wp2
    go_ret
    exact FIN.out _ _ ((Below.refl _ _).alloc (Nat.le_refl _) _) (by rw [HM.out, if_pos ⟨K5.out, by first | rfl | trivial⟩])
  have key : (x.f5.toList ≠ [] ∧ tq = false) ∨ ¬ (x.f5.toList ≠ [] ∧ tq = false) := Decidable.em _
  rcases key with k6 | k6
  · obtain ⟨k6, rfl⟩ := k6
    have K6 := Lib.hid k6
    have d6 : x.f5.toList.isEmpty = false := by simpa using k6
    have d6' : (!x.f5.toList.isEmpty) = true := by simpa using k6
    clear k6
    by_cases h5 : 0 < x.f4.length
    · obtain rfl : bo = true := by
        cases bo
        · exact absurd ⟨h5, rfl⟩ k5
        · rfl
      have d5 : decide ((0 : Int) < (x.f4.length : Int)) = true := decide_eq_true (by omega)
      have d5' : decide (0 < x.f4.length) = true := decide_eq_true (by omega)
      have d5n : x.f4 ≠ [] := fun h => by rw [h] at h5; exact Nat.lt_irrefl _ h5
      have K5 := Lib.hid k5
      clear k5 h5
      go_wp2
      go_ret
      exact FIN.out _ _ ((Below.refl _ _).alloc (Nat.le_refl _) _) (by rw [HM.out, if_neg K5.out, if_pos ⟨K6.out, by first | rfl | trivial⟩])
    · have d5 : decide ((0 : Int) < (x.f4.length : Int)) = false := decide_eq_false (by omega)
      have d5' : decide (0 < x.f4.length) = false := decide_eq_false (by omega)
      have K5 := Lib.hid k5
      clear k5 h5
      go_wp2
      go_ret
      exact FIN.out _ _ ((Below.refl _ _).alloc (Nat.le_refl _) _) (by rw [HM.out, if_neg K5.out, if_pos ⟨K6.out, by first | rfl | trivial⟩])
  have HF := Aside0.mk (show mayT x M T bo tq (plainP x) = plainP x by rw [HM.out, if_neg k5, if_neg k6])
  have FIN2 : ∀ (w' : World), Below w2.heap.size w2 w' → Ending.returned (.int .i64 (plainP x)) = .returned (.int .i64 (mayT x M T bo tq (plainP x))) ∧ Below w.heap.size w w' := fun w' h => FIN.out _ _ h HF.out.symm
  have FIN3 := Aside0.mk FIN2
  clear FIN2 HF HM FIN
  have E5 : (decide ((0 : Int) < (x.f4.length : Int)) = true ∧ decide (0 < x.f4.length) = true ∧ bo = true) ∨ (decide ((0 : Int) < (x.f4.length : Int)) = false ∧ decide (0 < x.f4.length) = false) := by
    by_cases h5 : 0 < x.f4.length
    · left
      refine ⟨decide_eq_true (by omega), decide_eq_true (by omega), ?_⟩
      cases bo
      · exact absurd ⟨h5, rfl⟩ k5
      · rfl
    · right
      exact ⟨decide_eq_false (by omega), decide_eq_false (by omega)⟩
  have E6 : (x.f5.toList.isEmpty = false ∧ tq = true) ∨ x.f5.toList.isEmpty = true := by
    by_cases h6 : x.f5.toList = []
    · right; simpa using h6
    · left
      refine ⟨by simpa using h6, ?_⟩
      cases tq
      · exact absurd ⟨h6, rfl⟩ k6
      · rfl
  clear k5 k6
  rcases E5 with ⟨d5, d5', rfl⟩ | ⟨d5, d5'⟩ <;> rcases E6 with ⟨d6, rfl⟩ | d6
  all_goals
    go_wp2_with fail
    refine (plain_any x A4 c4 _).mono ?_
    rintro e w3 ⟨rfl, hb⟩
    go_wp2
    go_ret
    exact FIN3.out _ (((Below.refl _ _).alloc (Nat.le_refl _) _).trans (hb.mono (by simp)))
set_option maxRecDepth 100000 in
set_option maxHeartbeats 4000000 in
theorem may_hard (x : S26) (A4 : Option Addr) (c4 : Nat) (w : World) (M T : Int) (bo tq : Bool) (hl : x.f4.length ≤ c4) (hr : (Kd.int .u8).C w A4 x.f4.length x.f4)
    (hof : ofV x.f1 = .tuple #[.agg #[.int .i64 M, .int .i64 T, .bool bo, .bool tq, .func (.func 75) #[] #[]], .bool true]) (hck : (Nm.check x.f0.data.toList).2 = 0) :
    Calls Tryd.prog 15 #[.agg (cellsIt x A4 c4)] w fun e w' => e = .returned (.int .i64 (mayT x M T bo tq (hardP x))) ∧ Below w.heap.size w w' := by
  have HO := Lib.hid hof
  have HK := Lib.hid hck
  have HB := Aside0.mk ((Below.refl _ w).alloc (Nat.le_refl _) (.cells (cellsIt x A4 c4) 26))
  clear hof hck
  unfold cellsIt
  go_enter Tryd.func15, Tryd.ntmps15
  go_wp2_with fail
  refine (check_any _ _).mono ?_
  rw [HK.out]
  rintro e w1 ⟨rfl, hb⟩
  obtain ⟨a0, a1, a2, a3, a4, a5, az⟩ := box_it x A4 c4 hb
  have HB1 := Aside0.mk (HB.out.trans (hb.mono HB.out.size))
  clear hb HB
  go_wp2_with fail
  refine (of_any _ _).mono ?_
  rw [HO.out]
  rintro e w2 ⟨rfl, hb⟩
  have st : ∀ {j : Nat} {v : Value}, w1.cell? ⟨w.heap.size, j, none⟩ = some v → w2.cell? ⟨w.heap.size, j, none⟩ = some v := fun {j v} hv => (hb.cell (p := ⟨w.heap.size, j, none⟩) az).trans hv
  replace a0 := st a0
  replace a1 := st a1
  replace a2 := st a2
  replace a3 := st a3
  replace a4 := st a4
  replace a5 := st a5
  have az2 := Nat.lt_of_lt_of_le az hb.size
  have HB2 := Aside0.mk (HB1.out.trans (hb.mono HB1.out.size))
  clear hb HB1 st az HO HK
  have fin : ∀ (v : Int) (w' : World), Below w2.heap.size w2 w' → v = mayT x M T bo tq (hardP x) → Ending.returned (.int .i64 v) = .returned (.int .i64 (mayT x M T bo tq (hardP x))) ∧ Below w.heap.size w w' := fun v w' h e => ⟨by rw [e], HB2.out.trans (h.mono HB2.out.size)⟩
  have FIN := Aside0.mk fin
  clear fin
  have hl4 : (0 : Int) ≤ x.f4.length := by omega
  rcases Bool.eq_false_or_eq_true (decide (x.f3 < 0)) with d1 | d1
  · go_wp2
    go_ret
    exact FIN.out _ _ ((Below.refl _ _).alloc (Nat.le_refl _) _) (by unfold mayT; rw [if_pos (of_decide_eq_true d1)])
  rcases Bool.eq_false_or_eq_true (decide (T < x.f3)) with d2 | d2
  · go_wp2
    go_ret
    exact FIN.out _ _ ((Below.refl _ _).alloc (Nat.le_refl _) _) (by unfold mayT; rw [if_neg (of_decide_eq_false d1), if_pos (of_decide_eq_true d2)])
  rcases Bool.eq_false_or_eq_true (decide (x.f2 < 0)) with d3 | d3
  · go_wp2
    go_ret
    exact FIN.out _ _ ((Below.refl _ _).alloc (Nat.le_refl _) _) (by unfold mayT; rw [if_neg (of_decide_eq_false d1), if_neg (of_decide_eq_false d2), if_pos (of_decide_eq_true d3)])
  rcases Bool.eq_false_or_eq_true (decide (M < x.f2)) with d4 | d4
  · go_wp2
    go_ret
    exact FIN.out _ _ ((Below.refl _ _).alloc (Nat.le_refl _) _) (by unfold mayT; rw [if_neg (of_decide_eq_false d1), if_neg (of_decide_eq_false d2), if_neg (of_decide_eq_false d3), if_pos (of_decide_eq_true d4)])
  have M4 : ∀ r, mayT x M T bo tq r = if 0 < x.f4.length ∧ bo = false then 110 else if x.f5.toList ≠ [] ∧ tq = false then 110 else r := fun r => by
    unfold mayT
    rw [if_neg (of_decide_eq_false d1), if_neg (of_decide_eq_false d2), if_neg (of_decide_eq_false d3), if_neg (of_decide_eq_false d4)]
  have HM := Aside0.mk M4
  clear M4
  have key : (0 < x.f4.length ∧ bo = false) ∨ ¬ (0 < x.f4.length ∧ bo = false) := Decidable.em _
  rcases key with k5 | k5
  · obtain ⟨k5, rfl⟩ := k5
    have d5 : decide ((0 : Int) < (x.f4.length : Int)) = true := decide_eq_true (by omega)
    have d5' : decide (0 < x.f4.length) = true := decide_eq_true (by omega)
    have d5n : x.f4 ≠ [] := fun h => by rw [h] at k5; exact Nat.lt_irrefl _ k5
    have K5 := Lib.hid k5
    clear k5
    go_wp2
    go_ret
    exact FIN.out _ _ ((Below.refl _ _).alloc (Nat.le_refl _) _) (by rw [HM.out, if_pos ⟨K5.out, by first | rfl | trivial⟩])
  have key : (x.f5.toList ≠ [] ∧ tq = false) ∨ ¬ (x.f5.toList ≠ [] ∧ tq = false) := Decidable.em _
  rcases key with k6 | k6
  · obtain ⟨k6, rfl⟩ := k6
    have K6 := Lib.hid k6
    have d6 : x.f5.toList.isEmpty = false := by simpa using k6
    have d6' : (!x.f5.toList.isEmpty) = true := by simpa using k6
    clear k6
    by_cases h5 : 0 < x.f4.length
    · obtain rfl : bo = true := by
        cases bo
        · exact absurd ⟨h5, rfl⟩ k5
        · rfl
      have d5 : decide ((0 : Int) < (x.f4.length : Int)) = true := decide_eq_true (by omega)
      have d5' : decide (0 < x.f4.length) = true := decide_eq_true (by omega)
      have d5n : x.f4 ≠ [] := fun h => by rw [h] at h5; exact Nat.lt_irrefl _ h5
      have K5 := Lib.hid k5
      clear k5 h5
      go_wp2
      go_ret
      exact FIN.out _ _ ((Below.refl _ _).alloc (Nat.le_refl _) _) (by rw [HM.out, if_neg K5.out, if_pos ⟨K6.out, by first | rfl | trivial⟩])
    · have d5 : decide ((0 : Int) < (x.f4.length : Int)) = false := decide_eq_false (by omega)
      have d5' : decide (0 < x.f4.length) = false := decide_eq_false (by omega)
      have K5 := Lib.hid k5
      clear k5 h5
      go_wp2
      go_ret
      exact FIN.out _ _ ((Below.refl _ _).alloc (Nat.le_refl _) _) (by rw [HM.out, if_neg K5.out, if_pos ⟨K6.out, by first | rfl | trivial⟩])
  have HF := Aside0.mk (show mayT x M T bo tq (hardP x) = hardP x by rw [HM.out, if_neg k5, if_neg k6])
  have FIN2 : ∀ (w' : World), Below w2.heap.size w2 w' → Ending.returned (.int .i64 (hardP x)) = .returned (.int .i64 (mayT x M T bo tq (hardP x))) ∧ Below w.heap.size w w' := fun w' h => FIN.out _ _ h HF.out.symm
  have FIN3 := Aside0.mk FIN2
  clear FIN2 HF HM FIN
  have E5 : (decide ((0 : Int) < (x.f4.length : Int)) = true ∧ decide (0 < x.f4.length) = true ∧ bo = true) ∨ (decide ((0 : Int) < (x.f4.length : Int)) = false ∧ decide (0 < x.f4.length) = false) := by
    by_cases h5 : 0 < x.f4.length
    · left
      refine ⟨decide_eq_true (by omega), decide_eq_true (by omega), ?_⟩
      cases bo
      · exact absurd ⟨h5, rfl⟩ k5
      · rfl
    · right
      exact ⟨decide_eq_false (by omega), decide_eq_false (by omega)⟩
  have E6 : (x.f5.toList.isEmpty = false ∧ tq = true) ∨ x.f5.toList.isEmpty = true := by
    by_cases h6 : x.f5.toList = []
    · right; simpa using h6
    · left
      refine ⟨by simpa using h6, ?_⟩
      cases tq
      · exact absurd ⟨h6, rfl⟩ k6
      · rfl
  clear k5 k6
  rcases E5 with ⟨d5, d5', rfl⟩ | ⟨d5, d5'⟩ <;> rcases E6 with ⟨d6, rfl⟩ | d6
  all_goals
    go_wp2_with fail
    refine (hard_any x A4 c4 _).mono ?_
    rintro e w3 ⟨rfl, hb⟩
    go_wp2
    go_ret
    exact FIN3.out _ (((Below.refl _ _).alloc (Nat.le_refl _) _).trans (hb.mono (by simp)))
set_option maxRecDepth 100000 in
set_option maxHeartbeats 4000000 in
theorem may_soft (x : S26) (A4 : Option Addr) (c4 : Nat) (w : World) (M T : Int) (bo tq : Bool) (hl : x.f4.length ≤ c4) (hr : (Kd.int .u8).C w A4 x.f4.length x.f4)
    (hof : ofV x.f1 = .tuple #[.agg #[.int .i64 M, .int .i64 T, .bool bo, .bool tq, .func (.func 76) #[] #[]], .bool true]) (hck : (Nm.check x.f0.data.toList).2 = 0) :
    Calls Tryd.prog 15 #[.agg (cellsIt x A4 c4)] w fun e w' => e = .returned (.int .i64 (mayT x M T bo tq (softP x))) ∧ Below w.heap.size w w' := by
  have HO := Lib.hid hof
  have HK := Lib.hid hck
  have HB := Aside0.mk ((Below.refl _ w).alloc (Nat.le_refl _) (.cells (cellsIt x A4 c4) 26))
  clear hof hck
  unfold cellsIt
  go_enter Tryd.func15, Tryd.ntmps15
  go_wp2_with fail
  refine (check_any _ _).mono ?_
  rw [HK.out]
  rintro e w1 ⟨rfl, hb⟩
  obtain ⟨a0, a1, a2, a3, a4, a5, az⟩ := box_it x A4 c4 hb
  have HB1 := Aside0.mk (HB.out.trans (hb.mono HB.out.size))
  clear hb HB
  go_wp2_with fail
  refine (of_any _ _).mono ?_
  rw [HO.out]
  rintro e w2 ⟨rfl, hb⟩
  have st : ∀ {j : Nat} {v : Value}, w1.cell? ⟨w.heap.size, j, none⟩ = some v → w2.cell? ⟨w.heap.size, j, none⟩ = some v := fun {j v} hv => (hb.cell (p := ⟨w.heap.size, j, none⟩) az).trans hv
  replace a0 := st a0
  replace a1 := st a1
  replace a2 := st a2
  replace a3 := st a3
  replace a4 := st a4
  replace a5 := st a5
  have az2 := Nat.lt_of_lt_of_le az hb.size
  have HB2 := Aside0.mk (HB1.out.trans (hb.mono HB1.out.size))
  clear hb HB1 st az HO HK
  have fin : ∀ (v : Int) (w' : World), Below w2.heap.size w2 w' → v = mayT x M T bo tq (softP x) → Ending.returned (.int .i64 v) = .returned (.int .i64 (mayT x M T bo tq (softP x))) ∧ Below w.heap.size w w' := fun v w' h e => ⟨by rw [e], HB2.out.trans (h.mono HB2.out.size)⟩
  have FIN := Aside0.mk fin
  clear fin
  have hl4 : (0 : Int) ≤ x.f4.length := by omega
  rcases Bool.eq_false_or_eq_true (decide (x.f3 < 0)) with d1 | d1
  · go_wp2
    go_ret
    exact FIN.out _ _ ((Below.refl _ _).alloc (Nat.le_refl _) _) (by unfold mayT; rw [if_pos (of_decide_eq_true d1)])
  rcases Bool.eq_false_or_eq_true (decide (T < x.f3)) with d2 | d2
  · go_wp2
    go_ret
    exact FIN.out _ _ ((Below.refl _ _).alloc (Nat.le_refl _) _) (by unfold mayT; rw [if_neg (of_decide_eq_false d1), if_pos (of_decide_eq_true d2)])
  rcases Bool.eq_false_or_eq_true (decide (x.f2 < 0)) with d3 | d3
  · go_wp2
    go_ret
    exact FIN.out _ _ ((Below.refl _ _).alloc (Nat.le_refl _) _) (by unfold mayT; rw [if_neg (of_decide_eq_false d1), if_neg (of_decide_eq_false d2), if_pos (of_decide_eq_true d3)])
  rcases Bool.eq_false_or_eq_true (decide (M < x.f2)) with d4 | d4
  · go_wp2
    go_ret
    exact FIN.out _ _ ((Below.refl _ _).alloc (Nat.le_refl _) _) (by unfold mayT; rw [if_neg (of_decide_eq_false d1), if_neg (of_decide_eq_false d2), if_neg (of_decide_eq_false d3), if_pos (of_decide_eq_true d4)])
  have M4 : ∀ r, mayT x M T bo tq r = if 0 < x.f4.length ∧ bo = false then 110 else if x.f5.toList ≠ [] ∧ tq = false then 110 else r := fun r => by
    unfold mayT
    rw [if_neg (of_decide_eq_false d1), if_neg (of_decide_eq_false d2), if_neg (of_decide_eq_false d3), if_neg (of_decide_eq_false d4)]
  have HM := Aside0.mk M4
  clear M4
  have key : (0 < x.f4.length ∧ bo = false) ∨ ¬ (0 < x.f4.length ∧ bo = false) := Decidable.em _
  rcases key with k5 | k5
  · obtain ⟨k5, rfl⟩ := k5
    have d5 : decide ((0 : Int) < (x.f4.length : Int)) = true := decide_eq_true (by omega)
    have d5' : decide (0 < x.f4.length) = true := decide_eq_true (by omega)
    have d5n : x.f4 ≠ [] := fun h => by rw [h] at k5; exact Nat.lt_irrefl _ k5
    have K5 := Lib.hid k5
    clear k5
    go_wp2
    go_ret
    exact FIN.out _ _ ((Below.refl _ _).alloc (Nat.le_refl _) _) (by rw [HM.out, if_pos ⟨K5.out, by first | rfl | trivial⟩])
  have key : (x.f5.toList ≠ [] ∧ tq = false) ∨ ¬ (x.f5.toList ≠ [] ∧ tq = false) := Decidable.em _
  rcases key with k6 | k6
  · obtain ⟨k6, rfl⟩ := k6
    have K6 := Lib.hid k6
    have d6 : x.f5.toList.isEmpty = false := by simpa using k6
    have d6' : (!x.f5.toList.isEmpty) = true := by simpa using k6
    clear k6
    by_cases h5 : 0 < x.f4.length
    · obtain rfl : bo = true := by
        cases bo
        · exact absurd ⟨h5, rfl⟩ k5
        · rfl
      have d5 : decide ((0 : Int) < (x.f4.length : Int)) = true := decide_eq_true (by omega)
      have d5' : decide (0 < x.f4.length) = true := decide_eq_true (by omega)
      have d5n : x.f4 ≠ [] := fun h => by rw [h] at h5; exact Nat.lt_irrefl _ h5
      have K5 := Lib.hid k5
      clear k5 h5
      go_wp2
      go_ret
      exact FIN.out _ _ ((Below.refl _ _).alloc (Nat.le_refl _) _) (by rw [HM.out, if_neg K5.out, if_pos ⟨K6.out, by first | rfl | trivial⟩])
    · have d5 : decide ((0 : Int) < (x.f4.length : Int)) = false := decide_eq_false (by omega)
      have d5' : decide (0 < x.f4.length) = false := decide_eq_false (by omega)
      have K5 := Lib.hid k5
      clear k5 h5
      go_wp2
      go_ret
      exact FIN.out _ _ ((Below.refl _ _).alloc (Nat.le_refl _) _) (by rw [HM.out, if_neg K5.out, if_pos ⟨K6.out, by first | rfl | trivial⟩])
  have HF := Aside0.mk (show mayT x M T bo tq (softP x) = softP x by rw [HM.out, if_neg k5, if_neg k6])
  have FIN2 : ∀ (w' : World), Below w2.heap.size w2 w' → Ending.returned (.int .i64 (softP x)) = .returned (.int .i64 (mayT x M T bo tq (softP x))) ∧ Below w.heap.size w w' := fun w' h => FIN.out _ _ h HF.out.symm
  have FIN3 := Aside0.mk FIN2
  clear FIN2 HF HM FIN
  have E5 : (decide ((0 : Int) < (x.f4.length : Int)) = true ∧ decide (0 < x.f4.length) = true ∧ bo = true) ∨ (decide ((0 : Int) < (x.f4.length : Int)) = false ∧ decide (0 < x.f4.length) = false) := by
    by_cases h5 : 0 < x.f4.length
    · left
      refine ⟨decide_eq_true (by omega), decide_eq_true (by omega), ?_⟩
      cases bo
      · exact absurd ⟨h5, rfl⟩ k5
      · rfl
    · right
      exact ⟨decide_eq_false (by omega), decide_eq_false (by omega)⟩
  have E6 : (x.f5.toList.isEmpty = false ∧ tq = true) ∨ x.f5.toList.isEmpty = true := by
    by_cases h6 : x.f5.toList = []
    · right; simpa using h6
    · left
      refine ⟨by simpa using h6, ?_⟩
      cases tq
      · exact absurd ⟨h6, rfl⟩ k6
      · rfl
  clear k5 k6
  rcases E5 with ⟨d5, d5', rfl⟩ | ⟨d5, d5'⟩ <;> rcases E6 with ⟨d6, rfl⟩ | d6
  all_goals
    go_wp2_with fail
    refine (soft_any x A4 c4 _).mono ?_
    rintro e w3 ⟨rfl, hb⟩
    go_wp2
    go_ret
    exact FIN3.out _ (((Below.refl _ _).alloc (Nat.le_refl _) _).trans (hb.mono (by simp)))
def mayP (x : S26) : Int :=
  if (Nm.check x.f0.data.toList).2 ≠ 0 then ((Nm.check x.f0.data.toList).2 : Int) else
  if x.f1 = 1 then mayT x 4095 1099511627776 true false (plainP x) else
  if x.f1 = 2 then mayT x 4095 1099511627776 false false (plainP x) else
  if x.f1 = 3 then mayT x 0 0 false true (hardP x) else
  if x.f1 = 4 then mayT x 0 1099511627776 false true (softP x) else 1
set_option maxRecDepth 100000 in
set_option maxHeartbeats 1000000 in
theorem may_any (x : S26) (A4 : Option Addr) (c4 : Nat) (w : World) (hl : x.f4.length ≤ c4) (hr : (Kd.int .u8).C w A4 x.f4.length x.f4) :
    Calls Tryd.prog 15 #[.agg (cellsIt x A4 c4)] w fun e w' => e = .returned (.int .i64 (mayP x)) ∧ Below w.heap.size w w' := by
  by_cases hc : (Nm.check x.f0.data.toList).2 = 0
  · unfold mayP
    rw [if_neg (by simp [hc])]
    by_cases h1 : x.f1 = 1
    · rw [if_pos h1]; exact may_plain x A4 c4 w _ _ _ _ hl hr (by rw [h1]; rfl) hc
    rw [if_neg h1]
    by_cases h2 : x.f1 = 2
    · rw [if_pos h2]; exact may_plain x A4 c4 w _ _ _ _ hl hr (by rw [h2]; rfl) hc
    rw [if_neg h2]
    by_cases h3 : x.f1 = 3
    · rw [if_pos h3]; exact may_hard x A4 c4 w _ _ _ _ hl hr (by rw [h3]; rfl) hc
    rw [if_neg h3]
    by_cases h4 : x.f1 = 4
    · rw [if_pos h4]; exact may_soft x A4 c4 w _ _ _ _ hl hr (by rw [h4]; rfl) hc
    rw [if_neg h4]
    have HO := Lib.hid (show ofV x.f1 = .tuple #[.agg #[.int .i64 0, .int .i64 0, .bool false, .bool false, .nilFunc], .bool false] by unfold ofV; rw [if_neg h1, if_neg h2, if_neg h3, if_neg h4])
    have HK := Lib.hid hc
    have HB := Aside0.mk ((Below.refl _ w).alloc (Nat.le_refl _) (.cells (cellsIt x A4 c4) 26))
    clear h1 h2 h3 h4 hc hr
    unfold cellsIt
    go_enter Tryd.func15, Tryd.ntmps15
    go_wp2_with fail
    refine (check_any _ _).mono ?_
    rw [HK.out]
    rintro e w1 ⟨rfl, hb⟩
    obtain ⟨a0, a1, a2, a3, a4, a5, az⟩ := box_it x A4 c4 hb
    have HB1 := Aside0.mk (HB.out.trans (hb.mono HB.out.size))
    clear hb HB
    go_wp2_with fail
    refine (of_any _ _).mono ?_
    rw [HO.out]
    rintro e w2 ⟨rfl, hb⟩
    have HB2 := Aside0.mk (HB1.out.trans (hb.mono HB1.out.size))
    clear hb HB1 az HO HK
    go_wp2
    go_ret
    exact ⟨rfl, HB2.out.trans (((Below.refl _ _).alloc (Nat.le_refl _) _).mono HB2.out.size)⟩
  · unfold mayP
    rw [if_pos (by simpa using hc)]
    have hne : (((Nm.check x.f0.data.toList).2 : Int) != 0) = true := by simp; omega
    have HB := Aside0.mk ((Below.refl _ w).alloc (Nat.le_refl _) (.cells (cellsIt x A4 c4) 26))
    clear hc hr
    unfold cellsIt
    go_enter Tryd.func15, Tryd.ntmps15
    go_wp2_with fail
    refine (check_any _ _).mono ?_
    rintro e w1 ⟨rfl, hb⟩
    have HB1 := Aside0.mk (HB.out.trans (hb.mono HB.out.size))
    clear hb HB
    go_wp2
    go_ret
    exact ⟨rfl, HB1.out⟩
end Go.Proofs.YthpecpkncifngaaDoor.X
end

/- A map as a list of keys and values: what a look-up, a store, a delete, a length make of it. No function of the program in sight. -/
section
namespace Go.Proofs.YthpecpkncifngaaDoor.Mp
open Go.MapKept Go.RowKit
section lists
variable {α : Type} [DecidableEq α]
def mget : List (α × Value) → α → Option Value
  | [], _ => none
  | p :: r, k => if p.1 = k then some p.2 else mget r k
def mput : List (α × Value) → α → Value → List (α × Value)
  | [], k, v => [(k, v)]
  | p :: r, k, v => if p.1 = k then (k, v) :: r else p :: mput r k v
theorem mget_put (l : List (α × Value)) (k t : α) (v : Value) : mget (mput l k v) t = if k = t then some v else mget l t := by
  induction l with
  | nil => simp [mput, mget]
  | cons p r ih =>
    simp only [mput]
    by_cases h : p.1 = k
    · rw [if_pos h]
      by_cases h2 : k = t
      · simp [mget, h2]
      · simp [mget, h2, h]
    · rw [if_neg h]
      simp only [mget, ih]
      by_cases h2 : k = t
      · subst h2; simp [h]
      · simp [h2]
theorem mput_none {l : List (α × Value)} {k : α} (h : mget l k = none) (v : Value) : mput l k v = l ++ [(k, v)] := by
  induction l with
  | nil => rfl
  | cons p r ih =>
    simp only [mget] at h
    split at h
    · cases h
    · rename_i hne
      simp only [mput, if_neg hne, ih h, List.cons_append]
end lists
structure Key (α : Type) (d : TypeDesc) where
  enc : α → Value
  is : ∀ a, IsKey d (enc a)
  inj : ∀ {a b}, enc a = enc b → a = b
def strKey : Key ByteArray .string := ⟨Value.string, fun _ => trivial, fun h => by injection h⟩
section
variable {α : Type} {d : TypeDesc} (K : Key α d)
def At (W : World) (B : Nat) (l : List (α × Value)) : Prop :=
  ∃ es clock, W.heap[B]? = some (.map es clock) ∧ Stamped es clock ∧ es.toList.map (fun e => (e.key, e.val)) = l.map (fun p => (K.enc p.1, p.2))
variable {K}
theorem At.move {W W' : World} {B : Nat} {l : List (α × Value)} (h : At K W B l) (e : W'.heap[B]? = W.heap[B]?) : At K W' B l := by
  obtain ⟨es, cl, h1, h2, h3⟩ := h
  exact ⟨es, cl, e.trans h1, h2, h3⟩
theorem At.lt {W : World} {B : Nat} {l : List (α × Value)} (h : At K W B l) : B < W.heap.size := by
  obtain ⟨es, cl, h1, _⟩ := h
  exact (Array.getElem?_eq_some_iff.1 h1).1
theorem At.below {w W : World} {B : Nat} {l : List (α × Value)} (h : At K w B l) (hb : Below w.heap.size w W) : At K W B l := h.move (hb.block B h.lt)
theorem at_made (w : World) : At K (w.alloc (.map #[] 0)) w.heap.size [] := ⟨#[], 0, (heap_alloc w _).1, stamped_empty 0, rfl⟩
variable [DecidableEq α]
theorem find_of : ∀ {es : List MapEntry} {l : List (α × Value)} (i : Nat) (k : α), es.map (fun e => (e.key, e.val)) = l.map (fun p => (K.enc p.1, p.2)) →
    (mget l k = none ∧ Instr.findNow d (K.enc k) es i = some none ∧ ∀ x ∈ es, x.key ≠ K.enc k) ∨
    ∃ j v e, mget l k = some v ∧ Instr.findNow d (K.enc k) es i = some (some (i + j, v)) ∧ es[j]? = some e ∧ e.key = K.enc k ∧ e.val = v
  | [], [], i, k, _ => .inl ⟨rfl, rfl, by simp⟩
  | [], _ :: _, _, _, h => by simp at h
  | _ :: _, [], _, _, h => by simp at h
  | e :: es, p :: l, i, k, h => by
    simp only [List.map_cons, List.cons.injEq, Prod.mk.injEq] at h
    obtain ⟨⟨h1, h2⟩, h3⟩ := h
    have hk : IsKey d e.key := by rw [h1]; exact K.is _
    obtain ⟨r, hr, hiff⟩ := sameNow_of_keys (K.is k) hk
    by_cases hp : p.1 = k
    · right
      have : r = true := hiff.2 (by rw [h1, hp])
      subst this
      exact ⟨0, p.2, e, by simp [mget, hp], by simp [Instr.findNow, hr, h2], rfl, by rw [h1, hp], h2⟩
    · have : r = false := by
        cases r with
        | false => rfl
        | true => exact absurd (K.inj ((hiff.1 rfl).trans h1)).symm hp
      subst this
      have hne : e.key ≠ K.enc k := fun q => hp (K.inj (h1.symm.trans q))
      rcases find_of (i + 1) k h3 with ⟨g1, g2, g3⟩ | ⟨j, v, e', g1, g2, g3, g4, g5⟩
      · left
        refine ⟨by simp [mget, hp, g1], by simp [Instr.findNow, hr, g2], ?_⟩
        intro x hx
        rcases List.mem_cons.1 hx with rfl | hx
        · exact hne
        · exact g3 x hx
      · right
        exact ⟨j + 1, v, e', by simp [mget, hp, g1], by simp [Instr.findNow, hr, g2]; omega, by simpa using g3, g4, g5⟩
variable {P : Program} {T kt et : TypeId}
theorem At.lookup {W : World} {B : Nat} {l : List (α × Value)} (h : At K W B l) (hT : P.underlying T = some (.map kt et)) (hd : P.underlying kt = some d) (k : α) {z : Value} (hz : ∀ w, (zeroValue et).run P w = .ok z w) (ok : Bool) :
    (Instr.lookup T (.map (some B)) (K.enc k) ok).run P W = .ok (if ok then .tuple #[(mget l k).getD z, .bool (mget l k).isSome] else (mget l k).getD z) W := by
  obtain ⟨es, cl, h1, h2, h3⟩ := h
  rcases find_of (K := K) 0 k h3 with ⟨g1, g2, _⟩ | ⟨j, v, e, g1, g2, _, _, _⟩
  · rw [g1]
    cases ok <;> simp [Instr.lookup, Sem.run_bind, run_underlying hT, MapKept.run_getObj_map h1, MapKept.run_checkKey hd (K.is k), MapKept.run_findKey hd g2, hz, Result.andThen]
  · rw [g1]
    cases ok <;> simp [Instr.lookup, Sem.run_bind, run_underlying hT, MapKept.run_getObj_map h1, MapKept.run_checkKey hd (K.is k), MapKept.run_findKey hd g2, Result.andThen]
theorem map_modify {es : List MapEntry} {l : List (α × Value)} (k : α) (v : Value) (f : MapEntry → MapEntry) (hf : ∀ e, (f e).key = K.enc k ∧ (f e).val = v) :
    ∀ (j : Nat), es.map (fun e => (e.key, e.val)) = l.map (fun p => (K.enc p.1, p.2)) → (∃ e, es[j]? = some e ∧ e.key = K.enc k) → (∀ i e, i < j → es[i]? = some e → e.key ≠ K.enc k) →
    (es.modify j f).map (fun e => (e.key, e.val)) = (mput l k v).map (fun p => (K.enc p.1, p.2)) := by
  induction es generalizing l with
  | nil => rintro j h ⟨e, he, _⟩ _; simp at he
  | cons x r ih =>
    intro j h hj hi
    cases l with
    | nil => simp at h
    | cons p l =>
      simp only [List.map_cons, List.cons.injEq, Prod.mk.injEq] at h
      obtain ⟨⟨h1, h2⟩, h3⟩ := h
      cases j with
      | zero =>
        obtain ⟨e, he, hk⟩ := hj
        simp at he
        subst he
        have hp : p.1 = k := K.inj (h1.symm.trans hk)
        simp [mput, hp, List.modify, hf, h3]
      | succ j =>
        have hp : p.1 ≠ k := fun e => hi 0 x (by omega) rfl (by rw [h1, e])
        simp only [mput, if_neg hp, List.modify_succ_cons, List.map_cons, List.cons.injEq, Prod.mk.injEq]
        refine ⟨⟨h1, h2⟩, ih j h3 ?_ ?_⟩
        · obtain ⟨e, he, hk⟩ := hj
          exact ⟨e, by simpa using he, hk⟩
        · intro i e hlt he
          exact hi (i + 1) e (by omega) (by simpa using he)
theorem uniq_of {es : Array MapEntry} {cl : Nat} (h : Stamped es cl) {i j : Nat} {e e' : MapEntry} (hi : es.toList[i]? = some e) (hj : es.toList[j]? = some e') (hk : e.key = e'.key) : i = j := by
  have hp := ((stamped_iff es cl).1 h).2.2
  rcases Nat.lt_trichotomy i j with hl | hl | hl
  · obtain ⟨hi', rfl⟩ := List.getElem?_eq_some_iff.1 hi
    obtain ⟨hj', rfl⟩ := List.getElem?_eq_some_iff.1 hj
    exact absurd hk (List.pairwise_iff_getElem.1 hp i j hi' hj' hl)
  · exact hl
  · obtain ⟨hi', rfl⟩ := List.getElem?_eq_some_iff.1 hi
    obtain ⟨hj', rfl⟩ := List.getElem?_eq_some_iff.1 hj
    exact absurd hk.symm (List.pairwise_iff_getElem.1 hp j i hj' hi' hl)
theorem At.update {W : World} {B : Nat} {l : List (α × Value)} (h : At K W B l) (hT : P.underlying T = some (.map kt et)) (hd : P.underlying kt = some d) (k : α) (v : Value) :
    ∃ o, o.isCells = false ∧ (Instr.mapUpdate T (.map (some B)) (K.enc k) v).run P W = .ok () (W.putObj B o) ∧ At K (W.putObj B o) B (mput l k v) := by
  obtain ⟨es, cl, h1, h2, h3⟩ := h
  have hlt : B < W.heap.size := (Array.getElem?_eq_some_iff.1 h1).1
  rcases find_of (K := K) 0 k h3 with ⟨g1, g2, g3⟩ | ⟨j, u, e, g1, g2, g3, g4, g5⟩
  · refine ⟨.map (es.push { key := K.enc k, val := v, born := cl }) (cl + 1), rfl, ?_, _, _, World.putObj_heap_same hlt, stamped_push h2 g3, ?_⟩
    · simp [Instr.mapUpdate, Sem.run_bind, run_underlying hT, MapKept.run_getObj_map h1, MapKept.run_checkKey hd (K.is k), MapKept.run_findKey hd g2, MapKept.run_setObj_map _ h1, Result.andThen, World.putObj]
    · simp [mput_none g1, h3]
  · have hj : es[0 + j]? = some e := by rw [Nat.zero_add]; rw [← Array.getElem?_toList]; exact g3
    refine ⟨.map (es.modify (0 + j) fun e => { e with key := K.enc k, val := v }) cl, rfl, ?_, _, _, World.putObj_heap_same hlt, stamped_modify h2 _ _ (fun _ _ => rfl) (fun e' _ he' => by rw [hj] at he'; cases he'; exact g4.symm), ?_⟩
    · have hst := fun (w : World) => MapKept.run_keyThatStays (P := P) (w := w) (K.is k)
      simp [Instr.mapUpdate, Sem.run_bind, run_underlying hT, MapKept.run_getObj_map h1, MapKept.run_checkKey hd (K.is k), MapKept.run_findKey hd g2, MapKept.run_setObj_map _ h1, Result.andThen, World.putObj, hj, g4, hst]
      simp only [Nat.zero_add] at hj
      simp [hj, g4, hst, MapKept.run_setObj_map _ h1, Result.andThen]
    · rw [Nat.zero_add, Array.toList_modify]
      refine map_modify k v _ (fun _ => ⟨rfl, rfl⟩) j h3 ⟨e, g3, g4⟩ ?_
      intro i e' hlt' he' hk'
      have := uniq_of h2 he' g3 (hk'.trans g4.symm)
      omega
end
end Go.Proofs.YthpecpkncifngaaDoor.Mp
end

-- PRINTED by print.py (a twelfth state) out of the translation. Not trusted: Lean checks it.
section
namespace Go.Proofs.YthpecpkncifngaaDoor.X
open Go.RowKit Go.Proofs.YthpecpkncifngaaDoorW.PrintWords Go.Proofs.YthpecpkncifngaaDoorW.PrintLast Go.Proofs.YthpecpkncifngaaDoorW.PrintMore
attribute [local go_sem] max2_int min2_int max_two min_two max_three min_three max_four min_four   -- for this text's walks alone
-- NOT PRINTED: function 22 (tabularyref11_With)
def tabularylaw11_small.f  : Option ((List (S26))) := some (([(⟨(⟨#[97]⟩ : ByteArray), 2, 0, 0, ([] : List Int), (⟨#[]⟩ : ByteArray)⟩ : S26), (⟨(⟨#[97, 47, 102]⟩ : ByteArray), 1, 0, 0, (([1, 2, 3] : List Int)), (⟨#[]⟩ : ByteArray)⟩ : S26), (⟨(⟨#[97, 47, 104]⟩ : ByteArray), 3, 0, 0, ([] : List Int), (⟨#[97, 47, 102]⟩ : ByteArray)⟩ : S26), (⟨(⟨#[97, 47, 115]⟩ : ByteArray), 4, 0, 0, ([] : List Int), (⟨#[102]⟩ : ByteArray)⟩ : S26), (⟨(⟨#[108]⟩ : ByteArray), 4, 0, 0, ([] : List Int), (⟨#[97]⟩ : ByteArray)⟩ : S26)] : List (S26)))
set_option maxHeartbeats 8000000 in
set_option maxRecDepth 100000 in
theorem tabularylaw11_small.calls  (r : List (S26)) (w : World) (h : tabularylaw11_small.f  = some r) :
    Calls Tryd.prog 34 #[] w fun e w' => ∃ v0_ : Value, e = .returned (v0_) ∧ Kd.N k26 26 w' w.heap.size (fun k_ => (w.heap.size ≤ k_)) v0_ r ∧ Below w.heap.size w w' := by
  have hu26 := Tryd.underlying26
  have HB := Aside0.mk (Below.refl w.heap.size w)
  have H : (some (([(⟨(⟨#[97]⟩ : ByteArray), 2, 0, 0, ([] : List Int), (⟨#[]⟩ : ByteArray)⟩ : S26), (⟨(⟨#[97, 47, 102]⟩ : ByteArray), 1, 0, 0, (([1, 2, 3] : List Int)), (⟨#[]⟩ : ByteArray)⟩ : S26), (⟨(⟨#[97, 47, 104]⟩ : ByteArray), 3, 0, 0, ([] : List Int), (⟨#[97, 47, 102]⟩ : ByteArray)⟩ : S26), (⟨(⟨#[97, 47, 115]⟩ : ByteArray), 4, 0, 0, ([] : List Int), (⟨#[102]⟩ : ByteArray)⟩ : S26), (⟨(⟨#[108]⟩ : ByteArray), 4, 0, 0, ([] : List Int), (⟨#[97]⟩ : ByteArray)⟩ : S26)] : List (S26)))) = some r := h
  clear h
  obtain ⟨y243, hy243⟩ : ∃ y_ : List Int, y_ = (([1, 2, 3] : List Int)) := ⟨_, rfl⟩
  replace H : (some (([(⟨(⟨#[97]⟩ : ByteArray), 2, 0, 0, ([] : List Int), (⟨#[]⟩ : ByteArray)⟩ : S26), (⟨(⟨#[97, 47, 102]⟩ : ByteArray), 1, 0, 0, y243, (⟨#[]⟩ : ByteArray)⟩ : S26), (⟨(⟨#[97, 47, 104]⟩ : ByteArray), 3, 0, 0, ([] : List Int), (⟨#[97, 47, 102]⟩ : ByteArray)⟩ : S26), (⟨(⟨#[97, 47, 115]⟩ : ByteArray), 4, 0, 0, ([] : List Int), (⟨#[102]⟩ : ByteArray)⟩ : S26), (⟨(⟨#[108]⟩ : ByteArray), 4, 0, 0, ([] : List Int), (⟨#[97]⟩ : ByteArray)⟩ : S26)] : List (S26)))) = some r := by first | (rw [hy243]; with_reducible exact H) | (have H2_ := (Option.bind_some _ _).symm.trans H; rw [hy243]; with_reducible exact H2_) | (have H2_ := (Option.bind_some _ _).symm.trans H; with_reducible exact H2_) | with_reducible exact H | (rw [hy243]; exact H) | exact H
  have Ny243 := Aside0.mk hy243
  clear hy243
  obtain ⟨y246, hy246⟩ : ∃ y_ : List (S26), y_ = (([(⟨(⟨#[97]⟩ : ByteArray), 2, 0, 0, ([] : List Int), (⟨#[]⟩ : ByteArray)⟩ : S26), (⟨(⟨#[97, 47, 102]⟩ : ByteArray), 1, 0, 0, y243, (⟨#[]⟩ : ByteArray)⟩ : S26), (⟨(⟨#[97, 47, 104]⟩ : ByteArray), 3, 0, 0, ([] : List Int), (⟨#[97, 47, 102]⟩ : ByteArray)⟩ : S26), (⟨(⟨#[97, 47, 115]⟩ : ByteArray), 4, 0, 0, ([] : List Int), (⟨#[102]⟩ : ByteArray)⟩ : S26), (⟨(⟨#[108]⟩ : ByteArray), 4, 0, 0, ([] : List Int), (⟨#[97]⟩ : ByteArray)⟩ : S26)] : List (S26))) := ⟨_, rfl⟩
  replace H : (some y246) = some r := by first | (rw [hy246]; with_reducible exact H) | (have H2_ := (Option.bind_some _ _).symm.trans H; rw [hy246]; with_reducible exact H2_) | (have H2_ := (Option.bind_some _ _).symm.trans H; with_reducible exact H2_) | with_reducible exact H | (rw [hy246]; exact H) | exact H
  have Ny246 := Aside0.mk hy246
  clear hy246
  obtain rfl := Option.some.inj H
  go_enter Tryd.func34, Tryd.ntmps34
  go_wp2_with (first | ((with_reducible refine gate_dst (N := 2) rfl ?_); refine Kd.R_lit (Kd.int .u8) _ 5 ?hg (N := 2) ?hd (xs := ([1, 2, 3] : List Int)) (inner := [.int .u8 1, .int .u8 2, .int .u8 3]) (ok := fun _ => True) (okp := fun _ => True) ?hr ?hp (fun _ hk => hk) trivial (Below.refl _ _) (Nat.le_refl _) (by simp) ?_; (case hd => rfl); (case hg => rfl); (case hr => first | (go_simp; done) | (go_simp; rfl)); (case hp => exact (Reps.one (show Kd.M (Kd.int .u8) _ _ _ 1 [.int .u8 1] from rfl) (Reps.one (show Kd.M (Kd.int .u8) _ _ _ 2 [.int .u8 2] from rfl) (Reps.one (show Kd.M (Kd.int .u8) _ _ _ 3 [.int .u8 3] from rfl) (Reps.none _ _))))); intro v244 w1 ho2 hb hg_ hnew_; clear hg_ hnew_; (first | rw [← Ny243.out] at ho2 | (simp only [Int.reduceToNat] at ho2; rw [← Ny243.out] at ho2)); have n0_ := Aside0.mk (Kd.R_lower (Kd.R_newM (M := fun k_ => (w.heap.size ≤ k_)) ho2 (below_size (by repeat (first | (with_reducible first | exact HB.out | apply below_alloc | apply pw_below_drewN | apply below_drew1) | exact HB.out))) (fun k_ h_ => h_)) (below_size (by repeat (first | (with_reducible first | exact HB.out | apply below_alloc | apply pw_below_drewN | apply below_drew1) | exact HB.out)))); have n1_ := Aside0.mk (below_step (by repeat (first | (with_reducible first | exact HB.out | apply below_alloc | apply pw_below_drewN | apply below_drew1) | exact HB.out)) hb); clear HB; have HO245 := n0_; have HB := n1_; clear n0_ n1_; clear hb ho2; obtain ⟨Ao3, co3, eo3⟩ := Kd.R_slice HO245.out; subst eo3) | ((with_reducible refine gate_dst (N := 7) rfl ?_); refine Kd.N_lit k26 _ 26 ?hg (N' := 7) ?hd (xs := ([(⟨(⟨#[97]⟩ : ByteArray), 2, 0, 0, ([] : List Int), (⟨#[]⟩ : ByteArray)⟩ : S26), (⟨(⟨#[97, 47, 102]⟩ : ByteArray), 1, 0, 0, y243, (⟨#[]⟩ : ByteArray)⟩ : S26), (⟨(⟨#[97, 47, 104]⟩ : ByteArray), 3, 0, 0, ([] : List Int), (⟨#[97, 47, 102]⟩ : ByteArray)⟩ : S26), (⟨(⟨#[97, 47, 115]⟩ : ByteArray), 4, 0, 0, ([] : List Int), (⟨#[102]⟩ : ByteArray)⟩ : S26), (⟨(⟨#[108]⟩ : ByteArray), 4, 0, 0, ([] : List Int), (⟨#[97]⟩ : ByteArray)⟩ : S26)] : List (S26))) (inner := [.string (⟨#[97]⟩ : ByteArray), .int .u8 2, .int .i64 0, .int .i64 0, .slice none 0 0, .string (⟨#[]⟩ : ByteArray), .string (⟨#[97, 47, 102]⟩ : ByteArray), .int .u8 1, .int .i64 0, .int .i64 0, .slice Ao3 y243.length co3, .string (⟨#[]⟩ : ByteArray), .string (⟨#[97, 47, 104]⟩ : ByteArray), .int .u8 3, .int .i64 0, .int .i64 0, .slice none 0 0, .string (⟨#[97, 47, 102]⟩ : ByteArray), .string (⟨#[97, 47, 115]⟩ : ByteArray), .int .u8 4, .int .i64 0, .int .i64 0, .slice none 0 0, .string (⟨#[102]⟩ : ByteArray), .string (⟨#[108]⟩ : ByteArray), .int .u8 4, .int .i64 0, .int .i64 0, .slice none 0 0, .string (⟨#[97]⟩ : ByteArray)]) (ok := (fun k_ => (w.heap.size ≤ k_))) (okp := (fun k_ => (w.heap.size ≤ k_))) ?hr ?hp (fun _ hk => hk) ((show ∀ k_, w1.heap.size ≤ k_ → (fun k_ => (w.heap.size ≤ k_)) k_ from fun k_ hk => (Nat.le_trans (below_size (by repeat (first | (with_reducible first | exact HB.out | apply below_alloc | apply pw_below_drewN | apply below_drew1) | exact HB.out))) hk)) _ (Nat.le_refl _)) (Below.refl _ _) (Nat.le_refl _) (by simp) ?_; (case hd => rfl); (case hg => rfl); (case hr => first | (go_simp; done) | (go_simp; rfl)); (case hp => exact (Reps.c6 (show Kd.FK k26 _ _ (⟨(⟨#[97]⟩ : ByteArray), 2, 0, 0, ([] : List Int), (⟨#[]⟩ : ByteArray)⟩ : S26) [.string (⟨#[97]⟩ : ByteArray), .int .u8 2, .int .i64 0, .int .i64 0, .slice none 0 0, .string (⟨#[]⟩ : ByteArray)] from (k26_mkF _ _ (⟨(⟨#[97]⟩ : ByteArray), 2, 0, 0, ([] : List Int), (⟨#[]⟩ : ByteArray)⟩ : S26) (Nat.le_refl _) (Kd.F_nil _ _ _))) (Reps.c6 (show Kd.FK k26 _ _ (⟨(⟨#[97, 47, 102]⟩ : ByteArray), 1, 0, 0, y243, (⟨#[]⟩ : ByteArray)⟩ : S26) [.string (⟨#[97, 47, 102]⟩ : ByteArray), .int .u8 1, .int .i64 0, .int .i64 0, .slice Ao3 y243.length co3, .string (⟨#[]⟩ : ByteArray)] from (k26_mkF _ _ (⟨(⟨#[97, 47, 102]⟩ : ByteArray), 1, 0, 0, y243, (⟨#[]⟩ : ByteArray)⟩ : S26) (Kd.R_reads' (Kd.R_mono (ok' := (fun k_ => (w.heap.size ≤ k_))) (HO245.out) (fun k_ hk => hk.1))).2.1 (Kd.R_F (Kd.R_mono (ok' := (fun k_ => (w.heap.size ≤ k_))) (HO245.out) (fun k_ hk => hk.1))))) (Reps.c6 (show Kd.FK k26 _ _ (⟨(⟨#[97, 47, 104]⟩ : ByteArray), 3, 0, 0, ([] : List Int), (⟨#[97, 47, 102]⟩ : ByteArray)⟩ : S26) [.string (⟨#[97, 47, 104]⟩ : ByteArray), .int .u8 3, .int .i64 0, .int .i64 0, .slice none 0 0, .string (⟨#[97, 47, 102]⟩ : ByteArray)] from (k26_mkF _ _ (⟨(⟨#[97, 47, 104]⟩ : ByteArray), 3, 0, 0, ([] : List Int), (⟨#[97, 47, 102]⟩ : ByteArray)⟩ : S26) (Nat.le_refl _) (Kd.F_nil _ _ _))) (Reps.c6 (show Kd.FK k26 _ _ (⟨(⟨#[97, 47, 115]⟩ : ByteArray), 4, 0, 0, ([] : List Int), (⟨#[102]⟩ : ByteArray)⟩ : S26) [.string (⟨#[97, 47, 115]⟩ : ByteArray), .int .u8 4, .int .i64 0, .int .i64 0, .slice none 0 0, .string (⟨#[102]⟩ : ByteArray)] from (k26_mkF _ _ (⟨(⟨#[97, 47, 115]⟩ : ByteArray), 4, 0, 0, ([] : List Int), (⟨#[102]⟩ : ByteArray)⟩ : S26) (Nat.le_refl _) (Kd.F_nil _ _ _))) (Reps.c6 (show Kd.FK k26 _ _ (⟨(⟨#[108]⟩ : ByteArray), 4, 0, 0, ([] : List Int), (⟨#[97]⟩ : ByteArray)⟩ : S26) [.string (⟨#[108]⟩ : ByteArray), .int .u8 4, .int .i64 0, .int .i64 0, .slice none 0 0, .string (⟨#[97]⟩ : ByteArray)] from (k26_mkF _ _ (⟨(⟨#[108]⟩ : ByteArray), 4, 0, 0, ([] : List Int), (⟨#[97]⟩ : ByteArray)⟩ : S26) (Nat.le_refl _) (Kd.F_nil _ _ _))) (Reps.none _ _))))))); intro v247 w4 ho5 hb hg_ hnew_; clear hg_ hnew_; (first | rw [← Ny246.out] at ho5 | (simp only [Int.reduceToNat] at ho5; rw [← Ny246.out] at ho5)); have n0_ := Aside0.mk (Kd.N_lower ho5 (below_size (by repeat (first | (with_reducible first | exact HB.out | apply below_alloc | apply pw_below_drewN | apply below_drew1) | exact HB.out)))); have n1_ := Aside0.mk (below_step (by repeat (first | (with_reducible first | exact HB.out | apply below_alloc | apply pw_below_drewN | apply below_drew1) | exact HB.out)) hb); clear HB; clear HO245; have HO248 := n0_; have HB := n1_; clear n0_ n1_; clear hb ho5))
  go_ret
  exact ⟨_, by first | rfl | (simp [errW_none, errW_some] <;> rfl) | (simp [*, errW_none, errW_some] <;> rfl), by (with_reducible repeat (first | apply Kd.N_alloc | apply Kd.N_drewN | apply Kd.N_drew)); exact HO248.out, by repeat (first | (with_reducible first | exact HB.out | apply below_alloc | apply pw_below_drewN | apply below_drew1) | exact HB.out)⟩
def strings_IndexByte.f (a0 : ByteArray) (a1 : Int) : Option Int := some (Lib.indexByte a0.data.toList a1.toNat.toUInt8)
theorem strings_IndexByte.calls (a0 : ByteArray) (a1 : Int) (r : Int) (w : World) (h : strings_IndexByte.f a0 a1 = some r) :
    Calls Tryd.prog 70 #[.string a0, .int .u8 a1] w fun e w' => e = .returned (.int .i64 r) ∧ Drawn0 w w' := by
  obtain rfl := Option.some.inj h
  refine (Tryd.strings_IndexByte a0 a1 w).mono ?_
  rintro e w' ⟨rfl, rfl⟩
  exact ⟨rfl, Drawn0.refl _⟩
def cmp_isNaN_string.f (a0 : ByteArray) : Option (Bool) := some (a0.toList != a0.toList)
set_option maxHeartbeats 8000000 in
set_option maxRecDepth 100000 in
theorem cmp_isNaN_string.calls (a0 : ByteArray) (r : Bool) (w : World) (h : cmp_isNaN_string.f a0 = some r) :
    Calls Tryd.prog 96 #[.string a0] w fun e w' => e = .returned (.bool r) ∧ Drawn0 w w' := by
  have H : (some (a0.toList != a0.toList)) = some r := h
  clear h
  obtain rfl := Option.some.inj H
  go_enter Tryd.func96, Tryd.ntmps96
  go_wp2
  go_ret
  exact ⟨by first | rfl | (simp; done) | (simp [*]; done), by repeat (first | exact Drawn0.refl _ | apply Drawn0.step)⟩
def cmp_Compare_string.f (a0 : ByteArray) (a1 : ByteArray) : Option (Int) := (cmp_isNaN_string.f a0).bind fun t271 => ((cmp_isNaN_string.f a1).bind fun t272 => (if t271 = true then (if t272 = true then (some 0) else (some (-1))) else (if t272 = true then (some 1) else (if (Op.bytesLess a0.toList a1.toList) = true then (some (-1)) else (if (Op.bytesLess a1.toList a0.toList) = true then (some 1) else (some 0))))))
set_option maxHeartbeats 8000000 in
set_option maxRecDepth 100000 in
theorem cmp_Compare_string.calls (a0 : ByteArray) (a1 : ByteArray) (r : Int) (w : World) (h : cmp_Compare_string.f a0 a1 = some r) :
    Calls Tryd.prog 71 #[.string a0, .string a1] w fun e w' => e = .returned (.int .i64 r) ∧ Drawn0 w w' := by
  have H : ((cmp_isNaN_string.f a0).bind fun t271 => ((cmp_isNaN_string.f a1).bind fun t272 => (if t271 = true then (if t272 = true then (some 0) else (some (-1))) else (if t272 = true then (some 1) else (if (Op.bytesLess a0.toList a1.toList) = true then (some (-1)) else (if (Op.bytesLess a1.toList a0.toList) = true then (some 1) else (some 0))))))) = some r := h
  clear h
  replace H := Option.bind_eq_some_iff.mp H
  obtain ⟨t271, A30, H⟩ := H
  replace H : ((cmp_isNaN_string.f a1).bind fun t272 => (if t271 = true then (if t272 = true then (some 0) else (some (-1))) else (if t272 = true then (some 1) else (if (Op.bytesLess a0.toList a1.toList) = true then (some (-1)) else (if (Op.bytesLess a1.toList a0.toList) = true then (some 1) else (some 0)))))) = some r := H
  have A3 := Aside0.mk A30
  clear A30
  replace H := Option.bind_eq_some_iff.mp H
  obtain ⟨t272, A40, H⟩ := H
  replace H : (if t271 = true then (if t272 = true then (some 0) else (some (-1))) else (if t272 = true then (some 1) else (if (Op.bytesLess a0.toList a1.toList) = true then (some (-1)) else (if (Op.bytesLess a1.toList a0.toList) = true then (some 1) else (some 0))))) = some r := H
  have A4 := Aside0.mk A40
  clear A40
  by_cases c5 : t271 = true
  · subst c5
    have H1 : (if t272 = true then (some 0) else (some (-1))) = some r := by rw [if_pos rfl] at H; exact H
    clear H
    have H := H1
    clear H1
    by_cases c6 : t272 = true
    · subst c6
      have H1 : (some 0) = some r := by rw [if_pos rfl] at H; exact H
      clear H
      have H := H1
      clear H1
      obtain rfl := Option.some.inj H
      go_enter Tryd.func71, Tryd.ntmps71
      go_wp2_with (first | ((with_reducible refine gate_callee (f := 96) rfl ?_); refine goesL_ (some 8) rfl rfl Tryd.func96 (by kernel_rfl) rfl #[.string a0] rfl (by (try simp only [List.map_toArray, List.map_cons, List.map_nil]); first | done | rfl | (simp only [List.length_drop, List.length_take]; rfl)) ?_; (with_reducible refine (cmp_isNaN_string.calls a0 true _ A3.out).mono ?_); rintro e w' ⟨rfl, ⟨nd, rfl⟩⟩; refine ⟨_, rfl, ?_⟩) | ((with_reducible refine gate_callee (f := 96) rfl ?_); refine goesL_ (some 10) rfl rfl Tryd.func96 (by kernel_rfl) rfl #[.string a1] rfl (by (try simp only [List.map_toArray, List.map_cons, List.map_nil]); first | done | rfl | (simp only [List.length_drop, List.length_take]; rfl)) ?_; (with_reducible refine (cmp_isNaN_string.calls a1 true _ A4.out).mono ?_); rintro e w' ⟨rfl, ⟨nd, rfl⟩⟩; refine ⟨_, rfl, ?_⟩))
      go_ret
      exact ⟨by first | rfl | (simp; done) | (simp [*]; done), by repeat (first | exact Drawn0.refl _ | apply Drawn0.step)⟩
    · replace c6 := Bool.eq_false_iff.mpr c6
      subst c6
      have H1 : (some (-1)) = some r := by rw [if_neg (show ¬ (false = true) by decide)] at H; exact H
      clear H
      have H := H1
      clear H1
      obtain rfl := Option.some.inj H
      go_enter Tryd.func71, Tryd.ntmps71
      go_wp2_with (first | ((with_reducible refine gate_callee (f := 96) rfl ?_); refine goesL_ (some 8) rfl rfl Tryd.func96 (by kernel_rfl) rfl #[.string a0] rfl (by (try simp only [List.map_toArray, List.map_cons, List.map_nil]); first | done | rfl | (simp only [List.length_drop, List.length_take]; rfl)) ?_; (with_reducible refine (cmp_isNaN_string.calls a0 true _ A3.out).mono ?_); rintro e w' ⟨rfl, ⟨nd, rfl⟩⟩; refine ⟨_, rfl, ?_⟩) | ((with_reducible refine gate_callee (f := 96) rfl ?_); refine goesL_ (some 10) rfl rfl Tryd.func96 (by kernel_rfl) rfl #[.string a1] rfl (by (try simp only [List.map_toArray, List.map_cons, List.map_nil]); first | done | rfl | (simp only [List.length_drop, List.length_take]; rfl)) ?_; (with_reducible refine (cmp_isNaN_string.calls a1 false _ A4.out).mono ?_); rintro e w' ⟨rfl, ⟨nd, rfl⟩⟩; refine ⟨_, rfl, ?_⟩))
      go_ret
      exact ⟨by first | rfl | (simp; done) | (simp [*]; done), by repeat (first | exact Drawn0.refl _ | apply Drawn0.step)⟩
  · replace c5 := Bool.eq_false_iff.mpr c5
    subst c5
    have H1 : (if t272 = true then (some 1) else (if (Op.bytesLess a0.toList a1.toList) = true then (some (-1)) else (if (Op.bytesLess a1.toList a0.toList) = true then (some 1) else (some 0)))) = some r := by rw [if_neg (show ¬ (false = true) by decide)] at H; exact H
    clear H
    have H := H1
    clear H1
    by_cases c7 : t272 = true
    · subst c7
      have H1 : (some 1) = some r := by rw [if_pos rfl] at H; exact H
      clear H
      have H := H1
      clear H1
      obtain rfl := Option.some.inj H
      go_enter Tryd.func71, Tryd.ntmps71
      go_wp2_with (first | ((with_reducible refine gate_callee (f := 96) rfl ?_); refine goesL_ (some 8) rfl rfl Tryd.func96 (by kernel_rfl) rfl #[.string a0] rfl (by (try simp only [List.map_toArray, List.map_cons, List.map_nil]); first | done | rfl | (simp only [List.length_drop, List.length_take]; rfl)) ?_; (with_reducible refine (cmp_isNaN_string.calls a0 false _ A3.out).mono ?_); rintro e w' ⟨rfl, ⟨nd, rfl⟩⟩; refine ⟨_, rfl, ?_⟩) | ((with_reducible refine gate_callee (f := 96) rfl ?_); refine goesL_ (some 10) rfl rfl Tryd.func96 (by kernel_rfl) rfl #[.string a1] rfl (by (try simp only [List.map_toArray, List.map_cons, List.map_nil]); first | done | rfl | (simp only [List.length_drop, List.length_take]; rfl)) ?_; (with_reducible refine (cmp_isNaN_string.calls a1 true _ A4.out).mono ?_); rintro e w' ⟨rfl, ⟨nd, rfl⟩⟩; refine ⟨_, rfl, ?_⟩))
      go_ret
      exact ⟨by first | rfl | (simp; done) | (simp [*]; done), by repeat (first | exact Drawn0.refl _ | apply Drawn0.step)⟩
    · replace c7 := Bool.eq_false_iff.mpr c7
      subst c7
      have H1 : (if (Op.bytesLess a0.toList a1.toList) = true then (some (-1)) else (if (Op.bytesLess a1.toList a0.toList) = true then (some 1) else (some 0))) = some r := by rw [if_neg (show ¬ (false = true) by decide)] at H; exact H
      clear H
      have H := H1
      clear H1
      by_cases c8 : (Op.bytesLess a0.toList a1.toList) = true
      · rw [if_pos c8] at H
        have c8b0 : (Op.bytesLess a0.toList a1.toList) = true := c8
        clear c8
        obtain rfl := Option.some.inj H
        go_enter Tryd.func71, Tryd.ntmps71
        go_wp2_with (first | ((with_reducible refine gate_callee (f := 96) rfl ?_); refine goesL_ (some 8) rfl rfl Tryd.func96 (by kernel_rfl) rfl #[.string a0] rfl (by (try simp only [List.map_toArray, List.map_cons, List.map_nil]); first | done | rfl | (simp only [List.length_drop, List.length_take]; rfl)) ?_; (with_reducible refine (cmp_isNaN_string.calls a0 false _ A3.out).mono ?_); rintro e w' ⟨rfl, ⟨nd, rfl⟩⟩; refine ⟨_, rfl, ?_⟩) | ((with_reducible refine gate_callee (f := 96) rfl ?_); refine goesL_ (some 10) rfl rfl Tryd.func96 (by kernel_rfl) rfl #[.string a1] rfl (by (try simp only [List.map_toArray, List.map_cons, List.map_nil]); first | done | rfl | (simp only [List.length_drop, List.length_take]; rfl)) ?_; (with_reducible refine (cmp_isNaN_string.calls a1 false _ A4.out).mono ?_); rintro e w' ⟨rfl, ⟨nd, rfl⟩⟩; refine ⟨_, rfl, ?_⟩))
        go_ret
        exact ⟨by first | rfl | (simp; done) | (simp [*]; done), by repeat (first | exact Drawn0.refl _ | apply Drawn0.step)⟩
      · rw [if_neg c8] at H
        have c8b0 : (Op.bytesLess a0.toList a1.toList) = false := by simpa using c8
        clear c8
        by_cases c9 : (Op.bytesLess a1.toList a0.toList) = true
        · rw [if_pos c9] at H
          have c9b0 : (Op.bytesLess a1.toList a0.toList) = true := c9
          clear c9
          obtain rfl := Option.some.inj H
          go_enter Tryd.func71, Tryd.ntmps71
          go_wp2_with (first | ((with_reducible refine gate_callee (f := 96) rfl ?_); refine goesL_ (some 8) rfl rfl Tryd.func96 (by kernel_rfl) rfl #[.string a0] rfl (by (try simp only [List.map_toArray, List.map_cons, List.map_nil]); first | done | rfl | (simp only [List.length_drop, List.length_take]; rfl)) ?_; (with_reducible refine (cmp_isNaN_string.calls a0 false _ A3.out).mono ?_); rintro e w' ⟨rfl, ⟨nd, rfl⟩⟩; refine ⟨_, rfl, ?_⟩) | ((with_reducible refine gate_callee (f := 96) rfl ?_); refine goesL_ (some 10) rfl rfl Tryd.func96 (by kernel_rfl) rfl #[.string a1] rfl (by (try simp only [List.map_toArray, List.map_cons, List.map_nil]); first | done | rfl | (simp only [List.length_drop, List.length_take]; rfl)) ?_; (with_reducible refine (cmp_isNaN_string.calls a1 false _ A4.out).mono ?_); rintro e w' ⟨rfl, ⟨nd, rfl⟩⟩; refine ⟨_, rfl, ?_⟩))
          go_ret
          exact ⟨by first | rfl | (simp; done) | (simp [*]; done), by repeat (first | exact Drawn0.refl _ | apply Drawn0.step)⟩
        · rw [if_neg c9] at H
          have c9b0 : (Op.bytesLess a1.toList a0.toList) = false := by simpa using c9
          clear c9
          obtain rfl := Option.some.inj H
          go_enter Tryd.func71, Tryd.ntmps71
          go_wp2_with (first | ((with_reducible refine gate_callee (f := 96) rfl ?_); refine goesL_ (some 8) rfl rfl Tryd.func96 (by kernel_rfl) rfl #[.string a0] rfl (by (try simp only [List.map_toArray, List.map_cons, List.map_nil]); first | done | rfl | (simp only [List.length_drop, List.length_take]; rfl)) ?_; (with_reducible refine (cmp_isNaN_string.calls a0 false _ A3.out).mono ?_); rintro e w' ⟨rfl, ⟨nd, rfl⟩⟩; refine ⟨_, rfl, ?_⟩) | ((with_reducible refine gate_callee (f := 96) rfl ?_); refine goesL_ (some 10) rfl rfl Tryd.func96 (by kernel_rfl) rfl #[.string a1] rfl (by (try simp only [List.map_toArray, List.map_cons, List.map_nil]); first | done | rfl | (simp only [List.length_drop, List.length_take]; rfl)) ?_; (with_reducible refine (cmp_isNaN_string.calls a1 false _ A4.out).mono ?_); rintro e w' ⟨rfl, ⟨nd, rfl⟩⟩; refine ⟨_, rfl, ?_⟩))
          go_ret
          exact ⟨by first | rfl | (simp; done) | (simp [*]; done), by repeat (first | exact Drawn0.refl _ | apply Drawn0.step)⟩
end Go.Proofs.YthpecpkncifngaaDoor.X
end

-- PRINTED by print.py (a twelfth state) out of the translation. Not trusted: Lean checks it.
section
namespace Go.Proofs.YthpecpkncifngaaDoor.X
open Go.RowKit Go.Proofs.YthpecpkncifngaaDoorW.PrintWords Go.Proofs.YthpecpkncifngaaDoorW.PrintLast Go.Proofs.YthpecpkncifngaaDoorW.PrintMore
attribute [local go_sem] max2_int min2_int max_two min_two max_three min_three max_four min_four   -- for this text's walks alone
mutual
def name_Compare.l0 : Nat → ByteArray → ByteArray → Option (Int)
  | 0, _, _ => none
  | k + 1, x0, x1 => (strings_IndexByte.f x0 47).bind fun t273 => ((strings_IndexByte.f x1 47).bind fun t274 => (if t273 ≥ 0 then (if 0 ≤ t273 then (if t273 ≤ (x0.size : Int) then (name_Compare.j1 k x0 x1 t273 t274 (x0.extract 0 (t273 : Int).toNat) x1) else (none)) else (none)) else (name_Compare.j1 k x0 x1 t273 t274 x0 x1)))
def name_Compare.j1 : Nat → ByteArray → ByteArray → Int → Int → ByteArray → ByteArray → Option (Int)
  | 0, _, _, _, _, _, _ => none
  | k + 1, x0, x1, x5, x6, x7, x8 => if x6 ≥ 0 then (if 0 ≤ x6 then (if x6 ≤ (x1.size : Int) then (name_Compare.j2 k x0 x1 x5 x6 x7 (x1.extract 0 (x6 : Int).toNat)) else (none)) else (none)) else (name_Compare.j2 k x0 x1 x5 x6 x7 x8)
def name_Compare.j2 : Nat → ByteArray → ByteArray → Int → Int → ByteArray → ByteArray → Option (Int)
  | 0, _, _, _, _, _, _ => none
  | k + 1, x0, x1, x5, x6, x7, x8 => (cmp_Compare_string.f x7 x8).bind fun t275 => (if t275 = 0 then (if x5 < 0 then (name_Compare.j3 k x0 x1 x5 x6 (decide (x6 < 0))) else (name_Compare.j3 k x0 x1 x5 x6 false)) else (some t275))
def name_Compare.j3 : Nat → ByteArray → ByteArray → Int → Int → Bool → Option (Int)
  | 0, _, _, _, _, _ => none
  | k + 1, x0, x1, x5, x6, x32 => if x32 = true then (some 0) else (if x5 < 0 then (some (-1)) else (if x6 < 0 then (some 1) else (if 0 ≤ (wrap64 (x5 + 1)) then (if (wrap64 (x5 + 1)) ≤ (x0.size : Int) then (if 0 ≤ (wrap64 (x6 + 1)) then (if (wrap64 (x6 + 1)) ≤ (x1.size : Int) then (name_Compare.l0 k (x0.extract ((wrap64 (x5 + 1)) : Int).toNat x0.size) (x1.extract ((wrap64 (x6 + 1)) : Int).toNat x1.size)) else (none)) else (none)) else (none)) else (none))))
end
def name_Compare.f (k : Nat) (a0 : ByteArray) (a1 : ByteArray) : Option (Int) := name_Compare.l0 k a0 a1
set_option maxHeartbeats 8000000 in
set_option maxRecDepth 100000 in
theorem name_Compare.calls (k : Nat) (a0 : ByteArray) (a1 : ByteArray) (r : Int) (w : World) (h : name_Compare.f k a0 a1 = some r) :
    Calls Tryd.prog 36 #[.string a0, .string a1] w fun e w' => e = .returned (.int .i64 r) ∧ Drawn0 w w' := by
  have H : (name_Compare.l0 k a0 a1) = some r := h
  clear h
  have H' := Aside0.mk H
  clear H
  go_enter Tryd.func36, Tryd.ntmps36
  go_wp2
  repeat (go_quiet (fail); try go_wp2)
  go_loopg [0, 1] k (fun kq v0 v1 w' => ∃ (x0_1 : ByteArray) (x1_1 : ByteArray), v0 = .string x0_1 ∧ v1 = .string x1_1 ∧ Aside0 (name_Compare.l0 kq x0_1 x1_1 = some r) ∧ Aside0 (kq ≤ k) ∧ Drawn0 w w')
  case atStart => exact ⟨(a0), (a1), (by first | rfl | (simp; done) | (simp [*]; done)), (by first | rfl | (simp; done) | (simp [*]; done)), H', ⟨Nat.le_refl _⟩, by repeat (first | exact Drawn0.refl _ | apply Drawn0.step)⟩
  case round =>
    clear H'
    try clear p2
    obtain ⟨x0_1, x1_1, rfl, rfl, HA, HK1, ⟨m1, rfl⟩⟩ := hrel
    cases gk with
    | zero => exact absurd HA.out (by simp [name_Compare.l0])
    | succ k1 =>
      have H := HA.out
      clear HA
      simp only [name_Compare.l0] at H
      replace H := Option.bind_eq_some_iff.mp H
      obtain ⟨t273, A30, H⟩ := H
      replace H : ((strings_IndexByte.f x1_1 47).bind fun t274 => (if t273 ≥ 0 then (if 0 ≤ t273 then (if t273 ≤ (x0_1.size : Int) then (name_Compare.j1 k1 x0_1 x1_1 t273 t274 (x0_1.extract 0 (t273 : Int).toNat) x1_1) else (none)) else (none)) else (name_Compare.j1 k1 x0_1 x1_1 t273 t274 x0_1 x1_1))) = some r := H
      have A3 := Aside0.mk A30
      clear A30
      replace H := Option.bind_eq_some_iff.mp H
      obtain ⟨t274, A40, H⟩ := H
      replace H : (if t273 ≥ 0 then (if 0 ≤ t273 then (if t273 ≤ (x0_1.size : Int) then (name_Compare.j1 k1 x0_1 x1_1 t273 t274 (x0_1.extract 0 (t273 : Int).toNat) x1_1) else (none)) else (none)) else (name_Compare.j1 k1 x0_1 x1_1 t273 t274 x0_1 x1_1)) = some r := H
      have A4 := Aside0.mk A40
      clear A40
      have HC5 := Aside0.mk H
      clear H
      go_upto_if 17 with (first | (go_at_call 70; (with_reducible refine (strings_IndexByte.calls x0_1 47 t273 _ A3.out).mono ?_); rintro e w' ⟨rfl, ⟨nd, rfl⟩⟩; (try first | exact ⟨rfl, _, World.drewN_drewN _ _ _⟩ | exact ⟨rfl, _, Eq.trans (World.drewN_drewN _ _ _) (congrArg (World.drewN _) (Nat.add_assoc _ _ _))⟩)) | (go_at_call 70; (with_reducible refine (strings_IndexByte.calls x1_1 47 t274 _ A4.out).mono ?_); rintro e w' ⟨rfl, ⟨nd, rfl⟩⟩; (try first | exact ⟨rfl, _, World.drewN_drewN _ _ _⟩ | exact ⟨rfl, _, Eq.trans (World.drewN_drewN _ _ _) (congrArg (World.drewN _) (Nat.add_assoc _ _ _))⟩)))
      repeat (go_quiet (first | (go_at_call 70; (with_reducible refine (strings_IndexByte.calls x0_1 47 t273 _ A3.out).mono ?_); rintro e w' ⟨rfl, ⟨nd, rfl⟩⟩; (try first | exact ⟨rfl, _, World.drewN_drewN _ _ _⟩ | exact ⟨rfl, _, Eq.trans (World.drewN_drewN _ _ _) (congrArg (World.drewN _) (Nat.add_assoc _ _ _))⟩)) | (go_at_call 70; (with_reducible refine (strings_IndexByte.calls x1_1 47 t274 _ A4.out).mono ?_); rintro e w' ⟨rfl, ⟨nd, rfl⟩⟩; (try first | exact ⟨rfl, _, World.drewN_drewN _ _ _⟩ | exact ⟨rfl, _, Eq.trans (World.drewN_drewN _ _ _) (congrArg (World.drewN _) (Nat.add_assoc _ _ _))⟩))); go_upto_if 17 with (first | (go_at_call 70; (with_reducible refine (strings_IndexByte.calls x0_1 47 t273 _ A3.out).mono ?_); rintro e w' ⟨rfl, ⟨nd, rfl⟩⟩; (try first | exact ⟨rfl, _, World.drewN_drewN _ _ _⟩ | exact ⟨rfl, _, Eq.trans (World.drewN_drewN _ _ _) (congrArg (World.drewN _) (Nat.add_assoc _ _ _))⟩)) | (go_at_call 70; (with_reducible refine (strings_IndexByte.calls x1_1 47 t274 _ A4.out).mono ?_); rintro e w' ⟨rfl, ⟨nd, rfl⟩⟩; (try first | exact ⟨rfl, _, World.drewN_drewN _ _ _⟩ | exact ⟨rfl, _, Eq.trans (World.drewN_drewN _ _ _) (congrArg (World.drewN _) (Nat.add_assoc _ _ _))⟩))))
      (try simp only [Act.put, List.setIfInBounds_toArray, List.set_cons_zero, List.set_cons_succ])
      go_cut [7] (fun v7 wc => ∃ (kq : Nat) (x7_4 : ByteArray), v7 = .string x7_4 ∧ Aside0 (name_Compare.j1 kq x0_1 x1_1 t273 t274 x7_4 x1_1 = some r) ∧ Aside0 (kq ≤ k1) ∧ Drawn0 w wc)
      case first =>
        have H := HC5.out
        clear HC5
        by_cases c6 : t273 ≥ 0
        · rw [if_pos c6] at H
          have c6b0 : decide (0 ≤ t273) = true := decide_eq_true c6
          clear c6
          (first | rw [c6b0] | (simp only [i64_w, i32_w]; rw [c6b0]) | skip)
          by_cases c7 : 0 ≤ t273
          · rw [if_pos c7] at H
            have c7b0 := eq_true c7
            have c7b1 : decide (0 ≤ t273) = true := decide_eq_true c7
            clear c7
            by_cases c8 : t273 ≤ (x0_1.size : Int)
            · rw [if_pos c8] at H
              have c8b0 := eq_true c8
              have c8b1 : decide (t273 ≤ (x0_1.size : Int)) = true := decide_eq_true c8
              clear c8
              have H' := Aside0.mk H
              clear H
              go_wp2
              repeat (go_quiet (fail); try go_wp2)
              go_meet
              case rel => exact ⟨_, (x0_1.extract 0 (t273 : Int).toNat), (by first | rfl | (simp; done) | (simp [*]; done)), H', ⟨by have := HK1.out; first | omega | exact Nat.le_refl _⟩, by repeat (first | exact Drawn0.refl _ | apply Drawn0.step)⟩
            · rw [if_neg c8] at H
              exact absurd H (by simp)
          · rw [if_neg c7] at H
            exact absurd H (by simp)
        · rw [if_neg c6] at H
          have c6b0 : decide (0 ≤ t273) = false := decide_eq_false c6
          clear c6
          (first | rw [c6b0] | (simp only [i64_w, i32_w]; rw [c6b0]) | skip)
          have H' := Aside0.mk H
          clear H
          go_wp2
          repeat (go_quiet (fail); try go_wp2)
          go_meet
          case rel => exact ⟨_, (x0_1), (by first | rfl | (simp; done) | (simp [*]; done)), H', ⟨by have := HK1.out; first | omega | exact Nat.le_refl _⟩, by repeat (first | exact Drawn0.refl _ | apply Drawn0.step)⟩
      case rest =>
        clear HC5
        try clear p2
        try clear c3
        try clear c6
        try clear c6b0
        try clear c7
        try clear c7b0
        try clear c7b1
        try clear c8
        try clear c8b0
        try clear c8b1
        try clear p2
        obtain ⟨kq, x7_4, rfl, HA, HJ4, ⟨mc4, rfl⟩⟩ := hcut
        cases kq with
        | zero => exact absurd HA.out (by simp [name_Compare.j1])
        | succ kj4 =>
          have H := HA.out
          clear HA
          simp only [name_Compare.j1] at H
          have HC9 := Aside0.mk H
          clear H
          go_upto_if 22 with (fail)
          repeat (go_quiet (fail); go_upto_if 22 with (fail))
          go_cut [8] (fun v8 wc => ∃ (kq : Nat) (x8_8 : ByteArray), v8 = .string x8_8 ∧ Aside0 (name_Compare.j2 kq x0_1 x1_1 t273 t274 x7_4 x8_8 = some r) ∧ Aside0 (kq ≤ kj4) ∧ Drawn0 w wc)
          case first =>
            have H := HC9.out
            clear HC9
            by_cases c10 : t274 ≥ 0
            · rw [if_pos c10] at H
              have c10b0 : decide (0 ≤ t274) = true := decide_eq_true c10
              clear c10
              (first | rw [c10b0] | (simp only [i64_w, i32_w]; rw [c10b0]) | skip)
              by_cases c11 : 0 ≤ t274
              · rw [if_pos c11] at H
                have c11b0 := eq_true c11
                have c11b1 : decide (0 ≤ t274) = true := decide_eq_true c11
                clear c11
                by_cases c12 : t274 ≤ (x1_1.size : Int)
                · rw [if_pos c12] at H
                  have c12b0 := eq_true c12
                  have c12b1 : decide (t274 ≤ (x1_1.size : Int)) = true := decide_eq_true c12
                  clear c12
                  have H' := Aside0.mk H
                  clear H
                  go_wp2
                  repeat (go_quiet (fail); try go_wp2)
                  go_meet
                  case rel => exact ⟨_, (x1_1.extract 0 (t274 : Int).toNat), (by first | rfl | (simp; done) | (simp [*]; done)), H', ⟨by have := HK1.out; have := HJ4.out; first | omega | exact Nat.le_refl _⟩, by repeat (first | exact Drawn0.refl _ | apply Drawn0.step)⟩
                · rw [if_neg c12] at H
                  exact absurd H (by simp)
              · rw [if_neg c11] at H
                exact absurd H (by simp)
            · rw [if_neg c10] at H
              have c10b0 : decide (0 ≤ t274) = false := decide_eq_false c10
              clear c10
              (first | rw [c10b0] | (simp only [i64_w, i32_w]; rw [c10b0]) | skip)
              have H' := Aside0.mk H
              clear H
              go_wp2
              repeat (go_quiet (fail); try go_wp2)
              go_meet
              case rel => exact ⟨_, (x1_1), (by first | rfl | (simp; done) | (simp [*]; done)), H', ⟨by have := HK1.out; have := HJ4.out; first | omega | exact Nat.le_refl _⟩, by repeat (first | exact Drawn0.refl _ | apply Drawn0.step)⟩
          case rest =>
            clear HC9
            try clear c1
            try clear p2
            try clear c3
            try clear c4
            try clear c6
            try clear c6b0
            try clear c7
            try clear c7b0
            try clear c7b1
            try clear c8
            try clear c8b0
            try clear c8b1
            try clear c10
            try clear c10b0
            try clear c11
            try clear c11b0
            try clear c11b1
            try clear c12
            try clear c12b0
            try clear c12b1
            try clear p2
            obtain ⟨kq, x8_8, rfl, HA, HJ8, ⟨mc8, rfl⟩⟩ := hcut
            cases kq with
            | zero => exact absurd HA.out (by simp [name_Compare.j2])
            | succ kj8 =>
              have H := HA.out
              clear HA
              simp only [name_Compare.j2] at H
              replace H := Option.bind_eq_some_iff.mp H
              obtain ⟨t275, A130, H⟩ := H
              replace H : (if t275 = 0 then (if t273 < 0 then (name_Compare.j3 kj8 x0_1 x1_1 t273 t274 (decide (t274 < 0))) else (name_Compare.j3 kj8 x0_1 x1_1 t273 t274 false)) else (some t275)) = some r := H
              have A13 := Aside0.mk A130
              clear A130
              by_cases c14 : t275 = 0
              · rw [if_pos c14] at H
                have c14b0 : (t275 == 0) = true := beq_iff_eq.mpr c14
                have c14b1 : (t275 != 0) = false := bne_eq_false_iff_eq.mpr c14
                clear c14
                have HC15 := Aside0.mk H
                clear H
                go_upto_region 10 with (first | (go_at_call 71; (with_reducible refine (cmp_Compare_string.calls x7_4 x8_8 t275 _ A13.out).mono ?_); rintro e w' ⟨rfl, ⟨nd, rfl⟩⟩; (try first | exact ⟨rfl, _, World.drewN_drewN _ _ _⟩ | exact ⟨rfl, _, Eq.trans (World.drewN_drewN _ _ _) (congrArg (World.drewN _) (Nat.add_assoc _ _ _))⟩)))
                repeat (go_quiet (first | (go_at_call 71; (with_reducible refine (cmp_Compare_string.calls x7_4 x8_8 t275 _ A13.out).mono ?_); rintro e w' ⟨rfl, ⟨nd, rfl⟩⟩; (try first | exact ⟨rfl, _, World.drewN_drewN _ _ _⟩ | exact ⟨rfl, _, Eq.trans (World.drewN_drewN _ _ _) (congrArg (World.drewN _) (Nat.add_assoc _ _ _))⟩))); go_upto_region 10 with (first | (go_at_call 71; (with_reducible refine (cmp_Compare_string.calls x7_4 x8_8 t275 _ A13.out).mono ?_); rintro e w' ⟨rfl, ⟨nd, rfl⟩⟩; (try first | exact ⟨rfl, _, World.drewN_drewN _ _ _⟩ | exact ⟨rfl, _, Eq.trans (World.drewN_drewN _ _ _) (congrArg (World.drewN _) (Nat.add_assoc _ _ _))⟩))))
                (try simp only [Act.put, List.setIfInBounds_toArray, List.set_cons_zero, List.set_cons_succ])
                go_cut [32] (fun v32 wc => ∃ (kq : Nat) (x32_14 : Bool), v32 = .bool x32_14 ∧ Aside0 (name_Compare.j3 kq x0_1 x1_1 t273 t274 x32_14 = some r) ∧ Aside0 (kq ≤ kj8) ∧ Drawn0 w wc)
                case first =>
                  have H := HC15.out
                  clear HC15
                  by_cases c16 : t273 < 0
                  · rw [if_pos c16] at H
                    have c16b0 : decide (t273 < 0) = true := decide_eq_true c16
                    clear c16
                    (first | rw [c16b0] | (simp only [i64_w, i32_w]; rw [c16b0]) | skip)
                    have H' := Aside0.mk H
                    clear H
                    go_wp2
                    repeat (go_quiet (fail); try go_wp2)
                    go_meet
                    case rel => exact ⟨_, (decide (t274 < 0)), (by first | rfl | (simp; done) | (simp [*]; done)), H', ⟨by have := HK1.out; have := HJ4.out; have := HJ8.out; first | omega | exact Nat.le_refl _⟩, by repeat (first | exact Drawn0.refl _ | apply Drawn0.step)⟩
                  · rw [if_neg c16] at H
                    have c16b0 : decide (t273 < 0) = false := decide_eq_false c16
                    clear c16
                    (first | rw [c16b0] | (simp only [i64_w, i32_w]; rw [c16b0]) | skip)
                    have H' := Aside0.mk H
                    clear H
                    go_wp2
                    repeat (go_quiet (fail); try go_wp2)
                    go_meet
                    case rel => exact ⟨_, (false), (by first | rfl | (simp; done) | (simp [*]; done)), H', ⟨by have := HK1.out; have := HJ4.out; have := HJ8.out; first | omega | exact Nat.le_refl _⟩, by repeat (first | exact Drawn0.refl _ | apply Drawn0.step)⟩
                case rest =>
                  clear HC15
                  try clear c1
                  try clear p2
                  try clear c3
                  try clear c4
                  try clear c6
                  try clear c6b0
                  try clear c7
                  try clear c7b0
                  try clear c7b1
                  try clear c8
                  try clear c8b0
                  try clear c8b1
                  try clear c10
                  try clear c10b0
                  try clear c11
                  try clear c11b0
                  try clear c11b1
                  try clear c12
                  try clear c12b0
                  try clear c12b1
                  try clear c14
                  try clear c14b0
                  try clear c14b1
                  try clear c16
                  try clear c16b0
                  try clear p2
                  obtain ⟨kq, x32_14, rfl, HA, HJ14, ⟨mc14, rfl⟩⟩ := hcut
                  cases kq with
                  | zero => exact absurd HA.out (by simp [name_Compare.j3])
                  | succ kj14 =>
                    have H := HA.out
                    clear HA
                    simp only [name_Compare.j3] at H
                    by_cases c17 : x32_14 = true
                    · subst c17
                      have H1 : (some 0) = some r := by rw [if_pos rfl] at H; exact H
                      clear H
                      have H := H1
                      clear H1
                      obtain rfl := Option.some.inj H
                      go_wp2
                      repeat (go_quiet (fail); try go_wp2)
                      go_ret
                      exact ⟨by first | rfl | (simp; done) | (simp [*]; done), by repeat (first | exact Drawn0.refl _ | apply Drawn0.step)⟩
                    · replace c17 := Bool.eq_false_iff.mpr c17
                      subst c17
                      have H1 : (if t273 < 0 then (some (-1)) else (if t274 < 0 then (some 1) else (if 0 ≤ (wrap64 (t273 + 1)) then (if (wrap64 (t273 + 1)) ≤ (x0_1.size : Int) then (if 0 ≤ (wrap64 (t274 + 1)) then (if (wrap64 (t274 + 1)) ≤ (x1_1.size : Int) then (name_Compare.l0 kj14 (x0_1.extract ((wrap64 (t273 + 1)) : Int).toNat x0_1.size) (x1_1.extract ((wrap64 (t274 + 1)) : Int).toNat x1_1.size)) else (none)) else (none)) else (none)) else (none)))) = some r := by rw [if_neg (show ¬ (false = true) by decide)] at H; exact H
                      clear H
                      have H := H1
                      clear H1
                      by_cases c18 : t273 < 0
                      · rw [if_pos c18] at H
                        have c18b0 : decide (t273 < 0) = true := decide_eq_true c18
                        clear c18
                        obtain rfl := Option.some.inj H
                        go_wp2
                        repeat (go_quiet (fail); try go_wp2)
                        go_ret
                        exact ⟨by first | rfl | (simp; done) | (simp [*]; done), by repeat (first | exact Drawn0.refl _ | apply Drawn0.step)⟩
                      · rw [if_neg c18] at H
                        have c18b0 : decide (t273 < 0) = false := decide_eq_false c18
                        clear c18
                        by_cases c19 : t274 < 0
                        · rw [if_pos c19] at H
                          have c19b0 : decide (t274 < 0) = true := decide_eq_true c19
                          clear c19
                          obtain rfl := Option.some.inj H
                          go_wp2
                          repeat (go_quiet (fail); try go_wp2)
                          go_ret
                          exact ⟨by first | rfl | (simp; done) | (simp [*]; done), by repeat (first | exact Drawn0.refl _ | apply Drawn0.step)⟩
                        · rw [if_neg c19] at H
                          have c19b0 : decide (t274 < 0) = false := decide_eq_false c19
                          clear c19
                          obtain ⟨ji20, hji20⟩ : ∃ j_ : Int, (wrap64 (t273 + 1)) = j_ := ⟨_, rfl⟩
                          replace H : (if 0 ≤ (ji20) then (if (ji20) ≤ (x0_1.size : Int) then (if 0 ≤ (wrap64 (t274 + 1)) then (if (wrap64 (t274 + 1)) ≤ (x1_1.size : Int) then (name_Compare.l0 kj14 (x0_1.extract ((ji20) : Int).toNat x0_1.size) (x1_1.extract ((wrap64 (t274 + 1)) : Int).toNat x1_1.size)) else (none)) else (none)) else (none)) else (none)) = some r := by first | (rw [hji20] at H; exact H) | (simp only [hji20] at H ⊢; exact H)
                          have hji20w : (IntKind.i64.wrap (t273 + 1)) = ji20 := (i64_w _).trans hji20
                          by_cases c21 : 0 ≤ (ji20)
                          · rw [if_pos c21] at H
                            have c21b0 := eq_true c21
                            have c21b1 : decide (0 ≤ (ji20)) = true := decide_eq_true c21
                            clear c21
                            by_cases c22 : (ji20) ≤ (x0_1.size : Int)
                            · rw [if_pos c22] at H
                              have c22b0 := eq_true c22
                              have c22b1 : decide ((ji20) ≤ (x0_1.size : Int)) = true := decide_eq_true c22
                              clear c22
                              obtain ⟨ji23, hji23⟩ : ∃ j_ : Int, (wrap64 (t274 + 1)) = j_ := ⟨_, rfl⟩
                              replace H : (if 0 ≤ (ji23) then (if (ji23) ≤ (x1_1.size : Int) then (name_Compare.l0 kj14 (x0_1.extract ((ji20) : Int).toNat x0_1.size) (x1_1.extract ((ji23) : Int).toNat x1_1.size)) else (none)) else (none)) = some r := by first | (rw [hji23] at H; exact H) | (simp only [hji23] at H ⊢; exact H)
                              have hji23w : (IntKind.i64.wrap (t274 + 1)) = ji23 := (i64_w _).trans hji23
                              by_cases c24 : 0 ≤ (ji23)
                              · rw [if_pos c24] at H
                                have c24b0 := eq_true c24
                                have c24b1 : decide (0 ≤ (ji23)) = true := decide_eq_true c24
                                clear c24
                                by_cases c25 : (ji23) ≤ (x1_1.size : Int)
                                · rw [if_pos c25] at H
                                  have c25b0 := eq_true c25
                                  have c25b1 : decide ((ji23) ≤ (x1_1.size : Int)) = true := decide_eq_true c25
                                  clear c25
                                  have H' := Aside0.mk H
                                  clear H
                                  go_wp2
                                  repeat (go_quiet (fail); try go_wp2)
                                  go_roundg kj14
                                  case measure => have := HK1.out; have := HJ4.out; have := HJ8.out; have := HJ14.out; omega
                                  case rel => exact ⟨(x0_1.extract ((ji20) : Int).toNat x0_1.size), (x1_1.extract ((ji23) : Int).toNat x1_1.size), (by first | rfl | (simp; done) | (simp only [← hji20] <;> (first | rfl | simp)) | (simp [*]; done)), (by first | rfl | (simp; done) | (simp only [← hji23] <;> (first | rfl | simp)) | (simp [*]; done)), H', ⟨by have := HK1.out; have := HJ4.out; have := HJ8.out; have := HJ14.out; omega⟩, by repeat (first | exact Drawn0.refl _ | apply Drawn0.step)⟩
                                · rw [if_neg c25] at H
                                  exact absurd H (by simp)
                              · rw [if_neg c24] at H
                                exact absurd H (by simp)
                            · rw [if_neg c22] at H
                              exact absurd H (by simp)
                          · rw [if_neg c21] at H
                            exact absurd H (by simp)
              · rw [if_neg c14] at H
                have c14b0 : (t275 == 0) = false := beq_eq_false_iff_ne.mpr c14
                have c14b1 : (t275 != 0) = true := bne_iff_ne.mpr c14
                obtain rfl := Option.some.inj H
                go_wp2_with (first | (go_at_call 71; (with_reducible refine (cmp_Compare_string.calls x7_4 x8_8 t275 _ A13.out).mono ?_); rintro e w' ⟨rfl, ⟨nd, rfl⟩⟩; (try first | exact ⟨rfl, _, World.drewN_drewN _ _ _⟩ | exact ⟨rfl, _, Eq.trans (World.drewN_drewN _ _ _) (congrArg (World.drewN _) (Nat.add_assoc _ _ _))⟩)))
                repeat (go_quiet (first | (go_at_call 71; (with_reducible refine (cmp_Compare_string.calls x7_4 x8_8 t275 _ A13.out).mono ?_); rintro e w' ⟨rfl, ⟨nd, rfl⟩⟩; (try first | exact ⟨rfl, _, World.drewN_drewN _ _ _⟩ | exact ⟨rfl, _, Eq.trans (World.drewN_drewN _ _ _) (congrArg (World.drewN _) (Nat.add_assoc _ _ _))⟩))); try go_wp2_with (first | (go_at_call 71; (with_reducible refine (cmp_Compare_string.calls x7_4 x8_8 t275 _ A13.out).mono ?_); rintro e w' ⟨rfl, ⟨nd, rfl⟩⟩; (try first | exact ⟨rfl, _, World.drewN_drewN _ _ _⟩ | exact ⟨rfl, _, Eq.trans (World.drewN_drewN _ _ _) (congrArg (World.drewN _) (Nat.add_assoc _ _ _))⟩))))
                go_ret
                exact ⟨by first | rfl | (simp; done) | (simp [*]; done), by repeat (first | exact Drawn0.refl _ | apply Drawn0.step)⟩
def bytealg_LastIndexByteString.l0 : Nat → ByteArray → Int → Int → Option (Int)
  | 0, _, _, _ => none
  | k + 1, x0, x1, x5 => if x5 ≥ 0 then (if 0 ≤ x5 then (if x5 < (x0.size : Int) then (if (bt x0 x5) = x1 then (some x5) else (bytealg_LastIndexByteString.l0 k x0 x1 (wrap64 (x5 - 1)))) else (none)) else (none)) else (some (-1))
def bytealg_LastIndexByteString.f (k : Nat) (a0 : ByteArray) (a1 : Int) : Option (Int) := bytealg_LastIndexByteString.l0 k a0 a1 (wrap64 ((a0.size : Int) - 1))
theorem bytealg_LastIndexByteString.mono_l : ∀ k, (∀ y0 y1 y2, LeO (bytealg_LastIndexByteString.l0 k y0 y1 y2) (bytealg_LastIndexByteString.l0 (k + 1) y0 y1 y2))
  | 0 => fun _ _ _ r h => by simp [bytealg_LastIndexByteString.l0] at h
  | k + 1 => by
    have ih0 := bytealg_LastIndexByteString.mono_l k
    · intro y0 y1 y2
      unfold bytealg_LastIndexByteString.l0
      repeat' first
      | (with_reducible exact ih0 _ _ _)
      | (with_reducible exact LeO.refl _)
      | (with_reducible exact LeO.none _)
      | (with_reducible refine LeO.ite ?_ ?_)
      | (with_reducible refine LeO.bind ?_ (fun _ => ?_))
      | exact ih0 _ _ _
      | exact LeO.none _
      | refine LeO.ite ?_ ?_
      | refine LeO.bind ?_ (fun _ => ?_)
theorem bytealg_LastIndexByteString.mono : ∀ a0 a1 k, LeO (bytealg_LastIndexByteString.f k a0 a1) (bytealg_LastIndexByteString.f (k + 1) a0 a1) := by
  intro a0 a1 k
  have ih0 := bytealg_LastIndexByteString.mono_l k
  unfold bytealg_LastIndexByteString.f
  repeat' first
      | (with_reducible exact ih0 _ _ _)
      | (with_reducible exact LeO.refl _)
      | (with_reducible exact LeO.none _)
      | (with_reducible refine LeO.ite ?_ ?_)
      | (with_reducible refine LeO.bind ?_ (fun _ => ?_))
      | exact ih0 _ _ _
      | exact LeO.none _
      | refine LeO.ite ?_ ?_
      | refine LeO.bind ?_ (fun _ => ?_)
set_option maxHeartbeats 8000000 in
set_option maxRecDepth 100000 in
theorem bytealg_LastIndexByteString.calls (k : Nat) (a0 : ByteArray) (a1 : Int) (r : Int) (w : World) (h : bytealg_LastIndexByteString.f k a0 a1 = some r) :
    Calls Tryd.prog 93 #[.string a0, .int .u8 a1] w fun e w' => e = .returned (.int .i64 r) ∧ Drawn0 w w' := by
  have H : (bytealg_LastIndexByteString.l0 k a0 a1 (wrap64 ((a0.size : Int) - 1))) = some r := h
  clear h
  have H' := Aside0.mk H
  clear H
  go_enter Tryd.func93, Tryd.ntmps93
  go_wp2
  go_loopg [5] k (fun kq v5 w' => ∃ (x5_1 : Int), v5 = .int .i64 x5_1 ∧ Aside0 (bytealg_LastIndexByteString.l0 kq a0 a1 x5_1 = some r) ∧ Aside0 (kq ≤ k) ∧ Drawn0 w w')
  case atStart => exact ⟨(wrap64 ((a0.size : Int) - 1)), (by first | rfl | (simp; done) | (simp [*]; done)), H', ⟨Nat.le_refl _⟩, by repeat (first | exact Drawn0.refl _ | apply Drawn0.step)⟩
  case round =>
    clear H'
    try clear p2
    obtain ⟨x5_1, rfl, HA, HK1, ⟨m1, rfl⟩⟩ := hrel
    cases gk with
    | zero => exact absurd HA.out (by simp [bytealg_LastIndexByteString.l0])
    | succ k1 =>
      have H := HA.out
      clear HA
      simp only [bytealg_LastIndexByteString.l0] at H
      by_cases c3 : x5_1 ≥ 0
      · rw [if_pos c3] at H
        have c3b0 : decide (0 ≤ x5_1) = true := decide_eq_true c3
        clear c3
        by_cases c4 : 0 ≤ x5_1
        · rw [if_pos c4] at H
          have c4b0 : decide (0 ≤ x5_1) = true := decide_eq_true c4
          clear c4
          by_cases c5 : x5_1 < (a0.size : Int)
          · rw [if_pos c5] at H
            have c5b0 : decide (x5_1 < (a0.size : Int)) = true := decide_eq_true c5
            clear c5
            by_cases c7 : (bt a0 x5_1) = a1
            · rw [if_pos c7] at H
              have c7b0 : ((bt a0 x5_1) == a1) = true := beq_iff_eq.mpr c7
              have c7b1 : ((bt a0 x5_1) != a1) = false := bne_eq_false_iff_eq.mpr c7
              clear c7
              obtain rfl := Option.some.inj H
              have p6 : 0 ≤ (x5_1 : Int) := of_decide_eq_true (by first | (with_reducible assumption) | assumption)
              have q6 : x5_1 < (a0.size : Int) := of_decide_eq_true (by first | (with_reducible assumption) | assumption)
              have hx6 := bt_at a0 x5_1
              replace p6 := eq_true p6
              replace q6 := eq_true q6
              go_wp2
              go_ret
              exact ⟨by first | rfl | (simp; done) | (simp [*]; done), by repeat (first | exact Drawn0.refl _ | apply Drawn0.step)⟩
            · rw [if_neg c7] at H
              have c7b0 : ((bt a0 x5_1) == a1) = false := beq_eq_false_iff_ne.mpr c7
              have c7b1 : ((bt a0 x5_1) != a1) = true := bne_iff_ne.mpr c7
              have H' := Aside0.mk H
              clear H
              have p6 : 0 ≤ (x5_1 : Int) := of_decide_eq_true (by first | (with_reducible assumption) | assumption)
              have q6 : x5_1 < (a0.size : Int) := of_decide_eq_true (by first | (with_reducible assumption) | assumption)
              have hx6 := bt_at a0 x5_1
              replace p6 := eq_true p6
              replace q6 := eq_true q6
              go_wp2
              go_roundg k1
              case measure => have := HK1.out; omega
              case rel => exact ⟨(wrap64 (x5_1 - 1)), (by first | rfl | (simp; done) | (simp [*]; done)), H', ⟨by have := HK1.out; omega⟩, by repeat (first | exact Drawn0.refl _ | apply Drawn0.step)⟩
          · rw [if_neg c5] at H
            exact absurd H (by simp)
        · rw [if_neg c4] at H
          exact absurd H (by simp)
      · rw [if_neg c3] at H
        have c3b0 : decide (0 ≤ x5_1) = false := decide_eq_false c3
        clear c3
        obtain rfl := Option.some.inj H
        go_wp2
        go_ret
        exact ⟨by first | rfl | (simp; done) | (simp [*]; done), by repeat (first | exact Drawn0.refl _ | apply Drawn0.step)⟩
def strings_LastIndexByte.f (k : Nat) (a0 : ByteArray) (a1 : Int) : Option (Int) := (bytealg_LastIndexByteString.f k a0 a1).bind fun t276 => (some t276)
theorem strings_LastIndexByte.mono : ∀ a0 a1 k, LeO (strings_LastIndexByte.f k a0 a1) (strings_LastIndexByte.f (k + 1) a0 a1) := by
  intro a0 a1 k
  unfold strings_LastIndexByte.f
  repeat' first
      | (with_reducible exact bytealg_LastIndexByteString.mono _ _ _)
      | (with_reducible exact LeO.refl _)
      | (with_reducible exact LeO.none _)
      | (with_reducible refine LeO.ite ?_ ?_)
      | (with_reducible refine LeO.bind ?_ (fun _ => ?_))
      | exact bytealg_LastIndexByteString.mono _ _ _
      | exact LeO.none _
      | refine LeO.ite ?_ ?_
      | refine LeO.bind ?_ (fun _ => ?_)
set_option maxHeartbeats 8000000 in
set_option maxRecDepth 100000 in
theorem strings_LastIndexByte.calls (k : Nat) (a0 : ByteArray) (a1 : Int) (r : Int) (w : World) (h : strings_LastIndexByte.f k a0 a1 = some r) :
    Calls Tryd.prog 65 #[.string a0, .int .u8 a1] w fun e w' => e = .returned (.int .i64 r) ∧ Drawn0 w w' := by
  have H : ((bytealg_LastIndexByteString.f k a0 a1).bind fun t276 => (some t276)) = some r := h
  clear h
  replace H := Option.bind_eq_some_iff.mp H
  obtain ⟨t276, A30, H⟩ := H
  replace H : (some t276) = some r := H
  have A3 := Aside0.mk A30
  clear A30
  obtain rfl := Option.some.inj H
  go_enter Tryd.func65, Tryd.ntmps65
  go_wp2_with (first | ((with_reducible refine gate_callee (f := 93) rfl ?_); refine goesL_ (some 7) rfl rfl Tryd.func93 (by kernel_rfl) rfl #[.string a0, .int .u8 a1] rfl (by (try simp only [List.map_toArray, List.map_cons, List.map_nil]); first | done | rfl | (simp only [List.length_drop, List.length_take]; rfl)) ?_; (with_reducible refine (bytealg_LastIndexByteString.calls k a0 a1 t276 _ A3.out).mono ?_); rintro e w' ⟨rfl, ⟨nd, rfl⟩⟩; refine ⟨_, rfl, ?_⟩))
  go_ret
  exact ⟨by first | rfl | (simp; done) | (simp [*]; done), by repeat (first | exact Drawn0.refl _ | apply Drawn0.step)⟩
def name_Up.f (k : Nat) (a0 : ByteArray) : Option (ByteArray) := (strings_LastIndexByte.f k a0 47).bind fun t277 => (if 0 ≤ (mx 0 t277) then (if (mx 0 t277) ≤ (a0.size : Int) then (some (a0.extract 0 ((mx 0 t277) : Int).toNat)) else (none)) else (none))
theorem name_Up.mono : ∀ a0 k, LeO (name_Up.f k a0) (name_Up.f (k + 1) a0) := by
  intro a0 k
  unfold name_Up.f
  repeat' first
      | (with_reducible exact strings_LastIndexByte.mono _ _ _)
      | (with_reducible exact LeO.refl _)
      | (with_reducible exact LeO.none _)
      | (with_reducible refine LeO.ite ?_ ?_)
      | (with_reducible refine LeO.bind ?_ (fun _ => ?_))
      | exact strings_LastIndexByte.mono _ _ _
      | exact LeO.none _
      | refine LeO.ite ?_ ?_
      | refine LeO.bind ?_ (fun _ => ?_)
set_option maxHeartbeats 8000000 in
set_option maxRecDepth 100000 in
theorem name_Up.calls (k : Nat) (a0 : ByteArray) (r : ByteArray) (w : World) (h : name_Up.f k a0 = some r) :
    Calls Tryd.prog 27 #[.string a0] w fun e w' => e = .returned (.string r) ∧ Below w.heap.size w w' := by
  have HB := Aside0.mk (Below.refl w.heap.size w)
  have H : ((strings_LastIndexByte.f k a0 47).bind fun t277 => (if 0 ≤ (mx 0 t277) then (if (mx 0 t277) ≤ (a0.size : Int) then (some (a0.extract 0 ((mx 0 t277) : Int).toNat)) else (none)) else (none))) = some r := h
  clear h
  replace H := Option.bind_eq_some_iff.mp H
  obtain ⟨t277, A20, H⟩ := H
  replace H : (if 0 ≤ (mx 0 t277) then (if (mx 0 t277) ≤ (a0.size : Int) then (some (a0.extract 0 ((mx 0 t277) : Int).toNat)) else (none)) else (none)) = some r := H
  have A2 := Aside0.mk A20
  clear A20
  obtain ⟨ji3, hji3⟩ : ∃ j_ : Int, (mx 0 t277) = j_ := ⟨_, rfl⟩
  replace H : (if 0 ≤ (ji3) then (if (ji3) ≤ (a0.size : Int) then (some (a0.extract 0 ((ji3) : Int).toNat)) else (none)) else (none)) = some r := by first | (rw [hji3] at H; exact H) | (simp only [hji3] at H ⊢; exact H)
  (try rw [hji3] at A2)
  (try (have hji3l : 0 ≤ ji3 := by (rw [← hji3]; unfold mx; (repeat' split) <;> omega)))
  (try (have hji3m : 0 ≤ ji3 := by omega))
  have hji3_ : (if 0 < t277 then t277 else 0) = ji3 := hji3
  by_cases c4 : 0 ≤ (ji3)
  · rw [if_pos c4] at H
    have c4b0 := eq_true c4
    have c4b1 : decide (0 ≤ (ji3)) = true := decide_eq_true c4
    clear c4
    by_cases c5 : (ji3) ≤ (a0.size : Int)
    · rw [if_pos c5] at H
      have c5b0 := eq_true c5
      have c5b1 : decide ((ji3) ≤ (a0.size : Int)) = true := decide_eq_true c5
      clear c5
      obtain rfl := Option.some.inj H
      go_enter Tryd.func27, Tryd.ntmps27
      go_wp2_with (first | ((with_reducible refine gate_callee (f := 65) rfl ?_); refine goesL_ (some 5) rfl rfl Tryd.func65 (by kernel_rfl) rfl #[.string a0, .int .u8 47] rfl (by (try simp only [List.map_toArray, List.map_cons, List.map_nil]); first | done | rfl | (simp only [List.length_drop, List.length_take]; rfl)) ?_; (with_reducible refine (strings_LastIndexByte.calls k a0 47 t277 _ A2.out).mono ?_); rintro e w' ⟨rfl, ⟨nd, rfl⟩⟩; refine ⟨_, rfl, ?_⟩))
      go_ret
      exact ⟨by first | rfl | (simp [errW_none, errW_some] <;> rfl) | (simp only [← hji3]; first | rfl | (simp [errW_none, errW_some] <;> rfl)) | (simp [*, errW_none, errW_some] <;> rfl), by repeat (first | (with_reducible first | exact HB.out | apply below_alloc | apply pw_below_drewN | apply below_drew1) | exact HB.out)⟩
    · rw [if_neg c5] at H
      exact absurd H (by simp)
  · rw [if_neg c4] at H
    exact absurd H (by simp)
def name_Check.f (a0 : ByteArray) : Option (Int × Int) := some (((Nm.check a0.data.toList).1 : Int), ((Nm.check a0.data.toList).2 : Int))
theorem name_Check.calls (a0 : ByteArray) (r1 : Int) (r2 : Int) (w : World) (h : name_Check.f a0 = some (r1, r2)) :
    Calls Tryd.prog 40 #[.string a0] w fun e w' => e = .returned (.tuple #[.int .i64 r1, .int .i64 r2]) ∧ Below w.heap.size w w' := by
  obtain ⟨rfl, rfl⟩ := Prod.mk.inj (Option.some.inj h)
  exact check_any a0 w
end Go.Proofs.YthpecpkncifngaaDoor.X
end

-- PRINTED by print.py (a twelfth state) out of the translation. Not trusted: Lean checks it.
section
namespace Go.Proofs.YthpecpkncifngaaDoor.X
open Go.RowKit Go.Proofs.YthpecpkncifngaaDoorW.PrintWords Go.Proofs.YthpecpkncifngaaDoorW.PrintLast Go.Proofs.YthpecpkncifngaaDoorW.PrintMore
attribute [local go_sem] max2_int min2_int max_two min_two max_three min_three max_four min_four   -- for this text's walks alone
def stringslite_HasPrefix.f (a0 : ByteArray) (a1 : ByteArray) : Option (Bool) := if (a0.size : Int) ≥ (a1.size : Int) then (if 0 ≤ (a1.size : Int) then (if (a1.size : Int) ≤ (a0.size : Int) then (some ((a0.extract 0 ((a1.size : Int) : Int).toNat).toList == a1.toList)) else (none)) else (none)) else (some false)
set_option maxHeartbeats 8000000 in
set_option maxRecDepth 100000 in
theorem stringslite_HasPrefix.calls (a0 : ByteArray) (a1 : ByteArray) (r : Bool) (w : World) (h : stringslite_HasPrefix.f a0 a1 = some r) :
    Calls Tryd.prog 98 #[.string a0, .string a1] w fun e w' => e = .returned (.bool r) ∧ Drawn0 w w' := by
  have H : (if (a0.size : Int) ≥ (a1.size : Int) then (if 0 ≤ (a1.size : Int) then (if (a1.size : Int) ≤ (a0.size : Int) then (some ((a0.extract 0 ((a1.size : Int) : Int).toNat).toList == a1.toList)) else (none)) else (none)) else (some false)) = some r := h
  clear h
  by_cases c3 : (a0.size : Int) ≥ (a1.size : Int)
  · rw [if_pos c3] at H
    have c3b0 : decide ((a1.size : Int) ≤ (a0.size : Int)) = true := decide_eq_true c3
    have c3b1 : decide (a1.size ≤ a0.size) = true := decide_eq_true (Int.ofNat_le.mp c3)
    clear c3
    by_cases c4 : 0 ≤ (a1.size : Int)
    · rw [if_pos c4] at H
      have c4b0 := eq_true c4
      have c4b1 : decide (0 ≤ (a1.size : Int)) = true := decide_eq_true c4
      clear c4
      by_cases c5 : (a1.size : Int) ≤ (a0.size : Int)
      · rw [if_pos c5] at H
        have c5b0 := eq_true c5
        have c5b1 : decide ((a1.size : Int) ≤ (a0.size : Int)) = true := decide_eq_true c5
        clear c5
        obtain rfl := Option.some.inj H
        go_enter Tryd.func98, Tryd.ntmps98
        go_wp2
        go_ret
        exact ⟨by first | rfl | (simp; done) | (simp [*]; done), by repeat (first | exact Drawn0.refl _ | apply Drawn0.step)⟩
      · rw [if_neg c5] at H
        exact absurd H (by simp)
    · rw [if_neg c4] at H
      exact absurd H (by simp)
  · rw [if_neg c3] at H
    have c3b0 : decide ((a1.size : Int) ≤ (a0.size : Int)) = false := decide_eq_false c3
    have c3b1 : decide (a1.size ≤ a0.size) = false := decide_eq_false (fun h => c3 (Int.ofNat_le.mpr h))
    clear c3
    obtain rfl := Option.some.inj H
    go_enter Tryd.func98, Tryd.ntmps98
    go_wp2
    go_ret
    exact ⟨by first | rfl | (simp; done) | (simp [*]; done), by repeat (first | exact Drawn0.refl _ | apply Drawn0.step)⟩
def strings_HasPrefix.f (a0 : ByteArray) (a1 : ByteArray) : Option (Bool) := (stringslite_HasPrefix.f a0 a1).bind fun t290 => (some t290)
set_option maxHeartbeats 8000000 in
set_option maxRecDepth 100000 in
theorem strings_HasPrefix.calls (a0 : ByteArray) (a1 : ByteArray) (r : Bool) (w : World) (h : strings_HasPrefix.f a0 a1 = some r) :
    Calls Tryd.prog 79 #[.string a0, .string a1] w fun e w' => e = .returned (.bool r) ∧ Drawn0 w w' := by
  have H : ((stringslite_HasPrefix.f a0 a1).bind fun t290 => (some t290)) = some r := h
  clear h
  replace H := Option.bind_eq_some_iff.mp H
  obtain ⟨t290, A30, H⟩ := H
  replace H : (some t290) = some r := H
  have A3 := Aside0.mk A30
  clear A30
  obtain rfl := Option.some.inj H
  go_enter Tryd.func79, Tryd.ntmps79
  go_wp2_with (first | ((with_reducible refine gate_callee (f := 98) rfl ?_); refine goesL_ (some 7) rfl rfl Tryd.func98 (by kernel_rfl) rfl #[.string a0, .string a1] rfl (by (try simp only [List.map_toArray, List.map_cons, List.map_nil]); first | done | rfl | (simp only [List.length_drop, List.length_take]; rfl)) ?_; (with_reducible refine (stringslite_HasPrefix.calls a0 a1 t290 _ A3.out).mono ?_); rintro e w' ⟨rfl, ⟨nd, rfl⟩⟩; refine ⟨_, rfl, ?_⟩))
  go_ret
  exact ⟨by first | rfl | (simp; done) | (simp [*]; done), by repeat (first | exact Drawn0.refl _ | apply Drawn0.step)⟩
def name_Beneath.f (a0 : ByteArray) (a1 : ByteArray) : Option (Bool) := (name_Check.f a1).bind fun bt291 => (if bt291.2 = 0 then (if a0.toList = ([] : List UInt8) then (some true) else ((strings_HasPrefix.f a1 a0).bind fun t293 => (if t293 = true then (if (a1.size : Int) > (a0.size : Int) then (if 0 ≤ (a0.size : Int) then (if (a0.size : Int) < (a1.size : Int) then (some ((bt a1 (a0.size : Int)) == 47)) else (none)) else (none)) else (some false)) else (some false)))) else (some false))
set_option maxHeartbeats 8000000 in
set_option maxRecDepth 100000 in
theorem name_Beneath.calls (a0 : ByteArray) (a1 : ByteArray) (r : Bool) (w : World) (h : name_Beneath.f a0 a1 = some r) :
    Calls Tryd.prog 48 #[.string a0, .string a1] w fun e w' => e = .returned (.bool r) ∧ Below w.heap.size w w' := by
  have HB := Aside0.mk (Below.refl w.heap.size w)
  have H : ((name_Check.f a1).bind fun bt291 => (if bt291.2 = 0 then (if a0.toList = ([] : List UInt8) then (some true) else ((strings_HasPrefix.f a1 a0).bind fun t293 => (if t293 = true then (if (a1.size : Int) > (a0.size : Int) then (if 0 ≤ (a0.size : Int) then (if (a0.size : Int) < (a1.size : Int) then (some ((bt a1 (a0.size : Int)) == 47)) else (none)) else (none)) else (some false)) else (some false)))) else (some false))) = some r := h
  clear h
  replace H := Option.bind_eq_some_iff.mp H
  obtain ⟨⟨t291, t292⟩, A30, H⟩ := H
  replace H : (if t292 = 0 then (if a0.toList = ([] : List UInt8) then (some true) else ((strings_HasPrefix.f a1 a0).bind fun t293 => (if t293 = true then (if (a1.size : Int) > (a0.size : Int) then (if 0 ≤ (a0.size : Int) then (if (a0.size : Int) < (a1.size : Int) then (some ((bt a1 (a0.size : Int)) == 47)) else (none)) else (none)) else (some false)) else (some false)))) else (some false)) = some r := H
  have A3 := Aside0.mk A30
  clear A30
  by_cases c4 : t292 = 0
  · rw [if_pos c4] at H
    have c4b0 : (t292 == 0) = true := beq_iff_eq.mpr c4
    have c4b1 : (t292 != 0) = false := bne_eq_false_iff_eq.mpr c4
    clear c4
    by_cases c5 : a0.toList = ([] : List UInt8)
    · rw [if_pos c5] at H
      have c5b0 : (a0.toList == ([] : List UInt8)) = true := beq_iff_eq.mpr c5
      have c5b1 : (a0.toList != ([] : List UInt8)) = false := bne_eq_false_iff_eq.mpr c5
      clear c5
      obtain rfl := Option.some.inj H
      go_enter Tryd.func48, Tryd.ntmps48
      go_wp2_with (first | ((with_reducible refine gate_callee (f := 40) rfl ?_); refine goesL_ (some 9) rfl rfl Tryd.func40 (by kernel_rfl) rfl #[.string a1] rfl (by (try simp only [List.map_toArray, List.map_cons, List.map_nil]); first | done | rfl | (simp only [List.length_drop, List.length_take]; rfl)) ?_; (with_reducible refine (name_Check.calls a1 t291 t292 _ A3.out).mono ?_); rintro e w6 ⟨rfl, hb⟩; refine ⟨_, rfl, ?_⟩; have n0_ := Aside0.mk (below_step (by repeat (first | (with_reducible first | exact HB.out | apply below_alloc | apply pw_below_drewN | apply below_drew1) | exact HB.out)) hb); clear HB; have HB := n0_; clear n0_; (try clear hb); (try clear hb2); (try clear hk); (try clear hi)))
      go_ret
      exact ⟨by first | rfl | (simp [errW_none, errW_some] <;> rfl) | (simp [*, errW_none, errW_some] <;> rfl), by repeat (first | (with_reducible first | exact HB.out | apply below_alloc | apply pw_below_drewN | apply below_drew1) | exact HB.out)⟩
    · rw [if_neg c5] at H
      have c5b0 : (a0.toList == ([] : List UInt8)) = false := beq_eq_false_iff_ne.mpr c5
      have c5b1 : (a0.toList != ([] : List UInt8)) = true := bne_iff_ne.mpr c5
      replace H := Option.bind_eq_some_iff.mp H
      obtain ⟨t293, A70, H⟩ := H
      replace H : (if t293 = true then (if (a1.size : Int) > (a0.size : Int) then (if 0 ≤ (a0.size : Int) then (if (a0.size : Int) < (a1.size : Int) then (some ((bt a1 (a0.size : Int)) == 47)) else (none)) else (none)) else (some false)) else (some false)) = some r := H
      have A7 := Aside0.mk A70
      clear A70
      by_cases c8 : t293 = true
      · subst c8
        have H1 : (if (a1.size : Int) > (a0.size : Int) then (if 0 ≤ (a0.size : Int) then (if (a0.size : Int) < (a1.size : Int) then (some ((bt a1 (a0.size : Int)) == 47)) else (none)) else (none)) else (some false)) = some r := by rw [if_pos rfl] at H; exact H
        clear H
        have H := H1
        clear H1
        by_cases c9 : (a1.size : Int) > (a0.size : Int)
        · rw [if_pos c9] at H
          have c9b0 : decide ((a0.size : Int) < (a1.size : Int)) = true := decide_eq_true c9
          have c9b1 : decide (a0.size < a1.size) = true := decide_eq_true (Int.ofNat_lt.mp c9)
          clear c9
          by_cases c10 : 0 ≤ (a0.size : Int)
          · rw [if_pos c10] at H
            have c10b0 : decide (0 ≤ (a0.size : Int)) = true := decide_eq_true c10
            have c10b1 : decide (0 ≤ a0.size) = true := decide_eq_true (by omega)
            clear c10
            by_cases c11 : (a0.size : Int) < (a1.size : Int)
            · rw [if_pos c11] at H
              have c11b0 : decide ((a0.size : Int) < (a1.size : Int)) = true := decide_eq_true c11
              have c11b1 : decide (a0.size < a1.size) = true := decide_eq_true (Int.ofNat_lt.mp c11)
              clear c11
              obtain rfl := Option.some.inj H
              go_enter Tryd.func48, Tryd.ntmps48
              go_wp2_with (first | ((with_reducible refine gate_callee (f := 40) rfl ?_); refine goesL_ (some 9) rfl rfl Tryd.func40 (by kernel_rfl) rfl #[.string a1] rfl (by (try simp only [List.map_toArray, List.map_cons, List.map_nil]); first | done | rfl | (simp only [List.length_drop, List.length_take]; rfl)) ?_; (with_reducible refine (name_Check.calls a1 t291 t292 _ A3.out).mono ?_); rintro e w13 ⟨rfl, hb⟩; refine ⟨_, rfl, ?_⟩; have n0_ := Aside0.mk (below_step (by repeat (first | (with_reducible first | exact HB.out | apply below_alloc | apply pw_below_drewN | apply below_drew1) | exact HB.out)) hb); clear HB; have HB := n0_; clear n0_; (try clear hb); (try clear hb2); (try clear hk); (try clear hi)) | ((with_reducible refine gate_callee (f := 79) rfl ?_); refine goesL_ (some 18) rfl rfl Tryd.func79 (by kernel_rfl) rfl #[.string a1, .string a0] rfl (by (try simp only [List.map_toArray, List.map_cons, List.map_nil]); first | done | rfl | (simp only [List.length_drop, List.length_take]; rfl)) ?_; (with_reducible refine (strings_HasPrefix.calls a1 a0 true _ A7.out).mono ?_); rintro e w' ⟨rfl, ⟨nd, rfl⟩⟩; refine ⟨_, rfl, ?_⟩; have p12 : 0 ≤ ((a0.size : Int) : Int) := of_decide_eq_true (by first | (with_reducible assumption) | assumption); have q12 : (a0.size : Int) < (a1.size : Int) := of_decide_eq_true (by first | (with_reducible assumption) | assumption); have hx12 := bt_atN a1 a0.size; replace p12 := eq_true p12; replace q12 := eq_true q12))
              go_ret
              exact ⟨by first | rfl | (simp [errW_none, errW_some] <;> rfl) | (simp [*, errW_none, errW_some] <;> rfl), by repeat (first | (with_reducible first | exact HB.out | apply below_alloc | apply pw_below_drewN | apply below_drew1) | exact HB.out)⟩
            · rw [if_neg c11] at H
              exact absurd H (by simp)
          · rw [if_neg c10] at H
            exact absurd H (by simp)
        · rw [if_neg c9] at H
          have c9b0 : decide ((a0.size : Int) < (a1.size : Int)) = false := decide_eq_false c9
          have c9b1 : decide (a0.size < a1.size) = false := decide_eq_false (fun h => c9 (Int.ofNat_lt.mpr h))
          clear c9
          obtain rfl := Option.some.inj H
          go_enter Tryd.func48, Tryd.ntmps48
          go_wp2_with (first | ((with_reducible refine gate_callee (f := 40) rfl ?_); refine goesL_ (some 9) rfl rfl Tryd.func40 (by kernel_rfl) rfl #[.string a1] rfl (by (try simp only [List.map_toArray, List.map_cons, List.map_nil]); first | done | rfl | (simp only [List.length_drop, List.length_take]; rfl)) ?_; (with_reducible refine (name_Check.calls a1 t291 t292 _ A3.out).mono ?_); rintro e w14 ⟨rfl, hb⟩; refine ⟨_, rfl, ?_⟩; have n0_ := Aside0.mk (below_step (by repeat (first | (with_reducible first | exact HB.out | apply below_alloc | apply pw_below_drewN | apply below_drew1) | exact HB.out)) hb); clear HB; have HB := n0_; clear n0_; (try clear hb); (try clear hb2); (try clear hk); (try clear hi)) | ((with_reducible refine gate_callee (f := 79) rfl ?_); refine goesL_ (some 18) rfl rfl Tryd.func79 (by kernel_rfl) rfl #[.string a1, .string a0] rfl (by (try simp only [List.map_toArray, List.map_cons, List.map_nil]); first | done | rfl | (simp only [List.length_drop, List.length_take]; rfl)) ?_; (with_reducible refine (strings_HasPrefix.calls a1 a0 true _ A7.out).mono ?_); rintro e w' ⟨rfl, ⟨nd, rfl⟩⟩; refine ⟨_, rfl, ?_⟩))
          go_ret
          exact ⟨by first | rfl | (simp [errW_none, errW_some] <;> rfl) | (simp [*, errW_none, errW_some] <;> rfl), by repeat (first | (with_reducible first | exact HB.out | apply below_alloc | apply pw_below_drewN | apply below_drew1) | exact HB.out)⟩
      · replace c8 := Bool.eq_false_iff.mpr c8
        subst c8
        have H1 : (some false) = some r := by rw [if_neg (show ¬ (false = true) by decide)] at H; exact H
        clear H
        have H := H1
        clear H1
        obtain rfl := Option.some.inj H
        go_enter Tryd.func48, Tryd.ntmps48
        go_wp2_with (first | ((with_reducible refine gate_callee (f := 40) rfl ?_); refine goesL_ (some 9) rfl rfl Tryd.func40 (by kernel_rfl) rfl #[.string a1] rfl (by (try simp only [List.map_toArray, List.map_cons, List.map_nil]); first | done | rfl | (simp only [List.length_drop, List.length_take]; rfl)) ?_; (with_reducible refine (name_Check.calls a1 t291 t292 _ A3.out).mono ?_); rintro e w15 ⟨rfl, hb⟩; refine ⟨_, rfl, ?_⟩; have n0_ := Aside0.mk (below_step (by repeat (first | (with_reducible first | exact HB.out | apply below_alloc | apply pw_below_drewN | apply below_drew1) | exact HB.out)) hb); clear HB; have HB := n0_; clear n0_; (try clear hb); (try clear hb2); (try clear hk); (try clear hi)) | ((with_reducible refine gate_callee (f := 79) rfl ?_); refine goesL_ (some 18) rfl rfl Tryd.func79 (by kernel_rfl) rfl #[.string a1, .string a0] rfl (by (try simp only [List.map_toArray, List.map_cons, List.map_nil]); first | done | rfl | (simp only [List.length_drop, List.length_take]; rfl)) ?_; (with_reducible refine (strings_HasPrefix.calls a1 a0 false _ A7.out).mono ?_); rintro e w' ⟨rfl, ⟨nd, rfl⟩⟩; refine ⟨_, rfl, ?_⟩))
        go_ret
        exact ⟨by first | rfl | (simp [errW_none, errW_some] <;> rfl) | (simp [*, errW_none, errW_some] <;> rfl), by repeat (first | (with_reducible first | exact HB.out | apply below_alloc | apply pw_below_drewN | apply below_drew1) | exact HB.out)⟩
  · rw [if_neg c4] at H
    have c4b0 : (t292 == 0) = false := beq_eq_false_iff_ne.mpr c4
    have c4b1 : (t292 != 0) = true := bne_iff_ne.mpr c4
    obtain rfl := Option.some.inj H
    go_enter Tryd.func48, Tryd.ntmps48
    go_wp2_with (first | ((with_reducible refine gate_callee (f := 40) rfl ?_); refine goesL_ (some 9) rfl rfl Tryd.func40 (by kernel_rfl) rfl #[.string a1] rfl (by (try simp only [List.map_toArray, List.map_cons, List.map_nil]); first | done | rfl | (simp only [List.length_drop, List.length_take]; rfl)) ?_; (with_reducible refine (name_Check.calls a1 t291 t292 _ A3.out).mono ?_); rintro e w16 ⟨rfl, hb⟩; refine ⟨_, rfl, ?_⟩; have n0_ := Aside0.mk (below_step (by repeat (first | (with_reducible first | exact HB.out | apply below_alloc | apply pw_below_drewN | apply below_drew1) | exact HB.out)) hb); clear HB; have HB := n0_; clear n0_; (try clear hb); (try clear hb2); (try clear hk); (try clear hi)))
    go_ret
    exact ⟨by first | rfl | (simp [errW_none, errW_some] <;> rfl) | (simp [*, errW_none, errW_some] <;> rfl), by repeat (first | (with_reducible first | exact HB.out | apply below_alloc | apply pw_below_drewN | apply below_drew1) | exact HB.out)⟩
end Go.Proofs.YthpecpkncifngaaDoor.X
end

/- The reference's functions on pieces, told by plain words (no program in sight). -/
section
namespace Go.Proofs.YthpecpkncifngaaDoor.Pure
open Go.RowKit Go.Proofs.YthpecpkncifngaaDoor.X Go.Proofs.YthpecpkncifngaaDoorW.PrintWords Go.Proofs.YthpecpkncifngaaDoorW.PrintLast Go.Proofs.YthpecpkncifngaaDoorW.PrintMore
open Go.Proofs.YthpecpkncifngaaDoor
theorem len_eq (p : ByteArray) : p.data.toList.length = p.size := by rw [Array.length_toList]; rfl
theorem drop_at (p : ByteArray) (i : Nat) (h : i < p.size) : ∃ c : UInt8, p.data.toList.drop i = c :: p.data.toList.drop (i + 1) ∧ bt p (i : Int) = (c.toNat : Int) ∧ p.data.toList[i]? = some c := by
  have hl : i < p.data.toList.length := by rw [len_eq]; exact h
  refine ⟨p.data.toList[i], List.drop_eq_getElem_cons hl, ?_, List.getElem?_eq_getElem hl⟩
  unfold bt
  have h2 : ((i : Int)).toNat < p.size := by omega
  rw [dif_pos h2]
  rfl
theorem toNat_eq (c d : UInt8) : ((c.toNat : Int) = (d.toNat : Int)) ↔ c = d := by
  constructor
  · intro h
    exact UInt8.toNat_inj.1 (by omega)
  · rintro rfl; rfl
theorem wrap_succ {n : Nat} (h : n < 9223372036854775807) : wrap64 ((n : Int) + 1) = ((n + 1 : Nat) : Int) := by unfold wrap64; omega
theorem toList_eq (p : ByteArray) : p.toList = p.data.toList := Lib.toList_data p
theorem bytes_size (l : List UInt8) : (bytesOfL l).size = l.length := by simp [bytesOfL, ByteArray.size]
end Go.Proofs.YthpecpkncifngaaDoor.Pure
end

/- NameChecks, NameSplits, NameCompares, NameBeneath: the pure statements. -/
section
namespace Go.Proofs.YthpecpkncifngaaDoor.Pure
open Go.RowKit Go.Proofs.YthpecpkncifngaaDoor.X Go.Proofs.YthpecpkncifngaaDoorW.PrintWords Go.Proofs.YthpecpkncifngaaDoorW.PrintLast Go.Proofs.YthpecpkncifngaaDoorW.PrintMore
open Go.Proofs.YthpecpkncifngaaDoor
theorem lastb_l0 (p : ByteArray) (hp : p.size ≤ 1099511627776) (c : UInt8) : ∀ n : Nat, n ≤ p.size →
    Ev (fun k => bytealg_LastIndexByteString.l0 k p (c.toNat : Int) ((n : Int) - 1)) (Nm.lastIdx c (p.data.toList.take n))
  | 0, _ => by
    refine Ev.step (fun k => ?_) (Ev.now _)
    simp only [bytealg_LastIndexByteString.l0]
    rw [if_neg (by omega)]; rfl
  | n + 1, h => by
    obtain ⟨d, _, hb, hd⟩ := drop_at p n (by omega)
    have e : p.data.toList.take (n + 1) = p.data.toList.take n ++ [d] := by rw [List.take_add_one, hd]; rfl
    rw [e, Nm.lastIdx_snoc]
    have hl : (p.data.toList.take n).length = n := by rw [List.length_take, len_eq]; omega
    rw [hl, show (((n + 1 : Nat) : Int) - 1) = (n : Int) from by omega]
    by_cases hc : d = c
    · refine Ev.step (fun k => ?_) (Ev.now _)
      simp only [bytealg_LastIndexByteString.l0]
      rw [if_pos (by omega), if_pos (by omega), if_pos (by omega), if_pos (by rw [hb, hc]), if_pos hc]
    · have s : ∀ k, bytealg_LastIndexByteString.l0 (k + 1) p (c.toNat : Int) (n : Int) = bytealg_LastIndexByteString.l0 k p (c.toNat : Int) ((n : Int) - 1) := fun k => by
        simp only [bytealg_LastIndexByteString.l0]
        rw [if_pos (by omega), if_pos (by omega), if_pos (by omega), if_neg (by rw [hb]; exact fun e => hc ((toNat_eq d c).1 e)), show wrap64 ((n : Int) - 1) = (n : Int) - 1 from by unfold wrap64; omega]
      rw [if_neg hc]
      exact Ev.step s (lastb_l0 p hp c n (by omega))
theorem lastb_ev (p : ByteArray) (hp : p.size ≤ 1099511627776) : Ev (fun k => strings_LastIndexByte.f k p 47) (Nm.lastIdx 47 p.data.toList) := by
  have := lastb_l0 p hp 47 p.size (by omega)
  rw [List.take_of_length_le (by rw [len_eq]; omega)] at this
  have s : ∀ k, strings_LastIndexByte.f k p 47 = (bytealg_LastIndexByteString.l0 k p 47 ((p.size : Int) - 1)).bind fun t => some t := fun k => by
    simp only [strings_LastIndexByte.f, bytealg_LastIndexByteString.f]
    rw [show wrap64 ((p.size : Int) - 1) = (p.size : Int) - 1 from by unfold wrap64; omega]
  exact Ev.congr s (Ev.bind this (Ev.now _))
def upB (p : ByteArray) : ByteArray := p.extract 0 (Nm.lastIdx 47 p.data.toList).toNat
theorem mx0 (a : Int) (h : -1 ≤ a) : mx 0 a = ((a.toNat : Nat) : Int) := by unfold mx; split <;> omega
theorem up_ev (p : ByteArray) (hp : p.size ≤ 1099511627776) : Ev (fun k => name_Up.f k p) (upB p) := by
  have h1 := Nm.lastIdx_ge 47 p.data.toList
  have h2 := Nm.lastIdx_lt 47 p.data.toList
  rw [len_eq] at h2
  have s : ∀ k, name_Up.f k p = (strings_LastIndexByte.f k p 47).bind fun t => if 0 ≤ mx 0 t then (if mx 0 t ≤ (p.size : Int) then some (p.extract 0 ((mx 0 t : Int)).toNat) else none) else none := fun k => by simp only [name_Up.f]
  refine Ev.congr s (Ev.bind (lastb_ev p hp) (Ev.congr (fun k => ?_) (Ev.now _)))
  rw [mx0 _ h1, if_pos (by omega), if_pos (by omega), Int.toNat_natCast]
  rfl
theorem ncheck (p : ByteArray) : name_Check.f p = some (((Nm.check p.data.toList).1 : Int), ((Nm.check p.data.toList).2 : Int)) := rfl
end Go.Proofs.YthpecpkncifngaaDoor.Pure
end
