/- Texts that the proof leans on, part 1. -/
import Derived.WalkKit
import Derived.Test.YtnceocjgcdcpgaaDoorWWords
import Derived.Shelf.Strings.Builder1
import Derived.Shelf.Strings.Builder2
import Derived.Shelf.Strings.OnBuilder
import Derived.Shelf.Small.Strs
import Derived.Shelf.Strings.BuilderF
import Derived.Shelf.Strings.BuilderK
import Derived.Shelf.Utf8.RuneCount
import Derived.Shelf.Strings.Builder2Cap
import Derived.Shelf.Strings.Search1
import Derived.Shelf.Strings.Search2
import Derived.Shelf.Strings.Search3
import Derived.Shelf.Strings.Count
import Derived.Shelf.LaysM
import Derived.Shelf.Strings.Shaped
import Derived.Shelf.Strings.LastIndex
import Derived.Shelf.Strings.Prefix
import Derived.Shelf.Strings.Split
import Derived.Shelf.Strings.SplitShaped
import Derived.Shelf.Unicode.Decode
import Derived.Shelf.Strings.RuneCount
import Derived.Shelf.Strings.Explode
import Derived.Shelf.Unicode.DecodeSlow
import Derived.Shelf.Unicode.DecodeAny
import Derived.Shelf.Strings.BuilderCap
import Derived.Test.YtnceocjgcdcpgaaDoorProg
import Derived.Lib.Bytealg
import Derived.Lib.IndexLaws
import Derived.RangeFuncNested
import Derived.RangeFuncBound
import Derived.RangeFuncCalls
import Derived.RangeFuncLeaves
import Derived.RangeFuncFrom
import Derived.Shelf.Abstract
import Derived.Shelf.RegionOpen
import Derived.OwnWalkIn
import Derived.TacticsInMore
import Derived.LoopNIn
import Derived.LoopIn
import Derived.IntWalk
import Derived.Lib.IndexBytes
import Derived.Lib.Join
import Derived.Lib.PathFns
import Derived.Lib.Hide
import Derived.Outline
import Derived.Deep.DeepMust
import Derived.Below
import Derived.Deep.Draws
import Derived.Deep.AppendLies
import Derived.Maps.AppendAt
import Derived.OwnWalk
import Derived.Laws.BytesArg
import Derived.Laws.MakeOwn
import Derived.Laws.OwnMore
import Derived.Deep.OwnRows
import Derived.Tactics
import Derived.Lib.ConvBytes
import Derived.Laws.Slices
import Derived.KernelRfl
import Derived.RowKit3
import Derived.Deep.LoopGhost
import Derived.Deep.QuietTactic
import Derived.BigQuiet
import Derived.WideLaws
import Derived.Deep.DeepCutAuto
import Derived.Deep.CutBlock
import Derived.Deep.RegionHeld3
import Derived.Laws.Rows
import Derived.Lib.AppendStr
import Derived.ArgAppend
import Derived.Laws.IdiomCopy
import Derived.OrdersHeld
import Derived.Laws.BitsLemmas
import Derived.RowKit
import Derived.Test.YtnceocjgcdcpgaaDoorWLast
import Derived.Test.YtnceocjgcdcpgaaDoorWTab
import Derived.Test.YtnceocjgcdcpgaaDoorWFour
import Derived.Test.YtnceocjgcdcpgaaDoorWQPut
import Derived.Test.YtnceocjgcdcpgaaDoorWApart
import Derived.Test.YtnceocjgcdcpgaaDoorWArr
import Derived.Test.YtnceocjgcdcpgaaDoorWZeros
import Derived.Test.YtnceocjgcdcpgaaDoorWFoot
import Derived.Test.YtnceocjgcdcpgaaDoorWKept
import Derived.Test.YtnceocjgcdcpgaaDoorWShare
import Derived.Test.YtnceocjgcdcpgaaDoorWN
import Derived.Test.YtnceocjgcdcpgaaDoorWFootNe
import Derived.Test.YtnceocjgcdcpgaaDoorWAt
import Derived.Test.YtnceocjgcdcpgaaDoorWEqStruct
import Derived.Test.YtnceocjgcdcpgaaDoorWRepsOne
import Derived.Test.YtnceocjgcdcpgaaDoorWInv
import Derived.Test.YtnceocjgcdcpgaaDoorWInvWords
import Derived.Test.YtnceocjgcdcpgaaDoorWGuard
import Derived.Test.YtnceocjgcdcpgaaDoorWNEv
import Derived.Test.YtnceocjgcdcpgaaDoorWMore
import Derived.RangeFuncBox
set_option linter.unusedVariables false
set_option linter.unusedSimpArgs false
/- The orders '>', '<=', '>=' on strings, as the printed texts spell them. -/
section
namespace Go.Proofs.YtnceocjgcdcpgaaDoor
theorem bytesLess_swap : ∀ (a b : List UInt8), (!(Op.bytesLess a b || a == b)) = Op.bytesLess b a
  | [], [] => rfl
  | [], _ :: _ => rfl
  | _ :: _, [] => rfl
  | x :: a, y :: b => by
    simp only [Op.bytesLess]
    have ih := bytesLess_swap a b
    by_cases h : x = y
    · subst h
      simp
      simpa using ih
    · have h1 : (x == y) = false := by simpa using h
      have h2 : (y == x) = false := by simpa using fun e => h e.symm
      have h3 : ((x :: a) == (y :: b)) = false := by simp [h]
      rw [h1, h2, h3]
      simp only [Bool.false_and, Bool.or_false]
      by_cases h4 : x < y
      · have h5 : ¬ y < x := by rw [UInt8.lt_iff_toNat_lt] at *; omega
        simp [h4, h5]
      · have h5 : y < x := by
          rw [UInt8.lt_iff_toNat_lt] at *
          have : x.toNat ≠ y.toNat := fun e => h (UInt8.toNat_inj.1 e)
          omega
        simp [h4, h5]
theorem bytesLess_swap' (a b : List UInt8) : (Op.bytesLess a b || a == b) = !Op.bytesLess b a := by
  rw [← bytesLess_swap a b, Bool.not_not]
@[go_sem] theorem string_gtr (t : TypeId) (a b : ByteArray) : binOp .gtr t (.string a) (.string b) = pure (.bool (Op.bytesLess b.toList a.toList)) := by
  rw [← bytesLess_swap]
  simp [binOp, Op.stringOp]
@[go_sem] theorem string_leq (t : TypeId) (a b : ByteArray) : binOp .leq t (.string a) (.string b) = pure (.bool (!Op.bytesLess b.toList a.toList)) := by
  rw [← bytesLess_swap']
  simp [binOp, Op.stringOp]
@[go_sem] theorem string_geq (t : TypeId) (a b : ByteArray) : binOp .geq t (.string a) (.string b) = pure (.bool (!Op.bytesLess a.toList b.toList)) := by
  simp [binOp, Op.stringOp]
end Go.Proofs.YtnceocjgcdcpgaaDoor
end

/- Small words beside the print's own. -/
section
namespace Go.Proofs.YtnceocjgcdcpgaaDoorW.PrintWords
theorem bt_atN (s : ByteArray) (n : Nat) : ∀ h : n < s.size, ((s[n]'h).toNat : Int) = bt s (n : Int) := fun h => by simp [bt, h]
end Go.Proofs.YtnceocjgcdcpgaaDoorW.PrintWords
end

/-
  DERIVED: THE SHELF's CONTRACTS AT THIS DUMP, IN PLAIN WORDS (tools/lay-plain.mjs out of 'TrydShelf.lean', which tools/lay-shelf.mjs wrote): THE SAME DECLARATIONS UNDER THE SAME NAMES: 'import', 'namespace', 'open', 'def', 'theorem' AND NOTHING ELSE: no command of the shelf's: FOR A HAND-IN. Each laying: the table of numbers ('.._ren') and one theorem, a field a fact of the dump's own or the kernel's comparison; each contract: ONE APPLICATION.
-/
section
namespace Go.Proofs
open Go.Shelf
def Tryd.lays156_ren : Go.Shelf.Ren := ⟨fun | 156 => 23 | 165 => 35 | 166 => 36 | 169 => 37 | 240 => 46 | 241 => 47 | 276 => 52 | 277 => 53 | n => n, fun | 31 => 39 | 9 => 9 | 3 => 3 | 4 => 4 | 0 => 0 | 20 => 20 | 72 => 62 | 76 => 66 | 70 => 59 | 37 => 60 | 75 => 65 | 127 => 70 | 164 => 73 | 5 => 5 | 80 => 68 | n => n, fun | n => n⟩
theorem Tryd.lays156 : Go.Proofs.Lays.n156 Tryd.prog Tryd.lays156_ren := {
  mixed := by kernel_rfl
  f156 := Tryd.func23.trans (congrArg some (by kernel_rfl))
  f165 := Tryd.func35.trans (congrArg some (by kernel_rfl))
  f166 := Tryd.func36.trans (congrArg some (by kernel_rfl))
  f169 := Tryd.func37.trans (congrArg some (by kernel_rfl))
  f240 := Tryd.func46.trans (congrArg some (by kernel_rfl))
  f241 := Tryd.func47.trans (congrArg some (by kernel_rfl))
  f276 := Tryd.func52.trans (congrArg some (by kernel_rfl))
  f277 := Tryd.func53.trans (congrArg some (by kernel_rfl))
  t0 := Tryd.underlying0
  a0 := Tryd.isAgg0
  z0 := Tryd.sizeOf0
  v0 := Tryd.zeroValue0
  t3 := Tryd.underlying3
  a3 := Tryd.isAgg3
  z3 := Tryd.sizeOf3
  v3 := Tryd.zeroValue3
  t4 := Tryd.underlying4
  a4 := Tryd.isAgg4
  z4 := Tryd.sizeOf4
  v4 := Tryd.zeroValue4
  t9 := Tryd.underlying9
  a9 := Tryd.isAgg9
  z9 := Tryd.sizeOf9
  v9 := Tryd.zeroValue9
  t20 := Tryd.underlying20
  a20 := Tryd.isAgg20
  z20 := Tryd.sizeOf20
  v20 := Tryd.zeroValue20
  t31 := Tryd.underlying39
  a31 := Tryd.isAgg39
  z31 := Tryd.sizeOf39
  v31 := Tryd.zeroValue39
  t37 := Tryd.underlying60
  a37 := Tryd.isAgg60
  z37 := Tryd.sizeOf60
  v37 := Tryd.zeroValue60
  t70 := Tryd.underlying59
  a70 := Tryd.isAgg59
  z70 := Tryd.sizeOf59
  v70 := Tryd.zeroValue59
  t72 := Tryd.underlying62
  a72 := Tryd.isAgg62
  z72 := Tryd.sizeOf62
  v72 := Tryd.zeroValue62
  t75 := Tryd.underlying65
  a75 := Tryd.isAgg65
  z75 := Tryd.sizeOf65
  v75 := Tryd.zeroValue65
  t76 := Tryd.underlying66
  a76 := Tryd.isAgg66
  z76 := Tryd.sizeOf66
  v76 := Tryd.zeroValue66
  t127 := Tryd.underlying70
  a127 := Tryd.isAgg70
  z127 := Tryd.sizeOf70
  v127 := Tryd.zeroValue70
  t164 := Tryd.underlying73
  a164 := Tryd.isAgg73
  z164 := Tryd.sizeOf73
  v164 := Tryd.zeroValue73 }
theorem Tryd.Builder_Extra_156 : Builder.Extra Tryd.prog Tryd.lays156_ren := {
  sizeBuilder := by kernel_rfl
  liesBuilder := by kernel_rfl
  t5 := Tryd.underlying5
  a5 := Tryd.isAgg5
  z5 := Tryd.sizeOf5
  v5 := Tryd.zeroValue5
  infoByte := by kernel_rfl
  cellsByte := by kernel_rfl
  sizeByte := by kernel_rfl
  neB5 := by decide }
open Go.RowKit in
theorem Tryd.strings_Join_none (a : Option Addr) (c : Nat) (sep : ByteArray) (w : World) :
    Calls Tryd.prog 23 #[.slice a 0 c, .string sep] w fun e w' => e = .returned (.string ⟨#[]⟩) ∧ w' = w := Any.strings_Join_none Tryd.lays156 Tryd.Builder_Extra_156 a c sep w
open Go.RowKit in
theorem Tryd.strings_Join (bk o c : Nat) (xs : List ByteArray) (sep : ByteArray) (w : World) (hcells : ∀ (j : Nat) x, xs[j]? = some x → w.cell? ⟨bk, o + j, none⟩ = some (.string x)) (hbk : bk < w.heap.size) (hN : xs.length ≤ 140737488355328) (hcap : xs.length ≤ c) (hlen : (Lib.join (xs.map (·.data.toList)) sep.data.toList).length ≤ 140737488355328) :
    Calls Tryd.prog 23 #[.slice (some ⟨bk, o, none⟩) xs.length c, .string sep] w fun e w' => e = .returned (.string ⟨(Lib.join (xs.map (·.data.toList)) sep.data.toList).toArray⟩) ∧ Below w.heap.size w w' := Any.strings_Join Tryd.lays156 Tryd.Builder_Extra_156 bk o c xs sep w hcells hbk hN hcap hlen
def Tryd.lays137_ren : Go.Shelf.Ren := ⟨fun | 137 => 20 | 217 => 32 | 266 => 42 | n => n, fun | 9 => 9 | 5 => 5 | 3 => 3 | n => n, fun | n => n⟩
theorem Tryd.lays137 : Go.Proofs.Lays.n137 Tryd.prog Tryd.lays137_ren := {
  mixed := by kernel_rfl
  f137 := Tryd.func20.trans (congrArg some (by kernel_rfl))
  f217 := Tryd.func32.trans (congrArg some (by kernel_rfl))
  f266 := Tryd.func42.trans (congrArg some (by kernel_rfl))
  t3 := Tryd.underlying3
  a3 := Tryd.isAgg3
  z3 := Tryd.sizeOf3
  v3 := Tryd.zeroValue3
  t5 := Tryd.underlying5
  a5 := Tryd.isAgg5
  z5 := Tryd.sizeOf5
  v5 := Tryd.zeroValue5
  t9 := Tryd.underlying9
  a9 := Tryd.isAgg9
  z9 := Tryd.sizeOf9
  v9 := Tryd.zeroValue9 }
open Go.RowKit in
theorem Tryd.strings_IndexByte (s : ByteArray) (c : Int) (w : World) :
    Calls Tryd.prog 20 #[.string s, .int .u8 c] w fun e w' => e = .returned (.int .i64 (Lib.indexByte s.data.toList c.toNat.toUInt8)) ∧ w' = w := Any.strings_IndexByte Tryd.lays137 s c w
def Tryd.lays143_ren : Go.Shelf.Ren := ⟨fun | 143 => 45 | 219 => 51 | 217 => 32 | 225 => 55 | 224 => 56 | 267 => 57 | 266 => 42 | 314 => 58 | n => n, fun | 9 => 9 | 3 => 3 | 4 => 4 | 5 => 5 | 46 => 77 | 146 => 83 | 51 => 82 | n => n, fun | 1 => 0 | n => n⟩
theorem Tryd.lays143 : Go.Proofs.Lays.n143 Tryd.prog Tryd.lays143_ren := {
  mixed := by kernel_rfl
  f143 := Tryd.func45.trans (congrArg some (by kernel_rfl))
  f217 := Tryd.func32.trans (congrArg some (by kernel_rfl))
  f219 := Tryd.func51.trans (congrArg some (by kernel_rfl))
  f224 := Tryd.func56.trans (congrArg some (by kernel_rfl))
  f225 := Tryd.func55.trans (congrArg some (by kernel_rfl))
  f266 := Tryd.func42.trans (congrArg some (by kernel_rfl))
  f267 := Tryd.func57.trans (congrArg some (by kernel_rfl))
  f314 := Tryd.func58.trans (congrArg some (by kernel_rfl))
  t3 := Tryd.underlying3
  a3 := Tryd.isAgg3
  z3 := Tryd.sizeOf3
  v3 := Tryd.zeroValue3
  t4 := Tryd.underlying4
  a4 := Tryd.isAgg4
  z4 := Tryd.sizeOf4
  v4 := Tryd.zeroValue4
  t5 := Tryd.underlying5
  a5 := Tryd.isAgg5
  z5 := Tryd.sizeOf5
  v5 := Tryd.zeroValue5
  t9 := Tryd.underlying9
  a9 := Tryd.isAgg9
  z9 := Tryd.sizeOf9
  v9 := Tryd.zeroValue9
  t46 := Tryd.underlying77
  a46 := Tryd.isAgg77
  z46 := Tryd.sizeOf77
  v46 := Tryd.zeroValue77
  t51 := Tryd.underlying82
  a51 := Tryd.isAgg82
  z51 := Tryd.sizeOf82
  v51 := Tryd.zeroValue82
  t146 := Tryd.underlying83
  a146 := Tryd.isAgg83
  z146 := Tryd.sizeOf83
  v146 := Tryd.zeroValue83
  g1 := by kernel_rfl }
open Go.RowKit Go.Lib in
theorem Tryd.strings_Index_one (s : ByteArray) (c : UInt8) (w : World) :
    Calls Tryd.prog 45 #[.string s, .string ⟨#[c]⟩] w fun e w' => e = .returned (.int .i64 (Lib.indexByte s.data.toList c)) ∧ w' = w := Any.strings_Index_one Tryd.lays143 s c w
open Go.RowKit Go.Lib in
theorem Tryd.strings_Index (s sub : ByteArray) (m : Int) (w : World) (hs : s.size < 4294967281) (hm : w.cell? ⟨0, 0, none⟩ = some (.int .i64 m)) :
    Calls Tryd.prog 45 #[.string s, .string sub] w fun e w' => e = .returned (.int .i64 (Lib.index s.data.toList sub.data.toList)) ∧ w' = w := Any.strings_Index Tryd.lays143 s sub m w hs hm
def Tryd.lays138_ren : Go.Shelf.Ren := ⟨fun | 138 => 44 | 195 => 48 | 218 => 50 | 143 => 45 | 219 => 51 | 217 => 32 | 225 => 55 | 224 => 56 | 267 => 57 | 266 => 42 | 314 => 58 | n => n, fun | 9 => 9 | 3 => 3 | 4 => 4 | 5 => 5 | 0 => 0 | 46 => 77 | 146 => 83 | 51 => 82 | n => n, fun | 1 => 0 | n => n⟩
theorem Tryd.lays138 : Go.Proofs.Lays.n138 Tryd.prog Tryd.lays138_ren := {
  mixed := by kernel_rfl
  f138 := Tryd.func44.trans (congrArg some (by kernel_rfl))
  f143 := Tryd.func45.trans (congrArg some (by kernel_rfl))
  f195 := Tryd.func48.trans (congrArg some (by kernel_rfl))
  f217 := Tryd.func32.trans (congrArg some (by kernel_rfl))
  f218 := Tryd.func50.trans (congrArg some (by kernel_rfl))
  f219 := Tryd.func51.trans (congrArg some (by kernel_rfl))
  f224 := Tryd.func56.trans (congrArg some (by kernel_rfl))
  f225 := Tryd.func55.trans (congrArg some (by kernel_rfl))
  f266 := Tryd.func42.trans (congrArg some (by kernel_rfl))
  f267 := Tryd.func57.trans (congrArg some (by kernel_rfl))
  f314 := Tryd.func58.trans (congrArg some (by kernel_rfl))
  t0 := Tryd.underlying0
  a0 := Tryd.isAgg0
  z0 := Tryd.sizeOf0
  v0 := Tryd.zeroValue0
  t3 := Tryd.underlying3
  a3 := Tryd.isAgg3
  z3 := Tryd.sizeOf3
  v3 := Tryd.zeroValue3
  t4 := Tryd.underlying4
  a4 := Tryd.isAgg4
  z4 := Tryd.sizeOf4
  v4 := Tryd.zeroValue4
  t5 := Tryd.underlying5
  a5 := Tryd.isAgg5
  z5 := Tryd.sizeOf5
  v5 := Tryd.zeroValue5
  t9 := Tryd.underlying9
  a9 := Tryd.isAgg9
  z9 := Tryd.sizeOf9
  v9 := Tryd.zeroValue9
  t46 := Tryd.underlying77
  a46 := Tryd.isAgg77
  z46 := Tryd.sizeOf77
  v46 := Tryd.zeroValue77
  t51 := Tryd.underlying82
  a51 := Tryd.isAgg82
  z51 := Tryd.sizeOf82
  v51 := Tryd.zeroValue82
  t146 := Tryd.underlying83
  a146 := Tryd.isAgg83
  z146 := Tryd.sizeOf83
  v146 := Tryd.zeroValue83
  g1 := by kernel_rfl }
open Go.RowKit Go.Lib in
theorem Tryd.strings_Count_one (s : ByteArray) (c : UInt8) (w : World) :
    Calls Tryd.prog 44 #[.string s, .string ⟨#[c]⟩] w fun e w' => e = .returned (.int .i64 (Lib.countByte s.data.toList c)) ∧ w' = w := Any.strings_Count_one Tryd.lays138 s c w
open Go.RowKit Go.Lib in
theorem Tryd.strings_Count (s sub : ByteArray) (m : Int) (w : World) (hs : s.size < 4294967281) (hm : w.cell? ⟨0, 0, none⟩ = some (.int .i64 m)) (h2 : 2 ≤ sub.size) :
    Calls Tryd.prog 44 #[.string s, .string sub] w fun e w' => e = .returned (.int .i64 (Lib.countB s sub)) ∧ w' = w := Any.strings_Count Tryd.lays138 s sub m w hs hm h2
def Tryd.lays149_ren : Go.Shelf.Ren := ⟨fun | 149 => 30 | 222 => 41 | n => n, fun | 9 => 9 | 5 => 5 | 3 => 3 | 4 => 4 | n => n, fun | n => n⟩
theorem Tryd.lays149 : Go.Proofs.Lays.n149 Tryd.prog Tryd.lays149_ren := {
  mixed := by kernel_rfl
  f149 := Tryd.func30.trans (congrArg some (by kernel_rfl))
  f222 := Tryd.func41.trans (congrArg some (by kernel_rfl))
  t3 := Tryd.underlying3
  a3 := Tryd.isAgg3
  z3 := Tryd.sizeOf3
  v3 := Tryd.zeroValue3
  t4 := Tryd.underlying4
  a4 := Tryd.isAgg4
  z4 := Tryd.sizeOf4
  v4 := Tryd.zeroValue4
  t5 := Tryd.underlying5
  a5 := Tryd.isAgg5
  z5 := Tryd.sizeOf5
  v5 := Tryd.zeroValue5
  t9 := Tryd.underlying9
  a9 := Tryd.isAgg9
  z9 := Tryd.sizeOf9
  v9 := Tryd.zeroValue9 }
open Go.RowKit Go.Lib in
theorem Tryd.strings_LastIndexByte (s : ByteArray) (c : Int) (hs : s.size < 4611686018427387904) (w : World) :
    Calls Tryd.prog 30 #[.string s, .int .u8 c] w fun e w' => e = .returned (.int .i64 (Lib.lastIndexByte s c)) ∧ w' = w := Any.strings_LastIndexByte Tryd.lays149 s c hs w
def Tryd.lays206_ren : Go.Shelf.Ren := ⟨fun | 206 => 40 | n => n, fun | 9 => 9 | 4 => 4 | 3 => 3 | n => n, fun | n => n⟩
theorem Tryd.lays206 : Go.Proofs.Lays.n206 Tryd.prog Tryd.lays206_ren := {
  mixed := by kernel_rfl
  f206 := Tryd.func40.trans (congrArg some (by kernel_rfl))
  t3 := Tryd.underlying3
  a3 := Tryd.isAgg3
  z3 := Tryd.sizeOf3
  v3 := Tryd.zeroValue3
  t4 := Tryd.underlying4
  a4 := Tryd.isAgg4
  z4 := Tryd.sizeOf4
  v4 := Tryd.zeroValue4
  t9 := Tryd.underlying9
  a9 := Tryd.isAgg9
  z9 := Tryd.sizeOf9
  v9 := Tryd.zeroValue9 }
open Go.RowKit Go.Lib in
theorem Tryd.stringslite_HasPrefix (s p : ByteArray) (w : World) :
    Calls Tryd.prog 40 #[.string s, .string p] w fun e w' => e = .returned (.bool (Lib.hasPrefix s.data.toList p.data.toList)) ∧ w' = w := Any.stringslite_HasPrefix Tryd.lays206 s p w
def Tryd.lays99_ren : Go.Shelf.Ren := ⟨fun | 99 => 29 | 206 => 40 | n => n, fun | 9 => 9 | 4 => 4 | 3 => 3 | n => n, fun | n => n⟩
theorem Tryd.lays99 : Go.Proofs.Lays.n99 Tryd.prog Tryd.lays99_ren := {
  mixed := by kernel_rfl
  f99 := Tryd.func29.trans (congrArg some (by kernel_rfl))
  f206 := Tryd.func40.trans (congrArg some (by kernel_rfl))
  t3 := Tryd.underlying3
  a3 := Tryd.isAgg3
  z3 := Tryd.sizeOf3
  v3 := Tryd.zeroValue3
  t4 := Tryd.underlying4
  a4 := Tryd.isAgg4
  z4 := Tryd.sizeOf4
  v4 := Tryd.zeroValue4
  t9 := Tryd.underlying9
  a9 := Tryd.isAgg9
  z9 := Tryd.sizeOf9
  v9 := Tryd.zeroValue9 }
open Go.RowKit Go.Lib in
theorem Tryd.strings_HasPrefix (s p : ByteArray) (w : World) :
    Calls Tryd.prog 29 #[.string s, .string p] w fun e w' => e = .returned (.bool (Lib.hasPrefix s.data.toList p.data.toList)) ∧ w' = w := Any.strings_HasPrefix Tryd.lays99 s p w
def Tryd.lays221_ren : Go.Shelf.Ren := ⟨fun | 221 => 33 | 268 => 43 | 138 => 44 | 143 => 45 | 195 => 48 | 197 => 49 | 218 => 50 | 219 => 51 | 260 => 54 | 217 => 32 | 225 => 55 | 224 => 56 | 267 => 57 | 266 => 42 | 314 => 58 | n => n, fun | 9 => 9 | 3 => 3 | 31 => 39 | 4 => 4 | 0 => 0 | 105 => 71 | 21 => 21 | 5 => 5 | 46 => 77 | 119 => 78 | 139 => 81 | 138 => 80 | 146 => 83 | 51 => 82 | n => n, fun | 1 => 0 | 3 => 1 | 4 => 2 | n => n⟩
theorem Tryd.lays221 : Go.Proofs.Lays.n221 Tryd.prog Tryd.lays221_ren := {
  mixed := by kernel_rfl
  f138 := Tryd.func44.trans (congrArg some (by kernel_rfl))
  f143 := Tryd.func45.trans (congrArg some (by kernel_rfl))
  f195 := Tryd.func48.trans (congrArg some (by kernel_rfl))
  f197 := Tryd.func49.trans (congrArg some (by kernel_rfl))
  f217 := Tryd.func32.trans (congrArg some (by kernel_rfl))
  f218 := Tryd.func50.trans (congrArg some (by kernel_rfl))
  f219 := Tryd.func51.trans (congrArg some (by kernel_rfl))
  f221 := Tryd.func33.trans (congrArg some (by kernel_rfl))
  f224 := Tryd.func56.trans (congrArg some (by kernel_rfl))
  f225 := Tryd.func55.trans (congrArg some (by kernel_rfl))
  f260 := Tryd.func54.trans (congrArg some (by kernel_rfl))
  f266 := Tryd.func42.trans (congrArg some (by kernel_rfl))
  f267 := Tryd.func57.trans (congrArg some (by kernel_rfl))
  f268 := Tryd.func43.trans (congrArg some (by kernel_rfl))
  f314 := Tryd.func58.trans (congrArg some (by kernel_rfl))
  t0 := Tryd.underlying0
  a0 := Tryd.isAgg0
  z0 := Tryd.sizeOf0
  v0 := Tryd.zeroValue0
  t3 := Tryd.underlying3
  a3 := Tryd.isAgg3
  z3 := Tryd.sizeOf3
  v3 := Tryd.zeroValue3
  t4 := Tryd.underlying4
  a4 := Tryd.isAgg4
  z4 := Tryd.sizeOf4
  v4 := Tryd.zeroValue4
  t5 := Tryd.underlying5
  a5 := Tryd.isAgg5
  z5 := Tryd.sizeOf5
  v5 := Tryd.zeroValue5
  t9 := Tryd.underlying9
  a9 := Tryd.isAgg9
  z9 := Tryd.sizeOf9
  v9 := Tryd.zeroValue9
  t21 := Tryd.underlying21
  a21 := Tryd.isAgg21
  z21 := Tryd.sizeOf21
  v21 := Tryd.zeroValue21
  t31 := Tryd.underlying39
  a31 := Tryd.isAgg39
  z31 := Tryd.sizeOf39
  v31 := Tryd.zeroValue39
  t46 := Tryd.underlying77
  a46 := Tryd.isAgg77
  z46 := Tryd.sizeOf77
  v46 := Tryd.zeroValue77
  t51 := Tryd.underlying82
  a51 := Tryd.isAgg82
  z51 := Tryd.sizeOf82
  v51 := Tryd.zeroValue82
  t105 := Tryd.underlying71
  a105 := Tryd.isAgg71
  z105 := Tryd.sizeOf71
  v105 := Tryd.zeroValue71
  t119 := Tryd.underlying78
  a119 := Tryd.isAgg78
  z119 := Tryd.sizeOf78
  t138 := Tryd.underlying80
  a138 := Tryd.isAgg80
  z138 := Tryd.sizeOf80
  v138 := Tryd.zeroValue80
  t139 := Tryd.underlying81
  a139 := Tryd.isAgg81
  z139 := Tryd.sizeOf81
  v139 := Tryd.zeroValue81
  t146 := Tryd.underlying83
  a146 := Tryd.isAgg83
  z146 := Tryd.sizeOf83
  v146 := Tryd.zeroValue83
  g1 := by kernel_rfl
  g3 := by kernel_rfl
  g4 := by kernel_rfl }
open Go.RowKit Go.Lib in
theorem Tryd.strings_genSplit (s sep : ByteArray) (sv : Nat) (n : Int) (N : Nat) (m : Int) (w : World) (hs : s.size < 4294967281) (hm : w.cell? ⟨0, 0, none⟩ = some (.int .i64 m)) (h1 : 1 ≤ sep.size) (hsv : sv ≤ sep.size) (hn0 : n ≠ 0) (hn63 : n ≤ 9223372036854775807) (hN : (N : Int) = min (if n < 0 then (Lib.countB s sep : Int) + 1 else n) ((s.size : Int) + 1)) :
    Calls Tryd.prog 33 #[.string s, .string sep, .int .i64 sv, .int .i64 n] w fun e w' =>
      e = .returned (.slice (some ⟨w.heap.size, 0, none⟩) (Lib.splitB sep sv (N - 1) s).length N) ∧ w' = w.alloc (.cells (Lib.cellsOf (Lib.splitB sep sv (N - 1) s) N) 9) := Any.strings_genSplit Tryd.lays221 (by kernel_rfl) s sep sv n N m w hs hm h1 hsv hn0 hn63 hN
def Tryd.lays146_ren : Go.Shelf.Ren := ⟨fun | 146 => 21 | 221 => 33 | 268 => 43 | 138 => 44 | 143 => 45 | 195 => 48 | 197 => 49 | 218 => 50 | 219 => 51 | 260 => 54 | 217 => 32 | 225 => 55 | 224 => 56 | 267 => 57 | 266 => 42 | 314 => 58 | n => n, fun | 9 => 9 | 31 => 39 | 3 => 3 | 4 => 4 | 0 => 0 | 105 => 71 | 21 => 21 | 5 => 5 | 46 => 77 | 119 => 78 | 139 => 81 | 138 => 80 | 146 => 83 | 51 => 82 | n => n, fun | 1 => 0 | 3 => 1 | 4 => 2 | n => n⟩
theorem Tryd.lays146 : Go.Proofs.Lays.n146 Tryd.prog Tryd.lays146_ren := {
  mixed := by kernel_rfl
  f138 := Tryd.func44.trans (congrArg some (by kernel_rfl))
  f143 := Tryd.func45.trans (congrArg some (by kernel_rfl))
  f146 := Tryd.func21.trans (congrArg some (by kernel_rfl))
  f195 := Tryd.func48.trans (congrArg some (by kernel_rfl))
  f197 := Tryd.func49.trans (congrArg some (by kernel_rfl))
  f217 := Tryd.func32.trans (congrArg some (by kernel_rfl))
  f218 := Tryd.func50.trans (congrArg some (by kernel_rfl))
  f219 := Tryd.func51.trans (congrArg some (by kernel_rfl))
  f221 := Tryd.func33.trans (congrArg some (by kernel_rfl))
  f224 := Tryd.func56.trans (congrArg some (by kernel_rfl))
  f225 := Tryd.func55.trans (congrArg some (by kernel_rfl))
  f260 := Tryd.func54.trans (congrArg some (by kernel_rfl))
  f266 := Tryd.func42.trans (congrArg some (by kernel_rfl))
  f267 := Tryd.func57.trans (congrArg some (by kernel_rfl))
  f268 := Tryd.func43.trans (congrArg some (by kernel_rfl))
  f314 := Tryd.func58.trans (congrArg some (by kernel_rfl))
  t0 := Tryd.underlying0
  a0 := Tryd.isAgg0
  z0 := Tryd.sizeOf0
  v0 := Tryd.zeroValue0
  t3 := Tryd.underlying3
  a3 := Tryd.isAgg3
  z3 := Tryd.sizeOf3
  v3 := Tryd.zeroValue3
  t4 := Tryd.underlying4
  a4 := Tryd.isAgg4
  z4 := Tryd.sizeOf4
  v4 := Tryd.zeroValue4
  t5 := Tryd.underlying5
  a5 := Tryd.isAgg5
  z5 := Tryd.sizeOf5
  v5 := Tryd.zeroValue5
  t9 := Tryd.underlying9
  a9 := Tryd.isAgg9
  z9 := Tryd.sizeOf9
  v9 := Tryd.zeroValue9
  t21 := Tryd.underlying21
  a21 := Tryd.isAgg21
  z21 := Tryd.sizeOf21
  v21 := Tryd.zeroValue21
  t31 := Tryd.underlying39
  a31 := Tryd.isAgg39
  z31 := Tryd.sizeOf39
  v31 := Tryd.zeroValue39
  t46 := Tryd.underlying77
  a46 := Tryd.isAgg77
  z46 := Tryd.sizeOf77
  v46 := Tryd.zeroValue77
  t51 := Tryd.underlying82
  a51 := Tryd.isAgg82
  z51 := Tryd.sizeOf82
  v51 := Tryd.zeroValue82
  t105 := Tryd.underlying71
  a105 := Tryd.isAgg71
  z105 := Tryd.sizeOf71
  v105 := Tryd.zeroValue71
  t119 := Tryd.underlying78
  a119 := Tryd.isAgg78
  z119 := Tryd.sizeOf78
  t138 := Tryd.underlying80
  a138 := Tryd.isAgg80
  z138 := Tryd.sizeOf80
  v138 := Tryd.zeroValue80
  t139 := Tryd.underlying81
  a139 := Tryd.isAgg81
  z139 := Tryd.sizeOf81
  v139 := Tryd.zeroValue81
  t146 := Tryd.underlying83
  a146 := Tryd.isAgg83
  z146 := Tryd.sizeOf83
  v146 := Tryd.zeroValue83
  g1 := by kernel_rfl
  g3 := by kernel_rfl
  g4 := by kernel_rfl }
open Go.RowKit Go.Lib in
theorem Tryd.strings_Split (s sep : ByteArray) (m : Int) (w : World) (hs : s.size < 4294967281) (hm : w.cell? ⟨0, 0, none⟩ = some (.int .i64 m)) (h1 : 1 ≤ sep.size) :
    Calls Tryd.prog 21 #[.string s, .string sep] w fun e w' =>
      e = .returned (.slice (some ⟨w.heap.size, 0, none⟩) (Lib.countB s sep + 1) (Lib.countB s sep + 1)) ∧ w' = w.alloc (.cells ((Lib.splitB sep 0 (Lib.countB s sep) s).map Value.string).toArray 9) := Any.strings_Split Tryd.lays146 (by kernel_rfl) s sep m w hs hm h1
end Go.Proofs
end

/- Plain words on paths: the pieces of a text, what is wrong with one, and laws on them. No program in sight. -/
section
namespace Go.Proofs.YtnceocjgcdcpgaaDoor.Nm
def pc : Nat → List UInt8 → List UInt8 × List (Nat × List UInt8)
  | _, [] => ([], [])
  | pos, c :: l => if c = 47 then ([], (pos + 1, (pc (pos + 1) l).1) :: (pc (pos + 1) l).2) else (c :: (pc (pos + 1) l).1, (pc (pos + 1) l).2)
def pieces (pos : Nat) (l : List UInt8) : List (Nat × List UInt8) := (pos, (pc pos l).1) :: (pc pos l).2
def bad (l : List UInt8) : Option (Nat × Nat) :=
  if l = [] then some (0, 80) else if 120 < l.length then some (0, 2) else if l = [46] ∨ l = [46, 46] then some (0, 81)
  else if 0 ≤ Lib.indexByte l 0 then some ((Lib.indexByte l 0).toNat, 82) else none
def firstBad : List (Nat × List UInt8) → Option (Nat × Nat)
  | [] => none
  | x :: r => match bad x.2 with
    | some (n, e) => some (x.1 + n, e)
    | none => firstBad r
def check (l : List UInt8) : Nat × Nat := if 400 < l.length then (0, 2) else (firstBad (pieces 0 l)).getD (0, 0)
theorem pc_none : ∀ (l : List UInt8) (pos : Nat), Lib.indexByte l 47 = -1 → pc pos l = (l, [])
  | [], _, _ => rfl
  | c :: l, pos, h => by
    simp only [Lib.indexByte] at h
    by_cases hc : c = 47
    · subst hc; simp at h
    · have h1 : (c == 47) = false := by simpa using hc
      rw [h1] at h
      have h2 : Lib.indexByte l 47 = -1 := by
        by_cases h3 : Lib.indexByte l 47 = -1
        · exact h3
        · have h4 : (Lib.indexByte l 47 == -1) = false := by simpa using h3
          have := Lib.indexByte_ge l 47
          simp only [h4, Bool.false_eq_true, if_false] at h
          omega
      simp only [pc, hc, if_false, pc_none l (pos + 1) h2]
theorem pc_some : ∀ (l : List UInt8) (pos n : Nat), Lib.indexByte l 47 = n → n < l.length ∧ pc pos l = (l.take n, pieces (pos + n + 1) (l.drop (n + 1)))
  | [], _, n, h => by simp [Lib.indexByte] at h
  | c :: l, pos, n, h => by
    simp only [Lib.indexByte] at h
    by_cases hc : c = 47
    · subst hc
      simp at h
      obtain rfl : n = 0 := by omega
      exact ⟨by simp, by simp [pc, pieces]⟩
    · have h1 : (c == 47) = false := by simpa using hc
      rw [h1] at h
      by_cases h3 : Lib.indexByte l 47 = -1
      · simp [h3] at h
      · have h4 : (Lib.indexByte l 47 == -1) = false := by simpa using h3
        have := Lib.indexByte_ge l 47
        simp only [h4, Bool.false_eq_true, if_false] at h
        obtain ⟨m, rfl⟩ : ∃ m, n = m + 1 := ⟨n - 1, by omega⟩
        have h5 : Lib.indexByte l 47 = (m : Int) := by omega
        obtain ⟨h6, h7⟩ := pc_some l (pos + 1) m h5
        refine ⟨by simp; omega, ?_⟩
        simp only [pc, hc, if_false, h7, List.take_succ_cons, List.drop_succ_cons]
        rw [show pos + 1 + m + 1 = pos + (m + 1) + 1 from by omega]
theorem pieces_none (l : List UInt8) (pos : Nat) (h : Lib.indexByte l 47 = -1) : pieces pos l = [(pos, l)] := by
  simp [pieces, pc_none l pos h]
theorem pieces_some (l : List UInt8) (pos n : Nat) (h : Lib.indexByte l 47 = n) : pieces pos l = (pos, l.take n) :: pieces (pos + n + 1) (l.drop (n + 1)) := by
  have := (pc_some l pos n h).2
  simp only [pieces, this]
theorem pc_bound : ∀ (l : List UInt8) (pos : Nat), (pc pos l).1.length ≤ l.length ∧ ∀ x ∈ (pc pos l).2, x.1 + x.2.length ≤ pos + l.length
  | [], _ => ⟨by simp [pc], by simp [pc]⟩
  | c :: l, pos => by
    obtain ⟨h1, h2⟩ := pc_bound l (pos + 1)
    by_cases hc : c = 47
    · simp only [pc, hc, if_true]
      refine ⟨by simp, fun x hx => ?_⟩
      simp only [List.mem_cons] at hx
      rcases hx with rfl | hx
      · simp only [List.length_cons]; omega
      · have := h2 x hx; simp only [List.length_cons]; omega
    · simp only [pc, hc, if_false]
      refine ⟨by simp only [List.length_cons]; omega, fun x hx => ?_⟩
      have := h2 x hx; simp only [List.length_cons]; omega
theorem pieces_bound (l : List UInt8) (pos : Nat) : ∀ x ∈ pieces pos l, x.1 + x.2.length ≤ pos + l.length := by
  intro x hx
  obtain ⟨h1, h2⟩ := pc_bound l pos
  simp only [pieces, List.mem_cons] at hx
  rcases hx with rfl | hx
  · simp only; omega
  · exact h2 x hx
theorem pc_length : ∀ (l : List UInt8) (pos : Nat), (pc pos l).2.length ≤ l.length
  | [], _ => by simp [pc]
  | c :: l, pos => by
    have := pc_length l (pos + 1)
    by_cases hc : c = 47
    · simp only [pc, hc, if_true, List.length_cons]; omega
    · simp only [pc, hc, if_false, List.length_cons]; omega
theorem pieces_length (l : List UInt8) (pos : Nat) : (pieces pos l).length ≤ l.length + 1 := by
  have := pc_length l pos
  simp only [pieces, List.length_cons]; omega
theorem bad_some {l : List UInt8} {m e : Nat} (h : bad l = some (m, e)) : (e = 82 ∧ m < l.length) ∨ (e ≠ 82 ∧ m = 0) := by
  unfold bad at h
  split at h
  · right; simp at h; omega
  · split at h
    · right; simp at h; omega
    · split at h
      · right; simp at h; omega
      · split at h
        · rename_i h1
          left
          simp only [Option.some.injEq, Prod.mk.injEq] at h
          obtain ⟨rfl, rfl⟩ := h
          refine ⟨rfl, ?_⟩
          have h2 := (Lib.indexByte_some (l := l) (c := 0) (o := (Lib.indexByte l 0).toNat) (by omega)).1
          exact (List.getElem?_eq_some_iff.1 h2).1
        · simp at h
end Go.Proofs.YtnceocjgcdcpgaaDoor.Nm
end

/- The contract of name.Each: the iterator over the pieces of a text, for every loop body that keeps the text's own box. -/
section
namespace Go.Proofs.YtnceocjgcdcpgaaDoor
open Go.RowKit Go.Shelf
attribute [local go_sem] Oper.semAt_some
theorem cell_of_box_l {w : World} {b : Nat} {v : Value} {t : TypeId} (h : w.heap[b]? = some (.cells #[v] t (0, 0))) : w.cell? ⟨b, 0, none⟩ = some v ∧ w.frozen? ⟨b, 0, none⟩ = false :=
  ⟨by simp [World.cell?, h], by simp [World.frozen?, h]⟩
theorem cell_new_l (W : World) (v : Value) (t : TypeId) : (W.alloc (.cells #[v] t)).cell? ⟨W.heap.size, 0, none⟩ = some v ∧ (W.alloc (.cells #[v] t)).frozen? ⟨W.heap.size, 0, none⟩ = false :=
  cell_of_box_l (World.alloc_heap_new W _)
theorem cell_alloc_l {W : World} {a : Addr} {v : Value} (o : Obj) (h : W.cell? a = some v) : (W.alloc o).cell? a = some v := cell_kept h (World.grownBy_alloc W o none) (fun r e => by cases e)
theorem frozen_alloc_l {W : World} {a : Addr} {v : Value} (o : Obj) (h : W.cell? a = some v) (hf : W.frozen? a = false) : (W.alloc o).frozen? a = false := (frozen_kept h (World.grownBy_alloc W o none) (fun r e => by cases e)).trans hf
abbrev pEnc (x : Nat × ByteArray) : Array Value := #[.int .i64 (x.1 : Int), .string x.2]
def bytesOfL (l : List UInt8) : ByteArray := ⟨l.toArray⟩
def piecesB (at_ : Nat) (l : List UInt8) : List (Nat × ByteArray) := (Nm.pieces at_ l).map fun x => (x.1, bytesOfL x.2)
theorem piecesB_none (p : ByteArray) (a : Nat) (h : Lib.indexByte (p.data.toList.drop a) 47 = -1) : piecesB a (p.data.toList.drop a) = [(a, p.extract a p.size)] := by
  unfold piecesB
  rw [Nm.pieces_none _ _ h, Lib.extract_from]
  rfl
theorem piecesB_some (p : ByteArray) (a n : Nat) (h : Lib.indexByte (p.data.toList.drop a) 47 = n) : piecesB a (p.data.toList.drop a) = (a, p.extract a (a + n)) :: piecesB (a + n + 1) (p.data.toList.drop (a + n + 1)) := by
  unfold piecesB
  rw [Nm.pieces_some _ _ _ h, Lib.extract_eq, List.drop_drop, Nat.add_sub_cancel_left, show a + (n + 1) = a + n + 1 from by omega]
  rfl
theorem piecesB_ne (a : Nat) (l : List UInt8) : piecesB a l ≠ [] := by simp [piecesB, Nm.pieces]
theorem found_lt (p : ByteArray) (a n : Nat) (h : Lib.indexByte (p.data.toList.drop a) 47 = n) : a + n + 1 ≤ p.size := by
  have := (Nm.pc_some _ 0 n h).1
  rw [List.length_drop, Array.length_toList] at this
  have e : p.data.size = p.size := rfl
  omega
theorem slice_run (p : ByteArray) (a m : Nat) (h : a + m ≤ p.size) (wx : World) :
    (Instr.slice 9 (.string p) (some (.int .i64 a)) (some (.int .i64 ((a : Int) + (m : Int)))) none).run Tryd.prog wx = .ok (.string (p.extract a (a + m))) wx := by
  rw [run_slice_string (P := Tryd.prog) (w := wx) 9 p .i64 .i64 (a : Int) ((a : Int) + (m : Int)) Tryd.underlying9 (by omega) (by omega) (by omega)]
  rw [Int.toNat_natCast, show ((a : Int) + (m : Int)).toNat = a + m from by omega]
theorem ibyte (s : ByteArray) (c : UInt8) (w : World) :
    Calls Tryd.prog 20 #[.string s, .int .u8 (c.toNat : Int)] w fun e w' => e = .returned (.int .i64 (Lib.indexByte s.data.toList c)) ∧ w = w' := by
  refine (Tryd.strings_IndexByte s c.toNat w).mono ?_
  rintro e w' ⟨rfl, rfl⟩
  exact ⟨by simp, rfl⟩
set_option maxRecDepth 100000 in
set_option maxHeartbeats 2000000 in
theorem each1_in (n : Nat) (hn : 1 ≤ n) (l Bn : Nat) (p : ByteArray) (hp : p.size ≤ 140737488355328) (J Jx : List (Nat × ByteArray) → World → Prop)
    (hY : ∀ pre x W, J pre W → pre.length < (piecesB 0 p.data.toList).length → YieldAt Fence.wide (n - 1) Tryd.prog l (pEnc x) W fun e W' =>
      (e = .returned (.bool true) ∧ J (pre ++ [x]) W' ∧ W'.cell? ⟨Bn, 0, none⟩ = W.cell? ⟨Bn, 0, none⟩) ∨ (e = .returned (.bool false) ∧ Jx (pre ++ [x]) W'))
    (W : World) (hBn : W.cell? ⟨Bn, 0, none⟩ = some (.string p)) (h0 : J [] W) :
    CallsIn Fence.wide n Tryd.prog 34 #[.func (.yield l) #[] #[], .pointer (some ⟨Bn, 0, none⟩)] W fun e W' => (∃ v, e = .returned v) ∧
      ((∃ ys, ys = piecesB 0 p.data.toList ∧ J ys W') ∨ (∃ pre, pre <+: piecesB 0 p.data.toList ∧ Jx pre W')) := by
  refine callsIn_of_wp Tryd.func34 rfl trivial ?_ rfl
  simp only [Tryd.ntmps34, List.size_toArray, List.length_cons, List.length_nil, Nat.reduceAdd, Nat.reduceSub, Array.replicate_succ, Array.replicate_zero, List.push_toArray, List.append_toArray, List.nil_append, List.cons_append]
  gi_wp2
  gi_loopw [3] (fun v wr => ∃ (pre : List (Nat × ByteArray)) (a : Nat), v = .int .i64 a ∧ a ≤ p.size ∧ Hid (piecesB 0 p.data.toList = pre ++ piecesB a (p.data.toList.drop a)) ∧ wr.cell? ⟨Bn, 0, none⟩ = some (.string p) ∧ J pre wr)
    (fun v _ => p.size + 1 - (intOf v).toNat)
  case atStart => exact ⟨[], 0, rfl, Nat.zero_le _, Lib.hid (by simp), hBn, h0⟩
  case round =>
    obtain ⟨pre, a, rfl, ha, hpre, hc, hJ⟩ := hrel
    have hlen : pre.length < (piecesB 0 p.data.toList).length := by
      rw [hpre.out, List.length_append]
      have := List.length_pos_iff.2 (piecesB_ne a (p.data.toList.drop a))
      omega
    have hcz : a ≤ p.size := ha
    by_cases hi : Lib.indexByte (p.data.toList.drop a) 47 = -1
    · have hpn := piecesB_none p a hi
      obtain ⟨fn, tmps, assign, body, hy, hR⟩ := hY pre (a, p.extract a p.size) wr hJ hlen
      have HR := Lib.hid hR
      clear hR
      have Hpn := Lib.hid hpn
      have Hi := Lib.hid hi
      clear hpn hi
      dsimp only [pEnc] at hy
      gi_wp2_with fail
      refine ⟨trivial, ?_⟩
      refine (callsIn_wide.2 (ibyte _ 47 _)).mono ?_
      rw [Lib.extract_to_end, Hi.out]
      rintro e w' ⟨rfl, rfl⟩
      gi_wp2_with fail
      refine HR.out.mono ?_
      rintro e W' (⟨rfl, hJ', hk⟩ | ⟨rfl, hJx'⟩)
      · gi_wp2_with fail
        refine bodyPost_ret (results_none rfl _ _ _) rfl ?_
        exact ⟨⟨_, rfl⟩, .inl ⟨_, rfl, by rw [hpre.out, Hpn.out]; exact hJ'⟩⟩
      · gi_wp2_with fail
        refine bodyPost_ret (results_none rfl _ _ _) rfl ?_
        exact ⟨⟨_, rfl⟩, .inr ⟨_, by rw [hpre.out, Hpn.out]; exact List.prefix_refl _, hJx'⟩⟩
    · obtain ⟨m, hm⟩ : ∃ m : Nat, Lib.indexByte (p.data.toList.drop a) 47 = m := ⟨(Lib.indexByte (p.data.toList.drop a) 47).toNat, by have := Lib.indexByte_ge (p.data.toList.drop a) 47; omega⟩
      have hpn := piecesB_some p a m hm
      have hml := found_lt p a m hm
      obtain ⟨fn, tmps, assign, body, hy, hR⟩ := hY pre (a, p.extract a (a + m)) wr hJ hlen
      have HR := Lib.hid hR
      have Hpn := Lib.hid hpn
      have Hm := Lib.hid hm
      clear hpn hm hi hR
      dsimp only [pEnc] at hy
      have hsl := slice_run p a m (by omega)
      gi_wp2_with fail
      refine ⟨trivial, ?_⟩
      refine (callsIn_wide.2 (ibyte _ 47 _)).mono ?_
      rw [Lib.extract_to_end, Hm.out]
      rintro e w' ⟨rfl, rfl⟩
      gi_wp2_with fail
      refine HR.out.mono ?_
      rintro e W' (⟨rfl, hJ', hk⟩ | ⟨rfl, hJx'⟩)
      · gi_wp2_with fail
        go_roundw
        case rel => exact ⟨pre ++ [(a, p.extract a (a + m))], a + m + 1, by go_num, by omega, Lib.hid (by rw [hpre.out, Hpn.out]; simp), hk.trans hc, hJ'⟩
        case measure => simp [intOf]; omega
      · gi_wp2_with fail
        refine bodyPost_ret (results_none rfl _ _ _) rfl ?_
        exact ⟨⟨_, rfl⟩, .inr ⟨_, by rw [hpre.out, Hpn.out]; exact ⟨_, List.append_assoc _ _ _⟩, hJx'⟩⟩
end Go.Proofs.YtnceocjgcdcpgaaDoor
end

/- The contract of name.Check: place and error of the first thing that is wrong with a path. -/
section
namespace Go.Proofs.YtnceocjgcdcpgaaDoor
open Go.RowKit Go.Shelf
attribute [local go_sem] Oper.semAt_some
def Box (Bn : Nat) (A B : World) : Prop := B.cell? ⟨Bn, 0, none⟩ = A.cell? ⟨Bn, 0, none⟩
theorem each_stops (n : Nat) (hn : 1 ≤ n) (Bn : Nat) (p : ByteArray) (hp : p.size ≤ 140737488355328) (w : World) (hb : Bn < w.heap.size) (hc : w.cell? ⟨Bn, 0, none⟩ = some (.string p)) :
    SeqStopsK Fence.wide n Tryd.prog 34 #[.pointer (some ⟨Bn, 0, none⟩)] pEnc (Box Bn) (fun xs => xs = piecesB 0 p.data.toList) (fun pre => pre <+: piecesB 0 p.data.toList) (piecesB 0 p.data.toList).length w :=
  fun l J Jx W hW _ _ hY h0 => each1_in n hn l Bn p hp J Jx hY W ((hW.cell (p := ⟨Bn, 0, none⟩) hb).trans hc) h0
theorem box_t {Bn : Nat} {A B C : World} (h : Box Bn A B) (k : Box Bn B C) : Box Bn A C := Eq.trans k h
theorem box_b {Bn : Nat} {w : World} (hb : Bn < w.heap.size) (W : World) (l : Nat) (o o' : Obj) (hl : w.heap.size ≤ l) (h : W.heap[l]? = some o) (_ : o.isCells = false) (_ : o.isWalk = false) : Box Bn W (W.putObj l o') :=
  (belowK_b (w := w) (Nat.le_refl _) W l o o' hl h ‹_› ‹_›).cell (p := ⟨Bn, 0, none⟩) hb
theorem each_any (p : ByteArray) (w : World) :
    Calls Tryd.prog 22 #[.string p] w fun e w' => e = .returned (.func (.func 34) #[] #[.pointer (some ⟨w.heap.size, 0, none⟩)]) ∧ w.alloc (.cells #[.string p] 9) = w' := by
  go_enter Tryd.func22, Tryd.ntmps22
  go_wp2
  go_ret
  exact ⟨rfl, rfl⟩
def fbW : List (Nat × ByteArray) → Option (Int × Int)
  | [] => none
  | x :: r => match Nm.bad x.2.data.toList with
    | some (m, e) => some (if e = 82 then wrap64 ((x.1 : Int) + (m : Int)) else (x.1 : Int), (e : Int))
    | none => fbW r
theorem fbW_snoc_none {pre : List (Nat × ByteArray)} {x : Nat × ByteArray} (h : fbW pre = none) (hx : Nm.bad x.2.data.toList = none) : fbW (pre ++ [x]) = none := by
  induction pre with
  | nil => simp [fbW, hx]
  | cons y r ih =>
    simp only [fbW] at h
    cases hb : Nm.bad y.2.data.toList with
    | some z => rw [hb] at h; simp at h
    | none => rw [hb] at h; simp only [List.cons_append, fbW, hb]; exact ih h
theorem fbW_snoc_some {pre : List (Nat × ByteArray)} {x : Nat × ByteArray} {m e : Nat} (h : fbW pre = none) (hx : Nm.bad x.2.data.toList = some (m, e)) : fbW (pre ++ [x]) = some (if e = 82 then wrap64 ((x.1 : Int) + (m : Int)) else (x.1 : Int), (e : Int)) := by
  induction pre with
  | nil => simp [fbW, hx]
  | cons y r ih =>
    simp only [fbW] at h
    cases hb : Nm.bad y.2.data.toList with
    | some z => rw [hb] at h; simp at h
    | none => rw [hb] at h; simp only [List.cons_append, fbW, hb]; exact ih h
theorem fbW_snoc_nul {pre : List (Nat × ByteArray)} {x : Nat × ByteArray} {m : Nat} (h : fbW pre = none) (hx : Nm.bad x.2.data.toList = some (m, 82)) : fbW (pre ++ [x]) = some (wrap64 ((x.1 : Int) + (m : Int)), 82) := by
  have := fbW_snoc_some h hx
  rw [if_pos rfl] at this
  exact this
theorem fbW_prefix {pre l : List (Nat × ByteArray)} {y : Int × Int} (h : fbW pre = some y) (hp : pre <+: l) : fbW l = some y := by
  obtain ⟨r, rfl⟩ := hp
  induction pre with
  | nil => simp [fbW] at h
  | cons x s ih =>
    simp only [fbW] at h
    cases hb : Nm.bad x.2.data.toList with
    | some z => rw [hb] at h; simp only [List.cons_append, fbW, hb]; exact h
    | none => rw [hb] at h; simp only [List.cons_append, fbW, hb]; exact ih h
theorem bad_cases (l : List UInt8) :
    (l.isEmpty = true ∧ Nm.bad l = some (0, 80)) ∨
    (l.isEmpty = false ∧ decide (120 < (l.length : Int)) = true ∧ Nm.bad l = some (0, 2)) ∨
    (l.isEmpty = false ∧ decide (120 < (l.length : Int)) = false ∧ (l == [46]) = true ∧ Nm.bad l = some (0, 81)) ∨
    (l.isEmpty = false ∧ decide (120 < (l.length : Int)) = false ∧ (l == [46]) = false ∧ (l == [46, 46]) = true ∧ Nm.bad l = some (0, 81)) ∨
    (l.isEmpty = false ∧ decide (120 < (l.length : Int)) = false ∧ (l == [46]) = false ∧ (l == [46, 46]) = false ∧ (∃ m : Nat, Lib.indexByte l 0 = m ∧ Nm.bad l = some (m, 82))) ∨
    (l.isEmpty = false ∧ decide (120 < (l.length : Int)) = false ∧ (l == [46]) = false ∧ (l == [46, 46]) = false ∧ Lib.indexByte l 0 = -1 ∧ Nm.bad l = none) := by
  unfold Nm.bad
  by_cases h1 : l = []
  · left; simp [h1]
  · have e1 : l.isEmpty = false := by simpa using h1
    right
    rw [if_neg h1]
    by_cases h2 : 120 < l.length
    · left; rw [if_pos h2]; exact ⟨e1, by simp; omega, rfl⟩
    · right
      have e2 : decide (120 < (l.length : Int)) = false := by simp; omega
      rw [if_neg h2]
      by_cases h3 : l = [46]
      · left; subst h3; exact ⟨rfl, rfl, rfl, by simp⟩
      · right
        have e3 : (l == [46]) = false := by simpa using h3
        by_cases h4 : l = [46, 46]
        · left; subst h4; exact ⟨rfl, rfl, rfl, rfl, by simp⟩
        · right
          have e4 : (l == [46, 46]) = false := by simpa using h4
          rw [if_neg (by simp [h3, h4])]
          by_cases h5 : Lib.indexByte l 0 = -1
          · right; rw [h5]; exact ⟨e1, e2, e3, e4, rfl, by simp⟩
          · left
            have := Lib.indexByte_ge l 0
            refine ⟨e1, e2, e3, e4, (Lib.indexByte l 0).toNat, by omega, ?_⟩
            rw [if_pos (by omega)]
theorem two_set (W : World) (b : Nat) {v1 v2 u1 u2 : Value} (h1 : W.cell? ⟨b, 0, none⟩ = some u1) (h2 : W.cell? ⟨b + 1, 0, none⟩ = some u2) :
    ((W.setCell ⟨b, 0, none⟩ v1).setCell ⟨b + 1, 0, none⟩ v2).cell? ⟨b, 0, none⟩ = some v1 ∧ ((W.setCell ⟨b, 0, none⟩ v1).setCell ⟨b + 1, 0, none⟩ v2).cell? ⟨b + 1, 0, none⟩ = some v2 := by
  constructor
  · rw [World.cell?_setCell_other _ _ _ _ (by intro e; injection e with e; omega)]
    exact World.cell?_setCell_same _ _ _ h1
  · refine World.cell?_setCell_same' _ _ _ ?_
    rw [World.cell?_setCell_other _ _ _ _ (by intro e; injection e with e; omega), h2]
    rfl
theorem keeps_two (W : World) (b : Nat) (v1 v2 : Value) : KeepsOthers W ((W.setCell ⟨b, 0, none⟩ v1).setCell ⟨b + 1, 0, none⟩ v2) := (KeepsOthers.setCell W _ _).trans (KeepsOthers.setCell _ _ _)
theorem below_two {w : World} (W : World) (v1 v2 : Value) (hB : Below w.heap.size w W) : Below w.heap.size w ((W.setCell ⟨w.heap.size, 0, none⟩ v1).setCell ⟨w.heap.size + 1, 0, none⟩ v2) :=
  (hB.setCell (p := ⟨w.heap.size, 0, none⟩) (Nat.le_refl _) _).setCell (p := ⟨w.heap.size + 1, 0, none⟩) (by simp) _
set_option maxRecDepth 100000 in
set_option maxHeartbeats 2000000 in
theorem check_walk (p : ByteArray) (hp : p.size ≤ 400) (w : World) :
    Calls Tryd.prog 13 #[.string p] w fun e w' => e = .returned (.tuple #[.int .i64 ((fbW (piecesB 0 p.data.toList)).getD (0, 0)).1, .int .i64 ((fbW (piecesB 0 p.data.toList)).getD (0, 0)).2]) ∧ Below w.heap.size w w' := by
  refine (callsIn_wide (n := 3)).1 ?_
  refine callsIn_of_wp_marks Tryd.func13 rfl trivial ?_ rfl
  simp only [Tryd.ntmps13, List.size_toArray, List.length_cons, List.length_nil, Nat.reduceAdd, Nat.reduceSub, Array.replicate_succ, Array.replicate_zero, List.push_toArray, List.append_toArray, List.nil_append, List.cons_append]
  gi_wp2_with (refine ⟨trivial, ?_⟩; gi_at_call 22; refine (callsIn_wide.2 (each_any _ _)).mono ?_; rintro e w' ⟨rfl, rfl⟩)
  have c0 := cell_new_l w (.int .i64 0) 3
  have c1 := cell_new_l (w.alloc (.cells #[.int .i64 0] 3)) (.int .i64 0) 22
  have c2 := cell_new_l ((w.alloc (.cells #[.int .i64 0] 3)).alloc (.cells #[.int .i64 0] 22)) (.string p) 9
  simp only [World.size_alloc] at c1 c2
  have hB0 : Below w.heap.size w (((w.alloc (.cells #[.int .i64 0] 3)).alloc (.cells #[.int .i64 0] 22)).alloc (.cells #[.string p] 9)) := (((Below.refl _ w).alloc (Nat.le_refl _) _).alloc (by simp) _).alloc (by simp; omega) _
  refine wpIn_rangeFunc_ownF rfl (by omega) (gf := 34) (lb := #[.pointer (some ⟨w.heap.size + 1 + 1, 0, none⟩)]) rfl trivial (enters_of Tryd.func34 (by kernel_rfl) rfl)
    (each_stops (3 - 1) (by omega) (w.heap.size + 1 + 1) p (by omega) _ (by simp) c2.1) box_t (box_b (by simp)) (Below.refl _ _) (fun _ => rfl)
    (fun pre W => (fbW pre = none ∧ W.cell? ⟨w.heap.size, 0, none⟩ = some (.int .i64 0) ∧ W.frozen? ⟨w.heap.size, 0, none⟩ = false ∧ W.cell? ⟨w.heap.size + 1, 0, none⟩ = some (.int .i64 0) ∧ W.frozen? ⟨w.heap.size + 1, 0, none⟩ = false) ∧ Below w.heap.size w W)
    (fun c pre W => (c = .ret ∧ ∃ y : Int × Int, fbW pre = some y ∧ W.cell? ⟨w.heap.size, 0, none⟩ = some (.int .i64 y.1) ∧ W.cell? ⟨w.heap.size + 1, 0, none⟩ = some (.int .i64 y.2)) ∧ Below w.heap.size w W)
    (OwnFrom.and (Own.from (fun s A B row hs hg hr => ⟨hs.1, cell_kept hs.2.1 hg hr, (frozen_kept hs.2.1 hg hr).trans hs.2.2.1, cell_kept hs.2.2.2.1 hg hr, (frozen_kept hs.2.2.2.1 hg hr).trans hs.2.2.2.2⟩) _) (ownFrom_below (Nat.le_refl _) (by simp; omega)))
    (fun c => OwnFrom.and (Own.from (fun s A B row hs hg hr => ⟨hs.1, hs.2.choose, hs.2.choose_spec.1, cell_kept hs.2.choose_spec.2.1 hg hr, cell_kept hs.2.choose_spec.2.2 hg hr⟩) _) (ownFrom_below (Nat.le_refl _) (by simp; omega)))
    ⟨⟨rfl, cell_alloc_l _ (cell_alloc_l _ c0.1), frozen_alloc_l _ (cell_alloc_l _ c0.1) (frozen_alloc_l _ c0.1 c0.2), cell_alloc_l _ c1.1, frozen_alloc_l _ c1.1 c1.2⟩, hB0⟩
    (fun x => { tmps := #[.string p, undef, .pointer (some ⟨w.heap.size, 0, none⟩), .pointer (some ⟨w.heap.size + 1, 0, none⟩), .int .i64 (x.1 : Int), .string x.2, undef, .string p, .int .i64 (p.size : Int), .bool (decide (400 < (p.size : Int))), .string p, .func (.func 34) #[] #[.pointer (some ⟨w.heap.size + 1 + 1, 0, none⟩)], .int .i64 (x.1 : Int), .string x.2, undef, undef, undef, undef, undef, undef, undef, undef, undef, undef, undef, undef, undef, undef, undef, undef, undef, undef, undef, undef, undef, undef, undef, undef], defers := [] }) ?assign ?body ?done ?stop
  case assign =>
    intro l x W K hK
    gi_wp2
    exact hK
  case body =>
    rintro l pre x W ⟨⟨hn, hc1, hf1, hc2, hf2⟩, hB⟩ _
    have Hn := Lib.hid hn
    clear hn
    have hN : 1 ≤ 3 - 1 - 1 := by decide
    have es : x.2.toList = x.2.data.toList := Lib.toList_data x.2
    have el : x.2.data.toList.length = x.2.size := by rw [Array.length_toList]; rfl
    rcases bad_cases x.2.data.toList with ⟨q1, hb⟩ | ⟨q1, q2, hb⟩ | ⟨q1, q2, q3, hb⟩ | ⟨q1, q2, q3, q4, hb⟩ | ⟨q1, q2, q3, q4, m, hm, hb⟩ | ⟨q1, q2, q3, q4, hm, hb⟩
    · as_aux_lemma =>
      have Hb := Lib.hid hb
      rw [← es] at q1
      clear hb es el
      gi_wp2
      exact ⟨keeps_two _ _ _ _, ⟨rfl, _, fbW_snoc_some Hn.out Hb.out, (two_set W w.heap.size hc1 hc2).1, (two_set W w.heap.size hc1 hc2).2⟩, below_two W _ _ hB⟩
    · as_aux_lemma =>
      have Hb := Lib.hid hb
      rw [el] at q2
      rw [← es] at q1
      clear hb es el
      gi_wp2
      exact ⟨keeps_two _ _ _ _, ⟨rfl, _, fbW_snoc_some Hn.out Hb.out, (two_set W w.heap.size hc1 hc2).1, (two_set W w.heap.size hc1 hc2).2⟩, below_two W _ _ hB⟩
    · as_aux_lemma =>
      have Hb := Lib.hid hb
      rw [el] at q2
      rw [← es] at q1 q3
      clear hb es el
      gi_wp2
      exact ⟨keeps_two _ _ _ _, ⟨rfl, _, fbW_snoc_some Hn.out Hb.out, (two_set W w.heap.size hc1 hc2).1, (two_set W w.heap.size hc1 hc2).2⟩, below_two W _ _ hB⟩
    · as_aux_lemma =>
      have Hb := Lib.hid hb
      rw [el] at q2
      rw [← es] at q1 q3 q4
      clear hb es el
      gi_wp2
      exact ⟨keeps_two _ _ _ _, ⟨rfl, _, fbW_snoc_some Hn.out Hb.out, (two_set W w.heap.size hc1 hc2).1, (two_set W w.heap.size hc1 hc2).2⟩, below_two W _ _ hB⟩
    · as_aux_lemma =>
      have Hb := Lib.hid hb
      have Hm := Lib.hid hm
      rw [el] at q2
      rw [← es] at q1 q3 q4
      clear hb es el hm
      gi_wp2_with fail
      refine ⟨trivial, ?_⟩
      refine (CallsIn.inRound l (callsIn_wide.2 (ibyte _ 0 _))).mono ?_
      rw [Hm.out]
      rintro e w' ⟨rfl, rfl⟩
      gi_wp2
      exact ⟨keeps_two _ _ _ _, ⟨rfl, _, fbW_snoc_nul Hn.out Hb.out, (two_set W w.heap.size hc1 hc2).1, (two_set W w.heap.size hc1 hc2).2⟩, below_two W _ _ hB⟩
    · as_aux_lemma =>
      have Hb := Lib.hid hb
      have Hm := Lib.hid hm
      rw [el] at q2
      rw [← es] at q1 q3 q4
      clear hb es el hm
      gi_wp2_with fail
      refine ⟨trivial, ?_⟩
      refine (CallsIn.inRound l (callsIn_wide.2 (ibyte _ 0 _))).mono ?_
      rw [Hm.out]
      rintro e w' ⟨rfl, rfl⟩
      gi_wp2
      exact ⟨KeepsOthers.refl _, rfl, ⟨fbW_snoc_none Hn.out Hb.out, hc1, hf1, hc2, hf2⟩, hB⟩
  case done =>
    rintro D ys W hD rfl ⟨⟨hn, hc1, hf1, hc2, hf2⟩, hB⟩ hK
    gi_wp2
    have hK' := (keeps_two W w.heap.size (.int .i64 0) (.int .i64 0)).same D _ hK rfl
    have h2 := two_set W w.heap.size (v1 := .int .i64 0) (v2 := .int .i64 0) hc1 hc2
    refine ⟨by simp, .inl ⟨_, _, rfl, run_takeDeferred hK', ?_⟩⟩
    have hc5 := cell_kept h2.1 (grownBy_putObj' _ D (.deferred none)) (fun r e => by cases e; exact ⟨_, hK', rfl⟩)
    have hc6 := cell_kept h2.2 (grownBy_putObj' _ D (.deferred none)) (fun r e => by cases e; exact ⟨_, hK', rfl⟩)
    refine ⟨.tuple #[.int .i64 0, .int .i64 0], ?_, by rw [hn]; rfl, (below_two W _ _ hB).trans (belowK_b (w := w) (Nat.le_refl _) _ D _ _ (by simp at hD; omega) hK' rfl rfl)⟩
    simp [results, Tryd.f13, go_sem, hc5, hc6]
  case stop =>
    rintro D c pre W hD hpre ⟨⟨rfl, y, hy, hc1, hc2⟩, hB⟩ hK
    gi_wp2
    refine ⟨by simp, .inl ⟨_, _, rfl, run_takeDeferred hK, ?_⟩⟩
    have hc5 := cell_kept hc1 (grownBy_putObj' _ D (.deferred none)) (fun r e => by cases e; exact ⟨_, hK, rfl⟩)
    have hc6 := cell_kept hc2 (grownBy_putObj' _ D (.deferred none)) (fun r e => by cases e; exact ⟨_, hK, rfl⟩)
    refine ⟨.tuple #[.int .i64 y.1, .int .i64 y.2], ?_, by rw [fbW_prefix hy hpre]; rfl, hB.trans (belowK_b (w := w) (Nat.le_refl _) W D _ _ (by simp at hD; omega) hK rfl rfl)⟩
    simp [results, Tryd.f13, go_sem, hc5, hc6]
theorem fbW_eq : ∀ (l : List (Nat × List UInt8)), (∀ x ∈ l, x.1 + x.2.length ≤ 400) → fbW (l.map fun x => (x.1, bytesOfL x.2)) = (Nm.firstBad l).map fun y => ((y.1 : Int), (y.2 : Int))
  | [], _ => rfl
  | x :: r, h => by
    simp only [List.map_cons, fbW, Nm.firstBad]
    have e : (bytesOfL x.2).data.toList = x.2 := rfl
    rw [e]
    cases hb : Nm.bad x.2 with
    | none => exact fbW_eq r fun y hy => h y (List.mem_cons_of_mem _ hy)
    | some z =>
      obtain ⟨m, q⟩ := z
      have hx := h x (List.mem_cons_self ..)
      rcases Nm.bad_some hb with ⟨rfl, hm⟩ | ⟨hq, rfl⟩
      · simp only [if_true, Option.map_some, Option.some.injEq, Prod.mk.injEq, and_true]
        unfold wrap64; omega
      · simp only [if_neg hq, Option.map_some, Nat.add_zero]
set_option maxHeartbeats 2000000 in
set_option maxRecDepth 100000 in
theorem check_long (p : ByteArray) (hp : 400 < p.size) (w : World) :
    Calls Tryd.prog 13 #[.string p] w fun e w' => e = .returned (.tuple #[.int .i64 0, .int .i64 2]) ∧ Below w.heap.size w w' := by
  have hd : decide (400 < (p.size : Int)) = true := by simp; omega
  go_enter Tryd.func13, Tryd.ntmps13
  go_wp2
  exact bodyPost_ret (v := .tuple #[.int .i64 0, .int .i64 2]) (by simp [results, Tryd.f13, go_sem]) rfl ⟨rfl, ((Below.refl _ w).alloc (Nat.le_refl _) _).alloc (by simp) _⟩
theorem check_any (p : ByteArray) (w : World) :
    Calls Tryd.prog 13 #[.string p] w fun e w' => e = .returned (.tuple #[.int .i64 ((Nm.check p.data.toList).1 : Int), .int .i64 ((Nm.check p.data.toList).2 : Int)]) ∧ Below w.heap.size w w' := by
  have hl : p.data.toList.length = p.size := by rw [Array.length_toList]; rfl
  by_cases h : 400 < p.size
  · unfold Nm.check
    rw [if_pos (by omega)]
    exact check_long p h w
  · have hb := Nm.pieces_bound p.data.toList 0
    refine (check_walk p (by omega) w).mono ?_
    rintro e w' ⟨rfl, h2⟩
    refine ⟨?_, h2⟩
    unfold Nm.check piecesB
    rw [fbW_eq _ (fun x hx => by have := hb x hx; omega), if_neg (by omega)]
    cases Nm.firstBad (Nm.pieces 0 p.data.toList) <;> rfl
end Go.Proofs.YtnceocjgcdcpgaaDoor
end

-- PRINTED by print.py (a twelfth state) out of the translation. Not trusted: Lean checks it.
section
namespace Go.Proofs.YtnceocjgcdcpgaaDoor.XS
open Go.RowKit Go.Proofs.YtnceocjgcdcpgaaDoorW.PrintWords Go.Proofs.YtnceocjgcdcpgaaDoorW.PrintLast Go.Proofs.YtnceocjgcdcpgaaDoorW.PrintMore
attribute [local go_sem] max2_int min2_int max_two min_two max_three min_three max_four min_four   -- for this text's walks alone
def errW : Option Int → Value
  | none => .nilIface
  | some c => .iface 0 (.int .i64 c)
theorem errW_none : errW none = .nilIface := rfl
theorem errW_some (c : Int) : errW (some c) = .iface 0 (.int .i64 c) := rfl
theorem info9 : (Tryd.prog.info? 9).map (fun i => (i.zero, i.size, i.bytes)) = some (some (.string ⟨#[]⟩), 1, 16) := by kernel_rfl
-- the values' own types
end Go.Proofs.YtnceocjgcdcpgaaDoor.XS
end

-- PRINTED by print.py (a twelfth state) out of the translation. Not trusted: Lean checks it.
section
namespace Go.Proofs.YtnceocjgcdcpgaaDoor.XS
open Go.RowKit Go.Proofs.YtnceocjgcdcpgaaDoorW.PrintWords Go.Proofs.YtnceocjgcdcpgaaDoorW.PrintLast Go.Proofs.YtnceocjgcdcpgaaDoorW.PrintMore
attribute [local go_sem] max2_int min2_int max_two min_two max_three min_three max_four min_four   -- for this text's walks alone
theorem one_byte (a : ByteArray) (h : a.size = 1) : a = ⟨#[a.data.toList.headD 0]⟩ := by
  obtain ⟨⟨l⟩⟩ := a
  match l, h with
  | [x], _ => rfl
def strings_explode.f (_ : ByteArray) (_ : Int) : Option (List ByteArray) := none
theorem strings_explode.calls (a0 : ByteArray) (a1 : Int) (r : List ByteArray) (w : World) (h : strings_explode.f a0 a1 = some r) :
    Calls Tryd.prog 43 #[.string a0, .int .i64 a1] w fun e w' => ∃ v0_ : Value, e = .returned (v0_) ∧ Kd.R Kd.string 9 w' w.heap.size (fun _ => True) v0_ r ∧ Below w.heap.size w w' := by
  simp [strings_explode.f] at h
def strings_Count.f (a0 a1 : ByteArray) : Option Int := if a1.size = 1 then some (Lib.countByte a0.data.toList (a1.data.toList.headD 0) : Nat) else none
theorem strings_Count.calls (a0 : ByteArray) (a1 : ByteArray) (r : Int) (w : World) (h : strings_Count.f a0 a1 = some r) :
    Calls Tryd.prog 44 #[.string a0, .string a1] w fun e w' => e = .returned (.int .i64 r) ∧ Drawn0 w w' := by
  unfold strings_Count.f at h
  split at h
  · rename_i h1
    obtain rfl := Option.some.inj h
    have e := one_byte a1 h1
    rw [e]
    refine (Tryd.strings_Count_one a0 (a1.data.toList.headD 0) w).mono ?_
    rintro e w' ⟨rfl, rfl⟩
    exact ⟨rfl, Drawn0.refl _⟩
  · simp at h
def strings_Index.f (a0 a1 : ByteArray) : Option Int := if a1.size = 1 then some (Lib.indexByte a0.data.toList (a1.data.toList.headD 0)) else none
theorem strings_Index.calls (a0 : ByteArray) (a1 : ByteArray) (r : Int) (w : World) (h : strings_Index.f a0 a1 = some r) :
    Calls Tryd.prog 45 #[.string a0, .string a1] w fun e w' => e = .returned (.int .i64 r) ∧ Drawn0 w w' := by
  unfold strings_Index.f at h
  split at h
  · rename_i h1
    obtain rfl := Option.some.inj h
    have e := one_byte a1 h1
    rw [e]
    refine (Tryd.strings_Index_one a0 (a1.data.toList.headD 0) w).mono ?_
    rintro e w' ⟨rfl, rfl⟩
    exact ⟨rfl, Drawn0.refl _⟩
  · simp at h
mutual
def strings_genSplit.j0 : Nat → ByteArray → ByteArray → Int → Int → Option (List ByteArray)
  | 0, _, _, _, _ => none
  | k + 1, x0, x1, x2, x3 => if 0 ≤ (mn x3 (wrap64 ((x0.size : Int) + 1))) then (if (mn x3 (wrap64 ((x0.size : Int) + 1)) : Int).toNat ≤ 17592186044416 then (strings_genSplit.l0 k x0 x1 x2 (wrap64 ((mn x3 (wrap64 ((x0.size : Int) + 1))) - 1)) (List.replicate (mn x3 (wrap64 ((x0.size : Int) + 1)) : Int).toNat (⟨#[]⟩ : ByteArray)) 0) else (none)) else (none)
def strings_genSplit.l0 : Nat → ByteArray → ByteArray → Int → Int → List ByteArray → Int → Option (List ByteArray)
  | 0, _, _, _, _, _, _ => none
  | k + 1, x0, x1, x2, x3, x9, x10 => if x10 < x3 then ((strings_Index.f x0 x1).bind fun t108 => (if t108 < 0 then (if 0 ≤ x10 then (if x10 < (x9.length : Int) then (if 0 ≤ (wrap64 (x10 + 1)) then (if (wrap64 (x10 + 1)) ≤ (x9.length : Int) then (some ((x9.set (x10 : Int).toNat x0).take ((wrap64 (x10 + 1)) : Int).toNat)) else (none)) else (none)) else (none)) else (none)) else (if 0 ≤ (wrap64 (t108 + x2)) then (if (wrap64 (t108 + x2)) ≤ (x0.size : Int) then (if 0 ≤ x10 then (if x10 < (x9.length : Int) then (if 0 ≤ (wrap64 (t108 + (x1.size : Int))) then (if (wrap64 (t108 + (x1.size : Int))) ≤ (x0.size : Int) then (strings_genSplit.l0 k (x0.extract ((wrap64 (t108 + (x1.size : Int))) : Int).toNat x0.size) x1 x2 x3 (x9.set (x10 : Int).toNat (x0.extract 0 ((wrap64 (t108 + x2)) : Int).toNat)) (wrap64 (x10 + 1))) else (none)) else (none)) else (none)) else (none)) else (none)) else (none)))) else (if 0 ≤ x10 then (if x10 < (x9.length : Int) then (if 0 ≤ (wrap64 (x10 + 1)) then (if (wrap64 (x10 + 1)) ≤ (x9.length : Int) then (some ((x9.set (x10 : Int).toNat x0).take ((wrap64 (x10 + 1)) : Int).toNat)) else (none)) else (none)) else (none)) else (none))
end
def strings_genSplit.f (k : Nat) (a0 : ByteArray) (a1 : ByteArray) (a2 : Int) (a3 : Int) : Option (List ByteArray) := if a3 = 0 then (some ([] : List ByteArray)) else (if a1.toList = ([] : List UInt8) then ((strings_explode.f a0 a3).bind fun t101 => (some t101)) else (if a3 < 0 then ((strings_Count.f a0 a1).bind fun t104 => (strings_genSplit.j0 k a0 a1 a2 (wrap64 (t104 + 1)))) else (strings_genSplit.j0 k a0 a1 a2 a3)))
set_option maxHeartbeats 8000000 in
set_option maxRecDepth 100000 in
theorem strings_genSplit.calls (k : Nat) (a0 : ByteArray) (a1 : ByteArray) (a2 : Int) (a3 : Int) (r : List ByteArray) (w : World) (h : strings_genSplit.f k a0 a1 a2 a3 = some r) :
    Calls Tryd.prog 33 #[.string a0, .string a1, .int .i64 a2, .int .i64 a3] w fun e w' => ∃ v0_ : Value, e = .returned (v0_) ∧ Kd.R Kd.string 9 w' w.heap.size (fun _ => True) v0_ r ∧ Below w.heap.size w w' := by
  have HB := Aside0.mk (Below.refl w.heap.size w)
  have H : (if a3 = 0 then (some ([] : List ByteArray)) else (if a1.toList = ([] : List UInt8) then ((strings_explode.f a0 a3).bind fun t101 => (some t101)) else (if a3 < 0 then ((strings_Count.f a0 a1).bind fun t104 => (strings_genSplit.j0 k a0 a1 a2 (wrap64 (t104 + 1)))) else (strings_genSplit.j0 k a0 a1 a2 a3)))) = some r := h
  clear h
  by_cases c5 : a3 = 0
  · rw [if_pos c5] at H
    have c5b0 : (a3 == 0) = true := beq_iff_eq.mpr c5
    have c5b1 : (a3 != 0) = false := bne_eq_false_iff_eq.mpr c5
    clear c5
    obtain rfl := Option.some.inj H
    go_enter Tryd.func33, Tryd.ntmps33
    go_wp2
    go_ret
    exact ⟨_, by first | rfl | (simp [errW_none, errW_some] <;> rfl) | (simp [*, errW_none, errW_some] <;> rfl), by first | exact Kd.R_nil _ _ _ _ _ | exact Kd.N_nil _ _ _ _ _ | exact Kd.V_nil _ _ _ _ _ | exact Kd.Q_nil _ _ _ _ _ | exact Kd.S_nil _ _ _ _ _, by repeat (first | (with_reducible first | exact HB.out | apply below_alloc | apply pw_below_drewN | apply below_drew1) | exact HB.out)⟩
  · rw [if_neg c5] at H
    have c5b0 : (a3 == 0) = false := beq_eq_false_iff_ne.mpr c5
    have c5b1 : (a3 != 0) = true := bne_iff_ne.mpr c5
    by_cases c6 : a1.toList = ([] : List UInt8)
    · rw [if_pos c6] at H
      have c6b0 : (a1.toList == ([] : List UInt8)) = true := beq_iff_eq.mpr c6
      have c6b1 : (a1.toList != ([] : List UInt8)) = false := bne_eq_false_iff_eq.mpr c6
      clear c6
      replace H := Option.bind_eq_some_iff.mp H
      obtain ⟨t101, A70, H⟩ := H
      replace H : (some t101) = some r := H
      have A7 := Aside0.mk A70
      clear A70
      obtain rfl := Option.some.inj H
      go_enter Tryd.func33, Tryd.ntmps33
      go_wp2_with (first | ((with_reducible refine gate_callee (f := 43) rfl ?_); refine goesL_ (some 18) rfl rfl Tryd.func43 (by kernel_rfl) rfl #[.string a0, .int .i64 a3] rfl (by (try simp only [List.map_toArray, List.map_cons, List.map_nil]); first | done | rfl | (simp only [List.length_drop, List.length_take]; rfl)) ?_; (with_reducible refine (strings_explode.calls a0 a3 t101 _ A7.out).mono ?_); rintro e w8 ⟨v102, rfl, ho0, hb⟩; refine ⟨_, rfl, ?_⟩; have n0_ := Aside0.mk (Kd.R_lower ho0 (below_size (by repeat (first | (with_reducible first | exact HB.out | apply below_alloc | apply pw_below_drewN | apply below_drew1) | exact HB.out)))); have n1_ := Aside0.mk (below_step (by repeat (first | (with_reducible first | exact HB.out | apply below_alloc | apply pw_below_drewN | apply below_drew1) | exact HB.out)) hb); clear HB; have HO103 := n0_; have HB := n1_; clear n0_ n1_; (try clear hb); (try clear hb2); (try clear hk); (try clear hi); (try clear ho0)))
      go_ret
      exact ⟨_, by first | rfl | (simp [errW_none, errW_some] <;> rfl) | (simp [*, errW_none, errW_some] <;> rfl), by (with_reducible repeat (first | apply Kd.R_alloc | apply Kd.R_drewN | apply Kd.R_drew)); exact HO103.out, by repeat (first | (with_reducible first | exact HB.out | apply below_alloc | apply pw_below_drewN | apply below_drew1) | exact HB.out)⟩
    · rw [if_neg c6] at H
      have c6b0 : (a1.toList == ([] : List UInt8)) = false := beq_eq_false_iff_ne.mpr c6
      have c6b1 : (a1.toList != ([] : List UInt8)) = true := bne_iff_ne.mpr c6
      have HC9 := Aside0.mk H
      clear H
      go_enter Tryd.func33, Tryd.ntmps33
      go_upto_if 20 with (fail)
      go_cut [3] (fun v3 wc => ∃ (kq : Nat) (x3_8 : Int), v3 = .int .i64 x3_8 ∧ Aside0 (strings_genSplit.j0 kq a0 a1 a2 x3_8 = some r) ∧ Aside0 (kq ≤ k) ∧ Aside0 (Below w.heap.size w wc))
      case first =>
        have H := HC9.out
        clear HC9
        by_cases c10 : a3 < 0
        · rw [if_pos c10] at H
          have c10b0 : decide (a3 < 0) = true := decide_eq_true c10
          clear c10
          (first | rw [c10b0] | (simp only [i64_w, i32_w]; rw [c10b0]) | skip)
          replace H := Option.bind_eq_some_iff.mp H
          obtain ⟨t104, A110, H⟩ := H
          replace H : (strings_genSplit.j0 k a0 a1 a2 (wrap64 (t104 + 1))) = some r := H
          have A11 := Aside0.mk A110
          clear A110
          have H' := Aside0.mk H
          clear H
          go_wp2_with (first | ((with_reducible refine gate_callee (f := 44) rfl ?_); refine goesL_ (some 23) rfl rfl Tryd.func44 (by kernel_rfl) rfl #[.string a0, .string a1] rfl (by (try simp only [List.map_toArray, List.map_cons, List.map_nil]); first | done | rfl | (simp only [List.length_drop, List.length_take]; rfl)) ?_; (with_reducible refine (strings_Count.calls a0 a1 t104 _ A11.out).mono ?_); rintro e w' ⟨rfl, ⟨nd, rfl⟩⟩; refine ⟨_, rfl, ?_⟩))
          go_meet
          case rel => exact ⟨_, (wrap64 (t104 + 1)), (by first | rfl | (simp; done) | (simp [*]; done)), H', ⟨by first | omega | exact Nat.le_refl _⟩, ⟨by repeat (first | (with_reducible first | exact HB.out | apply below_alloc | apply pw_below_drewN | apply below_drew1) | exact HB.out)⟩⟩
        · rw [if_neg c10] at H
          have c10b0 : decide (a3 < 0) = false := decide_eq_false c10
          clear c10
          (first | rw [c10b0] | (simp only [i64_w, i32_w]; rw [c10b0]) | skip)
          have H' := Aside0.mk H
          clear H
          go_wp2
          go_meet
          case rel => exact ⟨_, (a3), (by first | rfl | (simp; done) | (simp [*]; done)), H', ⟨by first | omega | exact Nat.le_refl _⟩, ⟨by repeat (first | (with_reducible first | exact HB.out | apply below_alloc | apply pw_below_drewN | apply below_drew1) | exact HB.out)⟩⟩
      case rest =>
        clear HC9
        try clear c1
        try clear p2
        try clear c3
        try clear c4
        try clear c5
        try clear c5b0
        try clear c5b1
        try clear c6
        try clear c6b0
        try clear c6b1
        try clear p6
        try clear c10
        try clear c10b0
        obtain ⟨kq, x3_8, rfl, HA, HJ8, HB⟩ := hcut
        cases kq with
        | zero => exact absurd HA.out (by simp [strings_genSplit.j0])
        | succ kj8 =>
          have H := HA.out
          clear HA
          simp only [strings_genSplit.j0] at H
          obtain ⟨ji12, hji12⟩ : ∃ j_ : Int, (mn x3_8 (wrap64 ((a0.size : Int) + 1))) = j_ := ⟨_, rfl⟩
          replace H : (if 0 ≤ (ji12) then (if (ji12 : Int).toNat ≤ 17592186044416 then (strings_genSplit.l0 kj8 a0 a1 a2 (wrap64 ((ji12) - 1)) (List.replicate (ji12 : Int).toNat (⟨#[]⟩ : ByteArray)) 0) else (none)) else (none)) = some r := by first | (rw [hji12] at H; exact H) | (simp only [hji12] at H ⊢; exact H)
          have hji12_ : (if (wrap64 ((a0.size : Int) + 1)) < x3_8 then (wrap64 ((a0.size : Int) + 1)) else x3_8) = ji12 := hji12
          by_cases c13 : 0 ≤ (ji12)
          · rw [if_pos c13] at H
            have c13b0 := eq_true c13
            have c13b1 : decide (0 ≤ (ji12)) = true := decide_eq_true c13
            clear c13
            by_cases c14 : (ji12 : Int).toNat ≤ 17592186044416
            · rw [if_pos c14] at H
              have c14b0 := eq_true c14
              have c14b1 : decide ((ji12 : Int).toNat ≤ 17592186044416) = true := decide_eq_true c14
              clear c14
              obtain ⟨y105, hy105⟩ : ∃ y_ : List ByteArray, y_ = (List.replicate (ji12 : Int).toNat (⟨#[]⟩ : ByteArray)) := ⟨_, rfl⟩
              replace H : (strings_genSplit.l0 kj8 a0 a1 a2 (wrap64 ((ji12) - 1)) y105 0) = some r := by first | (rw [hy105]; with_reducible exact H) | (have H2_ := (Option.bind_some _ _).symm.trans H; rw [hy105]; with_reducible exact H2_) | (have H2_ := (Option.bind_some _ _).symm.trans H; with_reducible exact H2_) | with_reducible exact H | (rw [hy105]; exact H) | exact H
              have Ny105 := Aside0.mk hy105
              clear hy105
              have H' := Aside0.mk H
              clear H
              go_wp2_with (first | ((with_reducible refine gate_dst (N := 31) rfl ?_); refine Kd.R_make Kd.string _ 9 rfl (N := 31) rfl 39 _ _ rfl ji12 rfl rfl Tryd.underlying39 (.string ⟨#[]⟩) 16 info9 rfl (by decide) (by omega) (⟨#[]⟩ : ByteArray) (ok := fun _ => True) (okp := fun _ => True) rfl (fun _ hk => hk) trivial (of_decide_eq_true (by first | (with_reducible assumption) | assumption)) (Nat.le_trans (Nat.mul_le_mul_right _ (of_decide_eq_true (by first | (with_reducible assumption) | assumption) : ji12.toNat ≤ 17592186044416)) (by omega)) (Below.refl _ _) (Nat.le_refl _) ?_; intro v106 w15 ho16 hb hg_ hnew_; clear hg_ hnew_; (first | rw [← Ny105.out] at ho16 | (simp only [Int.reduceToNat] at ho16; rw [← Ny105.out] at ho16)); have n0_ := Aside0.mk (Kd.R_lower ho16 (below_size (by repeat (first | (with_reducible first | exact HB.out | apply below_alloc | apply pw_below_drewN | apply below_drew1) | exact HB.out)))); have n1_ := Aside0.mk (below_step (by repeat (first | (with_reducible first | exact HB.out | apply below_alloc | apply pw_below_drewN | apply below_drew1) | exact HB.out)) hb); clear HB; have HO107 := n0_; have HB := n1_; clear n0_ n1_; clear hb ho16))
              go_loopg [0, 10] kj8 (fun kq v0 v10 w' => ∃ (x0_2 : ByteArray) (x9_2 : List ByteArray) (x10_2 : Int), v0 = .string x0_2 ∧ v10 = .int .i64 x10_2 ∧ Aside0 (strings_genSplit.l0 kq x0_2 a1 a2 (wrap64 ((ji12) - 1)) x9_2 x10_2 = some r) ∧ Aside0 (kq ≤ kj8) ∧ Aside0 (Kd.R Kd.string 9 w' w.heap.size (fun _ => True) v106 x9_2) ∧ Aside0 (Below w.heap.size w w'))
              case atStart => exact ⟨(a0), (y105), (0), (by first | rfl | (simp; done) | (simp [*]; done)), (by first | rfl | (simp; done) | (simp [*]; done)), H', ⟨Nat.le_refl _⟩, ⟨by (with_reducible repeat (first | apply Kd.R_alloc | apply Kd.R_drewN | apply Kd.R_drew)); exact HO107.out⟩, ⟨by repeat (first | (with_reducible first | exact HB.out | apply below_alloc | apply pw_below_drewN | apply below_drew1) | exact HB.out)⟩⟩
              case round =>
                clear H'
                try clear c1
                try clear p2
                try clear c3
                try clear c4
                try clear c5
                try clear c5b0
                try clear c5b1
                try clear c6
                try clear c6b0
                try clear c6b1
                try clear p6
                try clear c10
                try clear c10b0
                try clear c13
                try clear c13b0
                try clear c13b1
                try clear c14
                try clear c14b0
                try clear c14b1
                try clear p2
                try clear p6
                obtain ⟨x0_2, x9_2, x10_2, rfl, rfl, HA, HK2, HO_9, HB⟩ := hrel
                cases gk with
                | zero => exact absurd HA.out (by simp [strings_genSplit.l0])
                | succ k2 =>
                  have H := HA.out
                  clear HA
                  simp only [strings_genSplit.l0] at H
                  by_cases c17 : x10_2 < (wrap64 ((ji12) - 1))
                  · rw [if_pos c17] at H
                    have c17b0 : decide (x10_2 < (wrap64 ((ji12) - 1))) = true := decide_eq_true c17
                    clear c17
                    replace H := Option.bind_eq_some_iff.mp H
                    obtain ⟨t108, A180, H⟩ := H
                    replace H : (if t108 < 0 then (if 0 ≤ x10_2 then (if x10_2 < (x9_2.length : Int) then (if 0 ≤ (wrap64 (x10_2 + 1)) then (if (wrap64 (x10_2 + 1)) ≤ (x9_2.length : Int) then (some ((x9_2.set (x10_2 : Int).toNat x0_2).take ((wrap64 (x10_2 + 1)) : Int).toNat)) else (none)) else (none)) else (none)) else (none)) else (if 0 ≤ (wrap64 (t108 + a2)) then (if (wrap64 (t108 + a2)) ≤ (x0_2.size : Int) then (if 0 ≤ x10_2 then (if x10_2 < (x9_2.length : Int) then (if 0 ≤ (wrap64 (t108 + (a1.size : Int))) then (if (wrap64 (t108 + (a1.size : Int))) ≤ (x0_2.size : Int) then (strings_genSplit.l0 k2 (x0_2.extract ((wrap64 (t108 + (a1.size : Int))) : Int).toNat x0_2.size) a1 a2 (wrap64 ((ji12) - 1)) (x9_2.set (x10_2 : Int).toNat (x0_2.extract 0 ((wrap64 (t108 + a2)) : Int).toNat)) (wrap64 (x10_2 + 1))) else (none)) else (none)) else (none)) else (none)) else (none)) else (none))) = some r := H
                    have A18 := Aside0.mk A180
                    clear A180
                    by_cases c19 : t108 < 0
                    · rw [if_pos c19] at H
                      have c19b0 : decide (t108 < 0) = true := decide_eq_true c19
                      clear c19
                      by_cases c20 : 0 ≤ x10_2
                      · rw [if_pos c20] at H
                        have c20b0 : decide (0 ≤ x10_2) = true := decide_eq_true c20
                        clear c20
                        by_cases c21 : x10_2 < (x9_2.length : Int)
                        · rw [if_pos c21] at H
                          have c21b0 : decide (x10_2 < (x9_2.length : Int)) = true := decide_eq_true c21
                          clear c21
                          obtain ⟨y109, hy109⟩ : ∃ y_ : List ByteArray, y_ = (x9_2.set (x10_2 : Int).toNat x0_2) := ⟨_, rfl⟩
                          replace H : (if 0 ≤ (wrap64 (x10_2 + 1)) then (if (wrap64 (x10_2 + 1)) ≤ (x9_2.length : Int) then (some (y109.take ((wrap64 (x10_2 + 1)) : Int).toNat)) else (none)) else (none)) = some r := by first | (rw [hy109]; with_reducible exact H) | (have H2_ := (Option.bind_some _ _).symm.trans H; rw [hy109]; with_reducible exact H2_) | (have H2_ := (Option.bind_some _ _).symm.trans H; with_reducible exact H2_) | with_reducible exact H | (rw [hy109]; exact H) | exact H
                          have Ny109 := Aside0.mk hy109
                          clear hy109
                          obtain ⟨ji23, hji23⟩ : ∃ j_ : Int, (wrap64 (x10_2 + 1)) = j_ := ⟨_, rfl⟩
                          replace H : (if 0 ≤ (ji23) then (if (ji23) ≤ (x9_2.length : Int) then (some (y109.take ((ji23) : Int).toNat)) else (none)) else (none)) = some r := by first | (rw [hji23] at H; exact H) | (simp only [hji23] at H ⊢; exact H)
                          (try rw [hji23] at A18)
                          have hji23w : (IntKind.i64.wrap (x10_2 + 1)) = ji23 := (i64_w _).trans hji23
                          by_cases c24 : 0 ≤ (ji23)
                          · rw [if_pos c24] at H
                            have c24b0 := eq_true c24
                            have c24b1 : decide (0 ≤ (ji23)) = true := decide_eq_true c24
                            clear c24
                            by_cases c25 : (ji23) ≤ (x9_2.length : Int)
                            · rw [if_pos c25] at H
                              have c25b0 := eq_true c25
                              have c25b1 : decide ((ji23) ≤ (x9_2.length : Int)) = true := decide_eq_true c25
                              clear c25
                              obtain ⟨y110, hy110⟩ : ∃ y_ : List ByteArray, y_ = (y109.take ((ji23) : Int).toNat) := ⟨_, rfl⟩
                              replace H : (some y110) = some r := by first | (rw [hy110]; with_reducible exact H) | (have H2_ := (Option.bind_some _ _).symm.trans H; rw [hy110]; with_reducible exact H2_) | (have H2_ := (Option.bind_some _ _).symm.trans H; with_reducible exact H2_) | with_reducible exact H | (rw [hy110]; exact H) | exact H
                              have Ny110 := Aside0.mk hy110
                              clear hy110
                              obtain rfl := Option.some.inj H
                              go_wp2_with (first | ((with_reducible refine gate_callee (f := 45) rfl ?_); refine goesL_ (some 39) rfl rfl Tryd.func45 (by kernel_rfl) rfl #[.string x0_2, .string a1] rfl (by (try simp only [List.map_toArray, List.map_cons, List.map_nil]); first | done | rfl | (simp only [List.length_drop, List.length_take]; rfl)) ?_; (with_reducible refine (strings_Index.calls x0_2 a1 t108 _ A18.out).mono ?_); rintro e w' ⟨rfl, ⟨nd, rfl⟩⟩; refine ⟨_, rfl, ?_⟩; (try (rw [drewN_self wr]; generalize hq_ : World.drewN wr _ = wr; have n0_ : Aside0 (Kd.R Kd.string 9 wr w.heap.size (fun _ => True) v106 x9_2) := ⟨by rw [← hq_]; exact (by (with_reducible repeat (first | apply Kd.R_alloc | apply Kd.R_drewN | apply Kd.R_drew)); exact HO_9.out)⟩; have n1_ : Aside0 (Below w.heap.size w wr) := ⟨by rw [← hq_]; exact (by repeat (first | (with_reducible first | exact HB.out | apply below_alloc | apply pw_below_drewN | apply below_drew1) | exact HB.out))⟩; clear HO_9 HB hq_; have HO_9 := n0_; have HB := n1_; clear n0_ n1_)); have p22 : 0 ≤ (x10_2 : Int) := of_decide_eq_true (by first | (with_reducible assumption) | assumption); have q22 : (x10_2 : Int) < ((x9_2.length : Int) : Int) := of_decide_eq_true (by first | (with_reducible assumption) | assumption); obtain ⟨go22, co22, eo22, gb22, gl22, cl22, HG22⟩ := Kd.R_form HO_9.out (by omega); (first | cases eo22 | (injection eo22 with ea_ en_ ec_; (first | subst ea_ | (injection ea_ with ea_; subst ea_)); subst ec_; clear en_)); have GB22 := Aside0.mk gb22; have GG22 := Aside0.mk HG22; clear gb22 gl22 HG22; obtain ⟨hx22_0, hf22_0⟩ := Kd.R_celln (⟨#[]⟩ : ByteArray) HO_9.out (x10_2 : Int) p22 q22; replace p22 := eq_true p22; replace q22 := eq_true q22; obtain ⟨hy26_, hz26_⟩ := Kd.R_celln (⟨#[]⟩ : ByteArray) HO_9.out (x10_2 : Int) (of_decide_eq_true (by first | (with_reducible assumption) | assumption)) (of_decide_eq_true (by first | (with_reducible assumption) | assumption)); have HP26 := Kd.R_putg HO_9.out (x10_2 : Int) x0_2; have hl_ : y109.length = x9_2.length := (by rw [Ny109.out, List.length_set]); have hp_ : Kd.R Kd.string 9 (wr.setCell ⟨go22, (x10_2 : Int).toNat, none⟩ (.string x0_2)) w.heap.size (fun _ => True) (.slice (some ⟨go22, 0, none⟩) x9_2.length co22) y109 := (by rw [Ny109.out]; exact HP26.1); clear HP26; have n0_ := Aside0.mk hp_; have n1_ := Aside0.mk (below_set (HB.out) GB22.out : Below w.heap.size w (wr.setCell ⟨go22, (x10_2 : Int).toNat, none⟩ (.string x0_2))); clear HO_9; clear HB; have HO_9 := n0_; have HB := n1_; clear n0_ n1_ hp_; have q28 : ((ji23) : Int) ≤ ((x9_2.length : Int) : Int) := of_decide_eq_true (by first | (with_reducible assumption) | assumption); obtain ⟨i028, hi028, _, hsz28, _⟩ := info_parts info9; have hcut28 := cut_to (P := Tryd.prog) 39 9 .i64 Tryd.underlying39 hi028 (some ⟨go22, 0, none⟩) x9_2.length co22 (ji23) (of_decide_eq_true (by first | (with_reducible assumption) | assumption)) q28 (Kd.R_reads' HO_9.out).2.1; have hr28 := Kd.R_take (m := ((ji23) : Int).toNat) HO_9.out (by omega); have hy28 : y110.length = ((ji23) : Int).toNat := (by rw [Ny110.out, List.length_take]; omega); rw [← Ny110.out] at hr28; rw [← hy28] at hr28 hcut28; clear hy28 hi028 hsz28 HO_9; have HO112 := Aside0.mk hr28; clear hr28; replace q28 := eq_true q28))
                              (refine bodyPost_ret (v := .slice (some ⟨go22, 0, none⟩) y110.length co22) ?_ ?_ ?_; exact (by exact results_tmp (fn := Tryd.f33) (t := 8) rfl _ _ _); rfl)
                              exact ⟨_, by first | rfl | (simp [errW_none, errW_some] <;> rfl) | (simp only [← hji12, ← hji23]; first | rfl | (simp [errW_none, errW_some] <;> rfl)) | (simp [*, errW_none, errW_some] <;> rfl), by (with_reducible repeat (first | apply Kd.R_alloc | apply Kd.R_drewN | apply Kd.R_drew)); exact HO112.out, by repeat (first | (with_reducible first | exact HB.out | apply below_alloc | apply pw_below_drewN | apply below_drew1) | exact HB.out)⟩
                            · rw [if_neg c25] at H
                              exact absurd H (by simp)
                          · rw [if_neg c24] at H
                            exact absurd H (by simp)
                        · rw [if_neg c21] at H
                          exact absurd H (by simp)
                      · rw [if_neg c20] at H
                        exact absurd H (by simp)
                    · rw [if_neg c19] at H
                      have c19b0 : decide (t108 < 0) = false := decide_eq_false c19
                      clear c19
                      obtain ⟨ji29, hji29⟩ : ∃ j_ : Int, (wrap64 (t108 + a2)) = j_ := ⟨_, rfl⟩
                      replace H : (if 0 ≤ (ji29) then (if (ji29) ≤ (x0_2.size : Int) then (if 0 ≤ x10_2 then (if x10_2 < (x9_2.length : Int) then (if 0 ≤ (wrap64 (t108 + (a1.size : Int))) then (if (wrap64 (t108 + (a1.size : Int))) ≤ (x0_2.size : Int) then (strings_genSplit.l0 k2 (x0_2.extract ((wrap64 (t108 + (a1.size : Int))) : Int).toNat x0_2.size) a1 a2 (wrap64 ((ji12) - 1)) (x9_2.set (x10_2 : Int).toNat (x0_2.extract 0 ((ji29) : Int).toNat)) (wrap64 (x10_2 + 1))) else (none)) else (none)) else (none)) else (none)) else (none)) else (none)) = some r := by first | (rw [hji29] at H; exact H) | (simp only [hji29] at H ⊢; exact H)
                      (try rw [hji29] at A18)
                      have hji29w : (IntKind.i64.wrap (t108 + a2)) = ji29 := (i64_w _).trans hji29
                      by_cases c30 : 0 ≤ (ji29)
                      · rw [if_pos c30] at H
                        have c30b0 := eq_true c30
                        have c30b1 : decide (0 ≤ (ji29)) = true := decide_eq_true c30
                        clear c30
                        by_cases c31 : (ji29) ≤ (x0_2.size : Int)
                        · rw [if_pos c31] at H
                          have c31b0 := eq_true c31
                          have c31b1 : decide ((ji29) ≤ (x0_2.size : Int)) = true := decide_eq_true c31
                          clear c31
                          by_cases c32 : 0 ≤ x10_2
                          · rw [if_pos c32] at H
                            have c32b0 : decide (0 ≤ x10_2) = true := decide_eq_true c32
                            clear c32
                            by_cases c33 : x10_2 < (x9_2.length : Int)
                            · rw [if_pos c33] at H
                              have c33b0 : decide (x10_2 < (x9_2.length : Int)) = true := decide_eq_true c33
                              clear c33
                              obtain ⟨y113, hy113⟩ : ∃ y_ : List ByteArray, y_ = (x9_2.set (x10_2 : Int).toNat (x0_2.extract 0 ((ji29) : Int).toNat)) := ⟨_, rfl⟩
                              replace H : (if 0 ≤ (wrap64 (t108 + (a1.size : Int))) then (if (wrap64 (t108 + (a1.size : Int))) ≤ (x0_2.size : Int) then (strings_genSplit.l0 k2 (x0_2.extract ((wrap64 (t108 + (a1.size : Int))) : Int).toNat x0_2.size) a1 a2 (wrap64 ((ji12) - 1)) y113 (wrap64 (x10_2 + 1))) else (none)) else (none)) = some r := by first | (rw [hy113]; with_reducible exact H) | (have H2_ := (Option.bind_some _ _).symm.trans H; rw [hy113]; with_reducible exact H2_) | (have H2_ := (Option.bind_some _ _).symm.trans H; with_reducible exact H2_) | with_reducible exact H | (rw [hy113]; exact H) | exact H
                              have Ny113 := Aside0.mk hy113
                              clear hy113
                              obtain ⟨ji35, hji35⟩ : ∃ j_ : Int, (wrap64 (t108 + (a1.size : Int))) = j_ := ⟨_, rfl⟩
                              replace H : (if 0 ≤ (ji35) then (if (ji35) ≤ (x0_2.size : Int) then (strings_genSplit.l0 k2 (x0_2.extract ((ji35) : Int).toNat x0_2.size) a1 a2 (wrap64 ((ji12) - 1)) y113 (wrap64 (x10_2 + 1))) else (none)) else (none)) = some r := by first | (rw [hji35] at H; exact H) | (simp only [hji35] at H ⊢; exact H)
                              (try rw [hji35] at A18)
                              have hji35w : (IntKind.i64.wrap (t108 + (a1.size : Int))) = ji35 := (i64_w _).trans hji35
                              by_cases c36 : 0 ≤ (ji35)
                              · rw [if_pos c36] at H
                                have c36b0 := eq_true c36
                                have c36b1 : decide (0 ≤ (ji35)) = true := decide_eq_true c36
                                clear c36
                                by_cases c37 : (ji35) ≤ (x0_2.size : Int)
                                · rw [if_pos c37] at H
                                  have c37b0 := eq_true c37
                                  have c37b1 : decide ((ji35) ≤ (x0_2.size : Int)) = true := decide_eq_true c37
                                  clear c37
                                  have H' := Aside0.mk H
                                  clear H
                                  go_wp2_with (first | ((with_reducible refine gate_callee (f := 45) rfl ?_); refine goesL_ (some 39) rfl rfl Tryd.func45 (by kernel_rfl) rfl #[.string x0_2, .string a1] rfl (by (try simp only [List.map_toArray, List.map_cons, List.map_nil]); first | done | rfl | (simp only [List.length_drop, List.length_take]; rfl)) ?_; (with_reducible refine (strings_Index.calls x0_2 a1 t108 _ A18.out).mono ?_); rintro e w' ⟨rfl, ⟨nd, rfl⟩⟩; refine ⟨_, rfl, ?_⟩; (try (rw [drewN_self wr]; generalize hq_ : World.drewN wr _ = wr; have n0_ : Aside0 (Kd.R Kd.string 9 wr w.heap.size (fun _ => True) v106 x9_2) := ⟨by rw [← hq_]; exact (by (with_reducible repeat (first | apply Kd.R_alloc | apply Kd.R_drewN | apply Kd.R_drew)); exact HO_9.out)⟩; have n1_ : Aside0 (Below w.heap.size w wr) := ⟨by rw [← hq_]; exact (by repeat (first | (with_reducible first | exact HB.out | apply below_alloc | apply pw_below_drewN | apply below_drew1) | exact HB.out))⟩; clear HO_9 HB hq_; have HO_9 := n0_; have HB := n1_; clear n0_ n1_)); have p34 : 0 ≤ (x10_2 : Int) := of_decide_eq_true (by first | (with_reducible assumption) | assumption); have q34 : (x10_2 : Int) < ((x9_2.length : Int) : Int) := of_decide_eq_true (by first | (with_reducible assumption) | assumption); obtain ⟨go34, co34, eo34, gb34, gl34, cl34, HG34⟩ := Kd.R_form HO_9.out (by omega); (first | cases eo34 | (injection eo34 with ea_ en_ ec_; (first | subst ea_ | (injection ea_ with ea_; subst ea_)); subst ec_; clear en_)); have GB34 := Aside0.mk gb34; have GG34 := Aside0.mk HG34; clear gb34 gl34 HG34; obtain ⟨hx34_0, hf34_0⟩ := Kd.R_celln (⟨#[]⟩ : ByteArray) HO_9.out (x10_2 : Int) p34 q34; replace p34 := eq_true p34; replace q34 := eq_true q34; obtain ⟨hy38_, hz38_⟩ := Kd.R_celln (⟨#[]⟩ : ByteArray) HO_9.out (x10_2 : Int) (of_decide_eq_true (by first | (with_reducible assumption) | assumption)) (of_decide_eq_true (by first | (with_reducible assumption) | assumption)); have HP38 := Kd.R_putg HO_9.out (x10_2 : Int) (x0_2.extract 0 ((ji29) : Int).toNat)) | ((with_reducible refine gate_store (t := 9) (p := 49) rfl ?_); refine store_event (t := 9) (p := 49) (v := ?vo_w39) (w1 := (wr.setCell ⟨go34, (x10_2 : Int).toNat, none⟩ (.string (x0_2.extract 0 ((ji29) : Int).toNat)))) ?hg ?ho ?hn ?hr ?_; (case ho => rfl); (case hg => rfl); (case hn => rfl); (case hr => first | (go_simp; done) | (go_simp; rfl)); intro w39 hw; have hg : wr.grownBy w39 (some go34) := (by rw [hw]; exact HP38.2); have hp_ : Kd.R Kd.string 9 w39 w.heap.size (fun _ => True) (.slice (some ⟨go34, 0, none⟩) x9_2.length co34) y113 := (by rw [hw, Ny113.out]; exact HP38.1); clear HP38; have n0_ := Aside0.mk (hp_); have n1_ := Aside0.mk ((by rw [hw]; exact below_set (HB.out) GB34.out : Below w.heap.size w w39)); clear HO_9; clear HB; have HO_9 := n0_; have HB := n1_; clear n0_ n1_; clear hg hw hp_))
                                  go_roundg k2
                                  case measure => have := HJ8.out; have := HK2.out; omega
                                  case rel => exact ⟨(x0_2.extract ((ji35) : Int).toNat x0_2.size), (y113), (wrap64 (x10_2 + 1)), (by first | rfl | (simp; done) | (simp only [← hji35] <;> (first | rfl | simp)) | (simp [*]; done)), (by first | rfl | (simp; done) | (simp [*]; done)), H', ⟨by have := HJ8.out; have := HK2.out; omega⟩, ⟨by (with_reducible repeat (first | apply Kd.R_alloc | apply Kd.R_drewN | apply Kd.R_drew)); exact HO_9.out⟩, ⟨by repeat (first | (with_reducible first | exact HB.out | apply below_alloc | apply pw_below_drewN | apply below_drew1) | exact HB.out)⟩⟩
                                · rw [if_neg c37] at H
                                  exact absurd H (by simp)
                              · rw [if_neg c36] at H
                                exact absurd H (by simp)
                            · rw [if_neg c33] at H
                              exact absurd H (by simp)
                          · rw [if_neg c32] at H
                            exact absurd H (by simp)
                        · rw [if_neg c31] at H
                          exact absurd H (by simp)
                      · rw [if_neg c30] at H
                        exact absurd H (by simp)
                  · rw [if_neg c17] at H
                    have c17b0 : decide (x10_2 < (wrap64 ((ji12) - 1))) = false := decide_eq_false c17
                    clear c17
                    by_cases c40 : 0 ≤ x10_2
                    · rw [if_pos c40] at H
                      have c40b0 : decide (0 ≤ x10_2) = true := decide_eq_true c40
                      clear c40
                      by_cases c41 : x10_2 < (x9_2.length : Int)
                      · rw [if_pos c41] at H
                        have c41b0 : decide (x10_2 < (x9_2.length : Int)) = true := decide_eq_true c41
                        clear c41
                        obtain ⟨y114, hy114⟩ : ∃ y_ : List ByteArray, y_ = (x9_2.set (x10_2 : Int).toNat x0_2) := ⟨_, rfl⟩
                        replace H : (if 0 ≤ (wrap64 (x10_2 + 1)) then (if (wrap64 (x10_2 + 1)) ≤ (x9_2.length : Int) then (some (y114.take ((wrap64 (x10_2 + 1)) : Int).toNat)) else (none)) else (none)) = some r := by first | (rw [hy114]; with_reducible exact H) | (have H2_ := (Option.bind_some _ _).symm.trans H; rw [hy114]; with_reducible exact H2_) | (have H2_ := (Option.bind_some _ _).symm.trans H; with_reducible exact H2_) | with_reducible exact H | (rw [hy114]; exact H) | exact H
                        have Ny114 := Aside0.mk hy114
                        clear hy114
                        obtain ⟨ji43, hji43⟩ : ∃ j_ : Int, (wrap64 (x10_2 + 1)) = j_ := ⟨_, rfl⟩
                        replace H : (if 0 ≤ (ji43) then (if (ji43) ≤ (x9_2.length : Int) then (some (y114.take ((ji43) : Int).toNat)) else (none)) else (none)) = some r := by first | (rw [hji43] at H; exact H) | (simp only [hji43] at H ⊢; exact H)
                        have hji43w : (IntKind.i64.wrap (x10_2 + 1)) = ji43 := (i64_w _).trans hji43
                        by_cases c44 : 0 ≤ (ji43)
                        · rw [if_pos c44] at H
                          have c44b0 := eq_true c44
                          have c44b1 : decide (0 ≤ (ji43)) = true := decide_eq_true c44
                          clear c44
                          by_cases c45 : (ji43) ≤ (x9_2.length : Int)
                          · rw [if_pos c45] at H
                            have c45b0 := eq_true c45
                            have c45b1 : decide ((ji43) ≤ (x9_2.length : Int)) = true := decide_eq_true c45
                            clear c45
                            obtain ⟨y115, hy115⟩ : ∃ y_ : List ByteArray, y_ = (y114.take ((ji43) : Int).toNat) := ⟨_, rfl⟩
                            replace H : (some y115) = some r := by first | (rw [hy115]; with_reducible exact H) | (have H2_ := (Option.bind_some _ _).symm.trans H; rw [hy115]; with_reducible exact H2_) | (have H2_ := (Option.bind_some _ _).symm.trans H; with_reducible exact H2_) | with_reducible exact H | (rw [hy115]; exact H) | exact H
                            have Ny115 := Aside0.mk hy115
                            clear hy115
                            obtain rfl := Option.some.inj H
                            have p42 : 0 ≤ (x10_2 : Int) := of_decide_eq_true (by first | (with_reducible assumption) | assumption)
                            have q42 : (x10_2 : Int) < ((x9_2.length : Int) : Int) := of_decide_eq_true (by first | (with_reducible assumption) | assumption)
                            obtain ⟨go42, co42, eo42, gb42, gl42, cl42, HG42⟩ := Kd.R_form HO_9.out (by omega)
                            (first | cases eo42 | (injection eo42 with ea_ en_ ec_; (first | subst ea_ | (injection ea_ with ea_; subst ea_)); subst ec_; clear en_))
                            have GB42 := Aside0.mk gb42
                            have GG42 := Aside0.mk HG42
                            clear gb42 gl42 HG42
                            obtain ⟨hx42_0, hf42_0⟩ := Kd.R_celln (⟨#[]⟩ : ByteArray) HO_9.out (x10_2 : Int) p42 q42
                            replace p42 := eq_true p42
                            replace q42 := eq_true q42
                            have HP46 := Kd.R_putg HO_9.out (x10_2 : Int) x0_2
                            (have hl_ : y114.length = x9_2.length := (by rw [Ny114.out, List.length_set]); have hp_ : Kd.R Kd.string 9 (wr.setCell ⟨go42, (x10_2 : Int).toNat, none⟩ (.string x0_2)) w.heap.size (fun _ => True) (.slice (some ⟨go42, 0, none⟩) x9_2.length co42) y114 := (by rw [Ny114.out]; exact HP46.1); clear HP46; have n0_ := Aside0.mk hp_; have n1_ := Aside0.mk (below_set (HB.out) GB42.out : Below w.heap.size w (wr.setCell ⟨go42, (x10_2 : Int).toNat, none⟩ (.string x0_2))); clear HO_9; clear HB; have HO_9 := n0_; have HB := n1_; clear n0_ n1_ hp_; have q48 : ((ji43) : Int) ≤ ((x9_2.length : Int) : Int) := of_decide_eq_true (by first | (with_reducible assumption) | assumption); obtain ⟨i048, hi048, _, hsz48, _⟩ := info_parts info9; have hcut48 := cut_to (P := Tryd.prog) 39 9 .i64 Tryd.underlying39 hi048 (some ⟨go42, 0, none⟩) x9_2.length co42 (ji43) (of_decide_eq_true (by first | (with_reducible assumption) | assumption)) q48 (Kd.R_reads' HO_9.out).2.1; have hr48 := Kd.R_take (m := ((ji43) : Int).toNat) HO_9.out (by omega); have hy48 : y115.length = ((ji43) : Int).toNat := (by rw [Ny115.out, List.length_take]; omega); rw [← Ny115.out] at hr48; rw [← hy48] at hr48 hcut48; clear hy48 hi048 hsz48 HO_9; have HO117 := Aside0.mk hr48; clear hr48; replace q48 := eq_true q48)
                            go_wp2_with (fail)
                            go_ret
                            exact ⟨_, by first | rfl | (simp [errW_none, errW_some] <;> rfl) | (simp only [← hji12, ← hji43]; first | rfl | (simp [errW_none, errW_some] <;> rfl)) | (simp [*, errW_none, errW_some] <;> rfl), by (with_reducible repeat (first | apply Kd.R_alloc | apply Kd.R_drewN | apply Kd.R_drew)); exact HO117.out, by repeat (first | (with_reducible first | exact HB.out | apply below_alloc | apply pw_below_drewN | apply below_drew1) | exact HB.out)⟩
                          · rw [if_neg c45] at H
                            exact absurd H (by simp)
                        · rw [if_neg c44] at H
                          exact absurd H (by simp)
                      · rw [if_neg c41] at H
                        exact absurd H (by simp)
                    · rw [if_neg c40] at H
                      exact absurd H (by simp)
            · rw [if_neg c14] at H
              exact absurd H (by simp)
          · rw [if_neg c13] at H
            exact absurd H (by simp)
def strings_Split.f (k : Nat) (a0 : ByteArray) (a1 : ByteArray) : Option (List ByteArray) := (strings_genSplit.f k a0 a1 0 (-1)).bind fun t118 => (some t118)
set_option maxHeartbeats 8000000 in
set_option maxRecDepth 100000 in
theorem strings_Split.calls (k : Nat) (a0 : ByteArray) (a1 : ByteArray) (r : List ByteArray) (w : World) (h : strings_Split.f k a0 a1 = some r) :
    Calls Tryd.prog 21 #[.string a0, .string a1] w fun e w' => ∃ v0_ : Value, e = .returned (v0_) ∧ Kd.R Kd.string 9 w' w.heap.size (fun _ => True) v0_ r ∧ Below w.heap.size w w' := by
  have HB := Aside0.mk (Below.refl w.heap.size w)
  have H : ((strings_genSplit.f k a0 a1 0 (-1)).bind fun t118 => (some t118)) = some r := h
  clear h
  replace H := Option.bind_eq_some_iff.mp H
  obtain ⟨t118, A30, H⟩ := H
  replace H : (some t118) = some r := H
  have A3 := Aside0.mk A30
  clear A30
  obtain rfl := Option.some.inj H
  go_enter Tryd.func21, Tryd.ntmps21
  go_wp2_with (first | ((with_reducible refine gate_callee (f := 33) rfl ?_); refine goesL_ (some 7) rfl rfl Tryd.func33 (by kernel_rfl) rfl #[.string a0, .string a1, .int .i64 0, .int .i64 (-1)] rfl (by (try simp only [List.map_toArray, List.map_cons, List.map_nil]); first | done | rfl | (simp only [List.length_drop, List.length_take]; rfl)) ?_; (with_reducible refine (strings_genSplit.calls k a0 a1 0 (-1) t118 _ A3.out).mono ?_); rintro e w4 ⟨v119, rfl, ho0, hb⟩; refine ⟨_, rfl, ?_⟩; have n0_ := Aside0.mk (Kd.R_lower ho0 (below_size (by repeat (first | (with_reducible first | exact HB.out | apply below_alloc | apply pw_below_drewN | apply below_drew1) | exact HB.out)))); have n1_ := Aside0.mk (below_step (by repeat (first | (with_reducible first | exact HB.out | apply below_alloc | apply pw_below_drewN | apply below_drew1) | exact HB.out)) hb); clear HB; have HO120 := n0_; have HB := n1_; clear n0_ n1_; (try clear hb); (try clear hb2); (try clear hk); (try clear hi); (try clear ho0)))
  go_ret
  exact ⟨_, by first | rfl | (simp [errW_none, errW_some] <;> rfl) | (simp [*, errW_none, errW_some] <;> rfl), by (with_reducible repeat (first | apply Kd.R_alloc | apply Kd.R_drewN | apply Kd.R_drew)); exact HO120.out, by repeat (first | (with_reducible first | exact HB.out | apply below_alloc | apply pw_below_drewN | apply below_drew1) | exact HB.out)⟩
end Go.Proofs.YtnceocjgcdcpgaaDoor.XS
end

/- More plain words on paths: texts of pieces, put together again; the order; what is beneath. -/
section
namespace Go.Proofs.YtnceocjgcdcpgaaDoor.Nm
def texts (l : List UInt8) : List (List UInt8) := (pieces 0 l).map (·.2)
def joinT : List (List UInt8) → List UInt8
  | [] => []
  | [x] => x
  | x :: y :: r => x ++ 47 :: joinT (y :: r)
theorem pc_texts : ∀ (l : List UInt8) (p q : Nat), (pc p l).1 = (pc q l).1 ∧ (pc p l).2.map (·.2) = (pc q l).2.map (·.2)
  | [], _, _ => ⟨rfl, rfl⟩
  | c :: l, p, q => by
    obtain ⟨h1, h2⟩ := pc_texts l (p + 1) (q + 1)
    by_cases hc : c = 47
    · simp only [pc, hc, if_true, List.map_cons, h1, h2, and_self]
    · simp only [pc, hc, if_false, h1, h2, and_self]
theorem pieces_texts (l : List UInt8) (p : Nat) : (pieces p l).map (·.2) = texts l := by
  obtain ⟨h1, h2⟩ := pc_texts l p 0
  simp only [texts, pieces, List.map_cons, h1, h2]
theorem texts_ne (l : List UInt8) : texts l ≠ [] := by simp [texts, pieces]
end Go.Proofs.YtnceocjgcdcpgaaDoor.Nm
end

/- strings.Split at a stroke: the texts between the strokes, in a row of its own. -/
section
namespace Go.Proofs.YtnceocjgcdcpgaaDoor.Sp
open Go.RowKit Go.Proofs.YtnceocjgcdcpgaaDoor Go.Proofs.YtnceocjgcdcpgaaDoor.XS Go.Proofs.YtnceocjgcdcpgaaDoorW.PrintWords Go.Proofs.YtnceocjgcdcpgaaDoorW.PrintLast Go.Proofs.YtnceocjgcdcpgaaDoorW.PrintMore
theorem len_eq (p : ByteArray) : p.data.toList.length = p.size := by rw [Array.length_toList]; rfl
theorem pc_count : ∀ (l : List UInt8) (pos : Nat), (Nm.pc pos l).2.length = Lib.countByte l 47
  | [], _ => rfl
  | c :: l, pos => by
    have := pc_count l (pos + 1)
    by_cases hc : c = 47
    · subst hc; simp only [Nm.pc, if_true, List.length_cons, this, Lib.countByte, List.count_cons_self]
    · simp only [Nm.pc, hc, if_false, this, Lib.countByte]
      rw [List.count_cons_of_ne (by simpa using hc)]
theorem texts_count (l : List UInt8) : (Nm.texts l).length = Lib.countByte l 47 + 1 := by
  simp [Nm.texts, Nm.pieces, pc_count]
theorem texts_none {l : List UInt8} (h : Lib.indexByte l 47 = -1) : Nm.texts l = [l] := by rw [Nm.texts, Nm.pieces_none l 0 h]; rfl
theorem texts_some {l : List UInt8} {n : Nat} (h : Lib.indexByte l 47 = n) : Nm.texts l = l.take n :: Nm.texts (l.drop (n + 1)) := by
  rw [Nm.texts, Nm.pieces_some l 0 n h, List.map_cons, Nm.pieces_texts]
def textsB (p : ByteArray) : List ByteArray := (Nm.texts p.data.toList).map bytesOfL
def sl : ByteArray := ⟨#[47]⟩
theorem sl_size : ((sl.size : Nat) : Int) = 1 := rfl
theorem sl_ne : ¬ sl.toList = [] := by rw [Lib.toList_data]; simp [sl]
theorem idx47 (p : ByteArray) : strings_Index.f p sl = some (Lib.indexByte p.data.toList 47) := rfl
theorem ext_to (p : ByteArray) (m : Nat) : (p.extract 0 m).data.toList = p.data.toList.take m := by simp [ByteArray.data_extract]
theorem ext_from (p : ByteArray) (m : Nat) : (p.extract m p.size).data.toList = p.data.toList.drop m := by
  rw [ByteArray.data_extract, Array.toList_extract]
  simp only [List.extract]
  rw [List.take_of_length_le]
  rw [List.length_drop, len_eq]
  exact Nat.le_refl _
theorem l0_end (k : Nat) (x0 : ByteArray) (x9 : List ByteArray) (i : Nat) (hl : x9.length = i + 1) (hi : i ≤ 2199023255552) :
    strings_genSplit.l0 (k + 1) x0 sl 0 (i : Int) x9 (i : Int) = some (x9.take i ++ [x0]) := by
  have hw : wrap64 ((i : Int) + 1) = ((i + 1 : Nat) : Int) := by unfold wrap64; omega
  simp only [strings_genSplit.l0]
  rw [if_neg (by omega), if_pos (by omega), if_pos (by omega), hw, if_pos (by omega), if_pos (by omega), Int.toNat_natCast, Int.toNat_natCast]
  congr 1
  rw [List.take_add_one, List.take_set_of_le (Nat.le_refl _), List.getElem?_set_self (by omega)]
  rfl
theorem l0_step (k : Nat) (x0 : ByteArray) (x9 : List ByteArray) (i n m : Nat) (hm : Lib.indexByte x0.data.toList 47 = m) (hlt : m < x0.size) (hs : x0.size ≤ 1099511627776) (hin : i < n) (hl : x9.length = n + 1) (hn : n ≤ 2199023255552) :
    strings_genSplit.l0 (k + 1) x0 sl 0 (n : Int) x9 (i : Int) = strings_genSplit.l0 k (x0.extract (m + 1) x0.size) sl 0 (n : Int) (x9.set i (x0.extract 0 m)) ((i + 1 : Nat) : Int) := by
  have hw : wrap64 ((i : Int) + 1) = ((i + 1 : Nat) : Int) := by unfold wrap64; omega
  have hw2 : wrap64 ((m : Int) + 0) = ((m : Nat) : Int) := by unfold wrap64; omega
  have hw3 : wrap64 ((m : Int) + 1) = ((m + 1 : Nat) : Int) := by unfold wrap64; omega
  simp only [strings_genSplit.l0]
  rw [if_pos (by omega), idx47, hm, Option.bind_some, if_neg (by omega), hw2, if_pos (by omega), if_pos (by omega), if_pos (by omega), if_pos (by omega), sl_size, hw3, if_pos (by omega), if_pos (by omega), hw,
    Int.toNat_natCast, Int.toNat_natCast, Int.toNat_natCast]
theorem split_l0 : ∀ (d : Nat) (x0 : ByteArray) (x9 : List ByteArray) (i n : Nat), x0.size ≤ d → x0.size ≤ 1099511627776 → x9.length = n + 1 → n + 1 = i + (Nm.texts x0.data.toList).length → n ≤ 2199023255552 →
    Ev (fun k => strings_genSplit.l0 k x0 sl 0 (n : Int) x9 (i : Int)) (x9.take i ++ textsB x0) := by
  intro d
  induction d with
  | zero =>
    intro x0 x9 i n hd hs hl hn hi
    have e0 : x0.data.toList = [] := List.eq_nil_of_length_eq_zero (by rw [len_eq]; omega)
    have et : Nm.texts x0.data.toList = [x0.data.toList] := texts_none (by rw [e0]; rfl)
    rw [et] at hn
    obtain rfl : n = i := by simpa using hn
    refine Ev.step (fun k => l0_end k x0 x9 n hl hi) ?_
    rw [textsB, et]
    exact Ev.now _
  | succ d ih =>
    intro x0 x9 i n hd hs hl hn hi
    by_cases h : Lib.indexByte x0.data.toList 47 = -1
    · have et : Nm.texts x0.data.toList = [x0.data.toList] := texts_none h
      rw [et] at hn
      obtain rfl : n = i := by simpa using hn
      refine Ev.step (fun k => l0_end k x0 x9 n hl hi) ?_
      rw [textsB, et]
      exact Ev.now _
    · obtain ⟨m, hm⟩ : ∃ m : Nat, Lib.indexByte x0.data.toList 47 = m := ⟨(Lib.indexByte x0.data.toList 47).toNat, by have := Lib.indexByte_ge x0.data.toList 47; omega⟩
      have et := texts_some hm
      have hlt : m < x0.size := by have := (Nm.pc_some _ 0 m hm).1; rwa [len_eq] at this
      have h1 : 0 < (Nm.texts (x0.data.toList.drop (m + 1))).length := List.length_pos_iff.2 (Nm.texts_ne _)
      have hsz : (x0.extract (m + 1) x0.size).size = x0.size - (m + 1) := by simp [ByteArray.size_extract]
      rw [et, List.length_cons] at hn
      have e3 : bytesOfL (x0.data.toList.take m) = x0.extract 0 m := by rw [← ext_to]; rfl
      refine Ev.step (fun k => l0_step k x0 x9 i n m hm hlt hs (by omega) hl hi) ?_
      have := ih (x0.extract (m + 1) x0.size) (x9.set i (x0.extract 0 m)) (i + 1) n (by rw [hsz]; omega) (by rw [hsz]; omega) (by rw [List.length_set]; exact hl) (by rw [ext_from]; omega) hi
      have e2 : (x9.set i (x0.extract 0 m)).take (i + 1) ++ textsB (x0.extract (m + 1) x0.size) = x9.take i ++ textsB x0 := by
        rw [List.take_add_one, List.take_set_of_le (Nat.le_refl _), List.getElem?_set_self (by omega), textsB, textsB, et, ext_from, List.map_cons, e3]
        simp
      rw [← e2]
      exact this
theorem split_ev (p : ByteArray) (hp : p.size ≤ 1048576) : Ev (fun k => strings_Split.f k p sl) (textsB p) := by
  have hc := texts_count p.data.toList
  have hl := Nm.pieces_length p.data.toList 0
  have hl2 : (Nm.texts p.data.toList).length ≤ p.size + 1 := by rw [← len_eq]; simpa [Nm.texts] using hl
  obtain ⟨n, hn⟩ : ∃ n, (Nm.texts p.data.toList).length = n + 1 := ⟨(Nm.texts p.data.toList).length - 1, by omega⟩
  have h0 : Ev (fun k => strings_genSplit.j0 k p sl 0 ((n + 1 : Nat) : Int)) (textsB p) := by
    have hw : wrap64 ((p.size : Int) + 1) = ((p.size + 1 : Nat) : Int) := by unfold wrap64; omega
    have hm : mn ((n + 1 : Nat) : Int) ((p.size + 1 : Nat) : Int) = ((n + 1 : Nat) : Int) := by
      unfold mn; split <;> omega
    have e1 : wrap64 (((n + 1 : Nat) : Int) - 1) = (n : Int) := by unfold wrap64; omega
    have := split_l0 p.size p (List.replicate (n + 1) ⟨#[]⟩) 0 n (Nat.le_refl _) (by omega) (by simp) (by omega) (by omega)
    rw [List.take_zero, List.nil_append] at this
    refine Ev.step (fun k => ?_) this
    simp only [strings_genSplit.j0]
    rw [hw, hm, if_pos (by omega), Int.toNat_natCast, if_pos (by omega), e1]
    rfl
  unfold strings_Split.f strings_genSplit.f
  refine Ev.congr (fun k => ?_) h0
  have e : strings_Count.f p sl = some ((Lib.countByte p.data.toList 47 : Nat) : Int) := rfl
  have hw : wrap64 (((Lib.countByte p.data.toList 47 : Nat) : Int) + 1) = ((n + 1 : Nat) : Int) := by rw [← hn, hc]; unfold wrap64; omega
  rw [if_neg (by decide), if_neg sl_ne, if_pos (by decide), e, Option.bind_some, hw]
  cases strings_genSplit.j0 k p sl 0 ((n + 1 : Nat) : Int) <;> rfl
theorem split_calls (p : ByteArray) (hp : p.size ≤ 1048576) (w : World) :
    Calls Tryd.prog 21 #[.string p, .string sl] w fun e w' => ∃ v, e = .returned v ∧ Kd.R Kd.string 9 w' w.heap.size (fun _ => True) v (textsB p) ∧ Below w.heap.size w w' := by
  obtain ⟨k, h⟩ := (split_ev p hp).rounds
  exact strings_Split.calls k p sl _ w h
end Go.Proofs.YtnceocjgcdcpgaaDoor.Sp
end

/- Plain words on paths: where a link leads. -/
section
namespace Go.Proofs.YtnceocjgcdcpgaaDoor.Nm
def way : List (List UInt8) → List (List UInt8) → Option (List (List UInt8))
  | ps, [] => some ps
  | ps, x :: r => if x = [] ∨ x = [46] then way ps r else if x = [46, 46] then (if ps = [] then none else way ps.dropLast r) else way (ps ++ [x]) r
def led : Option (List (List UInt8)) → List UInt8 × Nat
  | none => ([], 83)
  | some L => (joinT L, 0)
def lead (a t : List UInt8) : List UInt8 × Nat :=
  if (check a).2 ≠ 0 then ([], (check a).2)
  else if t = [] then ([], 80)
  else if 400 < t.length then ([], 2)
  else if 0 ≤ Lib.indexByte t 0 then ([], 82)
  else if t.head? = some 47 then ([], 83)
  else led (way (texts a).dropLast (texts t))
theorem way_append : ∀ (b ps c : List (List UInt8)), way ps (b ++ c) = (way ps b).bind fun q => way q c
  | [], ps, c => rfl
  | x :: r, ps, c => by
    simp only [List.cons_append, way]
    split
    · exact way_append r ps c
    · split
      · split
        · rfl
        · exact way_append r _ c
      · exact way_append r _ c
theorem way_snoc {ps b q : List (List UInt8)} (h : way ps b = some q) (x : List UInt8) : way ps (b ++ [x]) = way q [x] := by rw [way_append, h]; rfl
theorem way_len : ∀ (b ps q : List (List UInt8)), way ps b = some q → q.length ≤ ps.length + b.length
  | [], ps, q, h => by simp only [way, Option.some.injEq] at h; subst h; simp
  | x :: r, ps, q, h => by
    simp only [way] at h
    split at h
    · have := way_len r ps q h; simp; omega
    · split at h
      · split at h
        · simp at h
        · have := way_len r _ q h; simp at this ⊢; omega
      · have := way_len r _ q h; simp at this ⊢; omega
theorem way_empty (q : List (List UInt8)) {x : List UInt8} (h : x.isEmpty = true) : way q [x] = some q := by
  have : x = [] := by simpa using h
  subst this; rfl
theorem way_dot (q : List (List UInt8)) {x : List UInt8} (h : (x == [46]) = true) : way q [x] = some q := by
  have : x = [46] := by simpa using h
  subst this; rfl
theorem way_up (q : List (List UInt8)) {x : List UInt8} (h : (x == [46, 46]) = true) : way q [x] = if q = [] then none else some q.dropLast := by
  have : x = [46, 46] := by simpa using h
  subst this
  simp [way]
theorem way_part (q : List (List UInt8)) {x : List UInt8} (h1 : x.isEmpty = false) (h2 : (x == [46]) = false) (h3 : (x == [46, 46]) = false) : way q [x] = some (q ++ [x]) := by
  have e1 : x ≠ [] := by simpa using h1
  have e2 : x ≠ [46] := by simpa using h2
  have e3 : x ≠ [46, 46] := by simpa using h3
  simp [way, e1, e2, e3]
theorem way_none_prefix {ps b c : List (List UInt8)} (h : way ps b = none) : way ps (b ++ c) = none := by rw [way_append, h]; rfl
def totL (l : List (List UInt8)) : Nat := (l.map (fun x => x.length + 1)).sum
theorem totL_append (a b : List (List UInt8)) : totL (a ++ b) = totL a + totL b := by simp [totL]
theorem totL_dropLast : ∀ (l : List (List UInt8)), totL l.dropLast ≤ totL l
  | [] => Nat.le_refl _
  | [x] => by simp [totL]
  | x :: y :: r => by
    have := totL_dropLast (y :: r)
    simp only [List.dropLast_cons_cons, totL, List.map_cons, List.sum_cons] at this ⊢
    omega
theorem joinT_totL : ∀ (l : List (List UInt8)), (joinT l).length ≤ totL l
  | [] => Nat.le_refl _
  | [x] => by simp [joinT, totL]
  | x :: y :: r => by
    have := joinT_totL (y :: r)
    simp only [joinT, totL, List.map_cons, List.sum_cons, List.length_append, List.length_cons] at this ⊢
    omega
theorem totL_pc : ∀ (l : List UInt8) (p : Nat), (pc p l).1.length + totL ((pc p l).2.map (·.2)) = l.length
  | [], _ => rfl
  | c :: l, p => by
    have := totL_pc l (p + 1)
    by_cases hc : c = 47
    · simp only [pc, hc, if_true, List.map_cons, totL, List.map_cons, List.sum_cons, List.length_cons, List.length_nil] at this ⊢
      omega
    · simp only [pc, hc, if_false, List.length_cons] at this ⊢
      omega
theorem totL_texts (l : List UInt8) : totL (texts l) = l.length + 1 := by
  have := totL_pc l 0
  simp only [texts, pieces, List.map_cons, totL, List.sum_cons] at this ⊢
  omega
theorem way_tot : ∀ (b ps q : List (List UInt8)), way ps b = some q → totL q ≤ totL ps + totL b
  | [], ps, q, h => by simp only [way, Option.some.injEq] at h; subst h; simp
  | x :: r, ps, q, h => by
    have hx : totL (x :: r) = x.length + 1 + totL r := by simp [totL]
    simp only [way] at h
    split at h
    · have := way_tot r ps q h; omega
    · split at h
      · split at h
        · simp at h
        · have := way_tot r _ q h; have := totL_dropLast ps; omega
      · have := way_tot r _ q h
        rw [totL_append] at this
        have e : totL [x] = x.length + 1 := by simp [totL]
        omega
end Go.Proofs.YtnceocjgcdcpgaaDoor.Nm
end

/- strings.Join of a row that is read. -/
section
namespace Go.Proofs.YtnceocjgcdcpgaaDoor.Jn
open Go.RowKit Go.Proofs.YtnceocjgcdcpgaaDoor Go.Proofs.YtnceocjgcdcpgaaDoorW.PrintWords Go.Proofs.YtnceocjgcdcpgaaDoorW.PrintLast Go.Proofs.YtnceocjgcdcpgaaDoorW.PrintMore
theorem spot_of {w : World} {a : Addr} {v : Value} (h : w.cell? a = some v) : a = ⟨a.block, a.off, none⟩ := by
  obtain ⟨b, o, s⟩ := a
  cases s with
  | none => rfl
  | some s =>
    unfold World.cell? at h
    split at h <;> simp at h
theorem add_at (b o j : Nat) : (⟨b, o, none⟩ : Addr).add j = ⟨b, o + j, none⟩ := by unfold Addr.add; split <;> simp_all
theorem join_C (A0 : Option Addr) (c0 : Nat) (l0 : List ByteArray) (a1 : ByteArray) (w : World) (hr0 : Kd.C Kd.string w A0 l0.length l0) (hc0 : l0.length ≤ c0)
    (hb : l0.length ≤ 140737488355328 ∧ (Lib.join (l0.map (·.data.toList)) a1.data.toList).length ≤ 140737488355328) :
    Calls Tryd.prog 23 #[.slice A0 l0.length c0, .string a1] w fun e w' => e = .returned (.string ⟨(Lib.join (l0.map (·.data.toList)) a1.data.toList).toArray⟩) ∧ Below w.heap.size w w' := by
  rcases Nat.eq_zero_or_pos l0.length with h0 | h0
  · obtain rfl := List.eq_nil_of_length_eq_zero h0
    refine (Tryd.strings_Join_none A0 c0 a1 w).mono ?_
    rintro e w' ⟨rfl, rfl⟩
    exact ⟨by simp [Lib.join, List.intercalate], Below.refl _ _⟩
  · obtain ⟨ad, cs, rfl, _, hk, hcell⟩ := Kd.C_get hr0 ByteArray.empty 0 (by omega) (by omega)
    have hK : cs = [.string (l0.getD (0 : Int).toNat ByteArray.empty)] := hk
    subst hK
    have h1 := hcell 0 _ rfl
    rw [show (0 : Int).toNat * Kd.string.sz + 0 = 0 from rfl, show ad.add 0 = ad from rfl] at h1
    have hs := spot_of h1
    have hblk := World.block_lt_of_cell? w ad h1
    rw [hs]
    refine Tryd.strings_Join ad.block ad.off c0 l0 a1 w (fun j x hx => ?_) hblk hb.1 hc0 hb.2
    have hj : j < l0.length := (List.getElem?_eq_some_iff.1 hx).1
    obtain ⟨ad2, cs2, e2, _, hk2, hcell2⟩ := Kd.C_get hr0 ByteArray.empty (j : Int) (by omega) (by omega)
    obtain rfl := Option.some.inj e2
    have hK2 : cs2 = [.string (l0.getD (j : Int).toNat ByteArray.empty)] := hk2
    subst hK2
    have h2 := hcell2 0 _ rfl
    rw [show (j : Int).toNat * Kd.string.sz + 0 = j from by show (j : Int).toNat * 1 + 0 = j; omega, hs, add_at, List.getD_eq_getElem?_getD, Int.toNat_natCast, hx] at h2
    exact h2
def rowV (L : List (List UInt8)) : List Value := L.map fun x => .string (bytesOfL x)
theorem rowV_encs (L : List (List UInt8)) : encs Value.string (L.map bytesOfL) = rowV L := by simp [encs, rowV]
theorem join_eq (l : List (List UInt8)) : Lib.join l [47] = Nm.joinT l := by
  induction l with
  | nil => rfl
  | cons x r ih =>
    cases r with
    | nil => simp [Lib.join, List.intercalate, Nm.joinT]
    | cons y s =>
      have : Lib.join (x :: y :: s) [47] = x ++ 47 :: Lib.join (y :: s) [47] := by simp [Lib.join, List.intercalate]
      rw [this, ih]; rfl
theorem join_own {W : World} {base n c : Nat} {A : Option Addr} {L : List (List UInt8)} (h : W.ownsRow base 9 1 (.slice A n c) L.length (rowV L)) (hl : L.length ≤ 4294967296) (ht : Nm.totL L ≤ 4294967296) :
    Calls Tryd.prog 23 #[.slice A n c, .string ⟨#[47]⟩] W fun e w' => e = .returned (.string (bytesOfL (Nm.joinT L))) ∧ Below W.heap.size W w' := by
  have hR : (Kd.string).R 9 W base (fun _ => True) (.slice A n c) (L.map bytesOfL) := Kd.R_of_own (by rw [List.length_map, rowV_encs]; exact h) (fun _ _ => trivial)
  obtain ⟨rfl, h2, h3⟩ := Kd.R_reads' hR
  have hm : (L.map bytesOfL).map (·.data.toList) = L := by
    rw [List.map_map]
    have : ((fun x : ByteArray => x.data.toList) ∘ bytesOfL) = id := rfl
    rw [this, List.map_id]
  have := join_C A c (L.map bytesOfL) ⟨#[47]⟩ W h3 h2 (by
    rw [hm, List.length_map]
    have e : (⟨#[47]⟩ : ByteArray).data.toList = [47] := rfl
    rw [e, join_eq]
    have := Nm.joinT_totL L
    omega)
  rw [hm, show (⟨#[47]⟩ : ByteArray).data.toList = [47] from rfl, join_eq] at this
  exact this
theorem own_last {W : World} {base n c : Nat} {A : Option Addr} {L : List (List UInt8)} (h : W.ownsRow base 9 1 (.slice A n c) L.length (rowV L)) (m : Nat) (hm : m = L.length - 1) : W.ownsRow base 9 1 (.slice A m c) L.dropLast.length (rowV L.dropLast) := by
  have hR : (Kd.string).R 9 W base (fun _ => True) (.slice A n c) (L.map bytesOfL) := Kd.R_of_own (by rw [List.length_map, rowV_encs]; exact h) (fun _ _ => trivial)
  have := Kd.own_of_R (Kd.R_take (m := m) hR (by rw [List.length_map]; omega))
  rw [← List.map_take, List.length_map, rowV_encs] at this
  subst hm
  rw [List.dropLast_eq_take]
  exact this
theorem own_slice {W : World} {base : Nat} {v : Value} {L : List (List UInt8)} (h : W.ownsRow base 9 1 v L.length (rowV L)) : ∃ A c, v = .slice A L.length c ∧ L.length ≤ c := by
  rcases h.2 with ⟨rfl, h0⟩ | ⟨g, cap, cur, rfl, _, _, h1, _⟩
  · exact ⟨none, 0, by rw [h0], by omega⟩
  · exact ⟨_, _, rfl, h1⟩
end Go.Proofs.YtnceocjgcdcpgaaDoor.Jn
end

/- The contract of name.Lead. -/
section
namespace Go.Proofs.YtnceocjgcdcpgaaDoor.LeadW
open Go.RowKit Go.Shelf Go.Proofs.YtnceocjgcdcpgaaDoor Go.Proofs.YtnceocjgcdcpgaaDoor.Jn
open Go.Proofs.YtnceocjgcdcpgaaDoorW.PrintWords Go.Proofs.YtnceocjgcdcpgaaDoorW.PrintLast Go.Proofs.YtnceocjgcdcpgaaDoorW.PrintMore
attribute [local go_sem] Oper.semAt_some
theorem boxed_own {β : Type} (B : Nat) (t : TypeId) (v : Value) : Own (fun (_ : β) W => Boxed W B t v) := fun s A C row hs hg hr => hs.kept hg (fun e => by
  obtain ⟨o, ho, hc⟩ := hr B e.symm
  rw [show A.heap[B]? = _ from hs] at ho; cases ho; cases hc)
theorem box_below {w W : World} {B : Nat} {t : TypeId} {v : Value} (h : Boxed w B t v) (hb : Below w.heap.size w W) : Boxed W B t v := (hb.block B h.lt).trans h
theorem box_far {W : World} {B C : Nat} {t : TypeId} {v u : Value} (h : Boxed W B t v) (hc : C ≠ B) : Boxed (W.setCell ⟨C, 0, none⟩ u) B t v := (Below.heap_setCell W ⟨C, 0, none⟩ u B (Ne.symm hc)).trans h
theorem info_str : (Tryd.prog.info? 9).map (fun i => (i.zero, i.size, i.bytes)) = some (some (.string ⟨#[]⟩), 1, 16) := by kernel_rfl
theorem append_at {F : Fence} {n : Nat} {P : Program} (w : World) {ops : Array Oper} {rest : List Oper} {o : Oper} {a : Act} {Q : Exit → Act → World → Prop}
    (hg : o.guard = none) (s x : Operand) (t : TypeId) (hop : o.op = Op.call { callee := Callee.builtin Builtin.append, args := #[s, x], argTypes := #[t, t] })
    (base : Nat) (e : TypeId) (i : TypeInfo) (z : Value) (size bytes : Nat) (h1 : P.underlying t = some (.slice e)) (h2 : P.info? e = some i) (h3 : i.zero = some z) (h4 : i.size = size) (h5 : i.bytes = bytes) (h6 : z.cells.size = size) (h7 : 0 < size)
    (v : Value) (k : Nat) (xs : List Value) (hs : a.eval s = v) (hown : w.ownsRow base e size v k xs) (ad : Addr) (m c : Nat) (news : List Value) (hx : a.eval x = .slice (some ad) m c) (hn : news.length = m * size)
    (hc : ∀ j u, news[j]? = some u → w.cell? (ad.add j) = some u) (h1c : ∀ u ∈ news, u.oneCell' = true) (b1 : k + m ≤ maxLen) (b2 : (k + m) * bytes ≤ 140737488355328) (b3 : base ≤ w.heap.size)
    (hK : ∀ v' w', w'.ownsRow base e size v' (k + m) (xs ++ news) → w.grownBy w' v.ownBlock → (v'.ownBlock = v.ownBlock ∨ v'.ownBlock = some w.heap.size) → wpListIn F n P ops Q rest (a.put o.dst v') w') :
    wpListIn F n P ops Q (o :: rest) a w := by
  refine wpListIn_plain hg fun K hK' => ?_
  obtain ⟨v', w', hrun, r1, r2, _, r3⟩ := run_append_own_at (P := P) w base t o.type e i z size bytes h1 h2 h3 h4 h5 h6 h7 v k xs hown ad m c news hn hc h1c b1 b2 b3
  unfold Oper.wpIn
  refine ⟨?_, ?_⟩
  · simp [Oper.about, hop, resolve, Target.leads, Sem.run_pure]
  · rw [Oper.semAt_plain F _ _ (by rw [hop]; intro c hc'; cases hc')]
    simp [execOp, hop, resolve, invoke, builtin, hs, hx, hrun, Result.andThen]
    exact hK' _ _ (hK v' w' r1 r2 r3)
def txt (pre : List (Nat × ByteArray)) : List (List UInt8) := pre.map fun x => x.2.data.toList
theorem txt_snoc (pre : List (Nat × ByteArray)) (x : Nat × ByteArray) : txt (pre ++ [x]) = txt pre ++ [x.2.data.toList] := by simp [txt]
theorem txt_all (l : List UInt8) : txt (piecesB 0 l) = Nm.texts l := by
  simp only [txt, piecesB, List.map_map, Nm.texts]
  rfl
def wl (P0 : List (List UInt8)) (pre : List (Nat × ByteArray)) : List (List UInt8) := (Nm.way P0 (txt pre)).getD []
theorem wl_of {P0 : List (List UInt8)} {pre : List (Nat × ByteArray)} {L : List (List UInt8)} (h : Nm.way P0 (txt pre) = some L) : wl P0 pre = L := by rw [wl, h]; rfl
theorem wrap_last (N n : Nat) (h1 : N = n + 1) (h : n ≤ 1048576) : wrap64 ((N : Int) - 1) = (n : Int) := by unfold wrap64; omega
theorem split_form (p : ByteArray) (hp : p.size ≤ 400) {w2 : World} {base : Nat} {v : Value} (hR : Kd.R Kd.string 9 w2 base (fun _ => True) v (Sp.textsB p)) :
    ∃ g N n cap, v = .slice (some ⟨g, 0, none⟩) N cap ∧ N = n + 1 ∧ g < w2.heap.size ∧ base ≤ g ∧ N ≤ cap ∧ n ≤ 400 ∧
      w2.ownsRow base 9 1 (.slice (some ⟨g, 0, none⟩) n cap) (Nm.texts p.data.toList).dropLast.length (rowV (Nm.texts p.data.toList).dropLast) := by
  obtain ⟨n, hn⟩ : ∃ n, (Nm.texts p.data.toList).length = n + 1 := ⟨(Nm.texts p.data.toList).length - 1, by have := List.length_pos_iff.2 (Nm.texts_ne p.data.toList); omega⟩
  have hrow0 : w2.ownsRow base 9 1 v (Nm.texts p.data.toList).length (rowV (Nm.texts p.data.toList)) := by
    have := Kd.own_of_R hR
    rw [Sp.textsB, List.length_map, rowV_encs] at this
    exact this
  rw [hn] at hrow0
  obtain ⟨g, cap, rfl⟩ := ownsRow_succ hrow0
  have hnl : n ≤ 400 := by
    have := Nm.pieces_length p.data.toList 0
    have h2 := Sp.len_eq p
    have h3 : (Nm.texts p.data.toList).length = (Nm.pieces 0 p.data.toList).length := by simp [Nm.texts]
    omega
  exact ⟨g, n + 1, n, cap, rfl, rfl, Kd.R_lt hR g rfl, Kd.R_base hR g rfl, (Kd.R_reads' hR).2.1, hnl, own_last (n := n + 1) (by rw [hn]; exact hrow0) n (by rw [hn]; rfl)⟩
theorem len_tot (L : List (List UInt8)) : L.length ≤ Nm.totL L := by
  induction L with
  | nil => exact Nat.le_refl _
  | cons x r ih => simp only [Nm.totL, List.map_cons, List.sum_cons, List.length_cons] at ih ⊢; omega
theorem len_zero {α : Type} {l : List α} (h : ((l.length : Int) == 0) = true) : l = [] := by
  have : (l.length : Int) = 0 := by simpa using h
  exact List.eq_nil_of_length_eq_zero (by omega)
theorem own_any (A : Option Addr) (n m c : Nat) : (Value.slice A n c).ownBlock = (Value.slice A m c).ownBlock := by cases A <;> rfl
theorem rowV_snoc (L : List (List UInt8)) (x : ByteArray) : rowV (L ++ [x.data.toList]) = rowV L ++ [.string x] := by simp [rowV]; rfl
theorem wl_len {P0 : List (List UInt8)} {pre : List (Nat × ByteArray)} {q : ByteArray} (h : Nm.way P0 (txt pre) = some (wl P0 pre)) (h0 : P0.length ≤ 400) (hq : q.size ≤ 400) (hl : pre.length < (piecesB 0 q.data.toList).length) : (wl P0 pre).length ≤ 1048576 := by
  have h1 := Nm.way_len _ _ _ h
  have h2 : (txt pre).length = pre.length := by simp [txt]
  have h3 : (piecesB 0 q.data.toList).length = (Nm.pieces 0 q.data.toList).length := by simp [piecesB]
  have h4 := Nm.pieces_length q.data.toList 0
  have h5 := Sp.len_eq q
  omega
theorem two_box (W : World) (b : Nat) {v1 v2 u1 u2 : Value} {t1 t2 : TypeId} (h1 : Boxed W b t1 u1) (h2 : Boxed W (b + 1) t2 u2) :
    Boxed ((W.setCell ⟨b, 0, none⟩ v1).setCell ⟨b + 1, 0, none⟩ v2) b t1 v1 ∧ Boxed ((W.setCell ⟨b, 0, none⟩ v1).setCell ⟨b + 1, 0, none⟩ v2) (b + 1) t2 v2 :=
  ⟨box_far (Boxed.set v1 h1) (by omega), Boxed.set v2 (box_far h2 (by omega))⟩
set_option maxRecDepth 100000 in
set_option maxHeartbeats 4000000 in
theorem lead_bad (p q : ByteArray) (e : Nat) (he : (Nm.check p.data.toList).2 = e) (h0 : e ≠ 0) (w : World) :
    Calls Tryd.prog 8 #[.string p, .string q] w fun e_ w' => e_ = .returned (.tuple #[.string ⟨#[]⟩, .int .i64 e]) ∧ Below w.heap.size w w' := by
  have b1 := Boxed.new w 9 (.string ⟨#[]⟩)
  have b2 := Boxed.new (w.alloc (.cells #[.string ⟨#[]⟩] 9)) 22 (.int .i64 0)
  rw [World.size_alloc] at b2
  have hB0 : Below w.heap.size w ((w.alloc (.cells #[.string ⟨#[]⟩] 9)).alloc (.cells #[.int .i64 0] 22)) := ((Below.refl _ w).alloc (Nat.le_refl _) _).alloc (by simp) _
  have hne : ((e : Int) != 0) = true := by simp; omega
  refine (callsIn_wide (n := 3)).1 ?_
  refine callsIn_of_wp_marks Tryd.func8 rfl trivial ?_ rfl
  simp only [Tryd.ntmps8, List.size_toArray, List.length_cons, List.length_nil, Nat.reduceAdd, Nat.reduceSub, Array.replicate_succ, Array.replicate_zero, List.push_toArray, List.append_toArray, List.nil_append, List.cons_append]
  gi_wp2_with fail
  refine ⟨trivial, ?_⟩
  refine (callsIn_wide.2 (check_any _ _)).mono ?_
  rintro e w1 ⟨rfl, hB1⟩
  rw [he]
  have hb1 := box_below (b1.alloc (.cells #[.int .i64 0] 22)) hB1
  have hb2 := box_below b2 hB1
  have c1 := hb1.cell
  have c2 := hb2.cell
  have f1 := hb1.frozen
  have f2 := hb2.frozen
  gi_wp2_with fail
  obtain ⟨r1, r2⟩ := two_box w1 w.heap.size (v1 := .string ⟨#[]⟩) (v2 := .int .i64 e) hb1 hb2
  have r1' := r1.cell
  have r2' := r2.cell
  refine ⟨.tuple #[.string ⟨#[]⟩, .int .i64 e], ?_, rfl, below_two w1 _ _ (hB0.trans (hB1.mono (by simp; omega)))⟩
  simp [results, Tryd.f8, go_sem, r1', r2']
set_option maxRecDepth 100000 in
set_option maxHeartbeats 4000000 in
theorem lead_walk (p q : ByteArray) (he : (Nm.check p.data.toList).2 = 0) (w : World) :
    Calls Tryd.prog 8 #[.string p, .string q] w fun e_ w' => e_ = .returned (.tuple #[.string (bytesOfL (Nm.lead p.data.toList q.data.toList).1), .int .i64 ((Nm.lead p.data.toList q.data.toList).2 : Int)]) ∧ Below w.heap.size w w' := by
  have b1 := Boxed.new w 9 (.string ⟨#[]⟩)
  have b2 := Boxed.new (w.alloc (.cells #[.string ⟨#[]⟩] 9)) 22 (.int .i64 0)
  rw [World.size_alloc] at b2
  have hB0 : Below w.heap.size w ((w.alloc (.cells #[.string ⟨#[]⟩] 9)).alloc (.cells #[.int .i64 0] 22)) := ((Below.refl _ w).alloc (Nat.le_refl _) _).alloc (by simp) _
  have hne : (((0 : Nat) : Int) != 0) = false := rfl
  refine (callsIn_wide (n := 3)).1 ?_
  refine callsIn_of_wp_marks Tryd.func8 rfl trivial ?_ rfl
  simp only [Tryd.ntmps8, List.size_toArray, List.length_cons, List.length_nil, Nat.reduceAdd, Nat.reduceSub, Array.replicate_succ, Array.replicate_zero, List.push_toArray, List.append_toArray, List.nil_append, List.cons_append]
  gi_wp2_with fail
  refine ⟨trivial, ?_⟩
  refine (callsIn_wide.2 (check_any _ _)).mono ?_
  rintro e w1 ⟨rfl, hB1⟩
  rw [he]
  have hb1 := box_below (b1.alloc (.cells #[.int .i64 0] 22)) hB1
  have hb2 := box_below b2 hB1
  have c1 := hb1.cell
  have c2 := hb2.cell
  have f1 := hb1.frozen
  have f2 := hb2.frozen
  have hBw : Below w.heap.size w w1 := hB0.trans (hB1.mono (by simp; omega))
  have hlq : q.data.toList.length = q.size := Sp.len_eq q
  by_cases q1 : q.toList.isEmpty = true
  · have lead_80_ : Nm.lead p.data.toList q.data.toList = ([], 80) := by
      have : q.data.toList = [] := by rw [← Lib.toList_data]; simpa using q1
      simp [Nm.lead, he, this]
    gi_wp2_with fail
    obtain ⟨r1, r2⟩ := two_box w1 w.heap.size (v1 := .string ⟨#[]⟩) (v2 := .int .i64 80) hb1 hb2
    have r1' := r1.cell
    have r2' := r2.cell
    have hlead : Nm.lead p.data.toList q.data.toList = ([], 80) := lead_80_
    rw [hlead]
    refine ⟨.tuple #[.string ⟨#[]⟩, .int .i64 80], ?_, rfl, below_two w1 _ _ hBw⟩
    simp [results, Tryd.f8, go_sem, r1', r2']
  replace q1 : q.toList.isEmpty = false := by simpa using q1
  have hq1 : q.data.toList ≠ [] := by rw [← Lib.toList_data]; simpa using q1
  by_cases q2 : decide (400 < (q.size : Int)) = true
  · have lead_2_ : Nm.lead p.data.toList q.data.toList = ([], 2) := by
      have : 400 < q.data.toList.length := by rw [hlq]; have := of_decide_eq_true q2; omega
      simp only [Nm.lead, he, hq1, this, if_true, if_false, ne_eq, not_true_eq_false]
    gi_wp2_with fail
    obtain ⟨r1, r2⟩ := two_box w1 w.heap.size (v1 := .string ⟨#[]⟩) (v2 := .int .i64 2) hb1 hb2
    have r1' := r1.cell
    have r2' := r2.cell
    have hlead : Nm.lead p.data.toList q.data.toList = ([], 2) := lead_2_
    rw [hlead]
    refine ⟨.tuple #[.string ⟨#[]⟩, .int .i64 2], ?_, rfl, below_two w1 _ _ hBw⟩
    simp [results, Tryd.f8, go_sem, r1', r2']
  replace q2 : decide (400 < (q.size : Int)) = false := by simpa using q2
  have hq2 : ¬ 400 < q.data.toList.length := by rw [hlq]; have := of_decide_eq_false q2; omega
  have qs : 0 < q.size := by have := List.length_pos_iff.2 hq1; omega
  gi_wp2_with fail
  refine ⟨trivial, ?_⟩
  refine (callsIn_wide.2 (ibyte _ 0 _)).mono ?_
  rintro e w' ⟨rfl, rfl⟩
  by_cases q3 : decide (0 ≤ Lib.indexByte q.data.toList 0) = true
  · have lead_82_ : Nm.lead p.data.toList q.data.toList = ([], 82) := by
      have := of_decide_eq_true q3
      simp only [Nm.lead, he, hq1, hq2, this, if_true, if_false, ne_eq, not_true_eq_false]
    gi_wp2_with fail
    obtain ⟨r1, r2⟩ := two_box w1 w.heap.size (v1 := .string ⟨#[]⟩) (v2 := .int .i64 82) hb1 hb2
    have r1' := r1.cell
    have r2' := r2.cell
    have hlead : Nm.lead p.data.toList q.data.toList = ([], 82) := lead_82_
    rw [hlead]
    refine ⟨.tuple #[.string ⟨#[]⟩, .int .i64 82], ?_, rfl, below_two w1 _ _ hBw⟩
    simp [results, Tryd.f8, go_sem, r1', r2']
  replace q3 : decide (0 ≤ Lib.indexByte q.data.toList 0) = false := by simpa using q3
  have hq3 := of_decide_eq_false q3
  have hq4 : q.data.toList.head? = some q[0] := by
    rw [List.head?_eq_getElem?, Array.getElem?_toList]
    exact Array.getElem?_eq_getElem qs
  by_cases q4 : (((q[0]'qs).toNat : Int) == 47) = true
  · have lead_83_ : Nm.lead p.data.toList q.data.toList = ([], 83) := by
      have h47 : q[0] = 47 := by
        have : ((q[0]'qs).toNat : Int) = 47 := by simpa using q4
        exact UInt8.toNat_inj.1 (by show (q[0]'qs).toNat = 47; omega)
      have : q.data.toList.head? = some 47 := by rw [hq4, h47]
      simp only [Nm.lead, he, hq1, hq2, hq3, this, if_true, if_false, ne_eq, not_true_eq_false]
    gi_wp2_with fail
    obtain ⟨r1, r2⟩ := two_box w1 w.heap.size (v1 := .string ⟨#[]⟩) (v2 := .int .i64 83) hb1 hb2
    have r1' := r1.cell
    have r2' := r2.cell
    have hlead : Nm.lead p.data.toList q.data.toList = ([], 83) := lead_83_
    rw [hlead]
    refine ⟨.tuple #[.string ⟨#[]⟩, .int .i64 83], ?_, rfl, below_two w1 _ _ hBw⟩
    simp [results, Tryd.f8, go_sem, r1', r2']
  have hlead : Nm.lead p.data.toList q.data.toList = Nm.led (Nm.way (Nm.texts p.data.toList).dropLast (Nm.texts q.data.toList)) := by
    have h47 : ¬ q.data.toList.head? = some 47 := by
      rw [hq4]
      intro e
      injection e with e
      rw [e] at q4
      exact q4 rfl
    simp only [Nm.lead, he, hq1, hq2, hq3, h47, if_false, ne_eq, not_true_eq_false]
  replace q4 : (((q[0]'qs).toNat : Int) == 47) = false := by simpa using q4
  have Hlead := Lib.hid hlead
  have hq400 : q.size ≤ 400 := by omega
  clear hlead hq4 hq3 hq1 hq2
  have hp4 : p.size ≤ 400 := by
    unfold Nm.check at he
    by_cases h : 400 < p.data.toList.length
    · rw [if_pos h] at he; simp at he
    · rw [Sp.len_eq] at h; omega
  gi_wp2_with fail
  refine ⟨trivial, ?_⟩
  refine (callsIn_wide.2 (Sp.split_calls p (by omega) _)).mono ?_
  rintro e w2 ⟨v, rfl, hR, hB2⟩
  obtain ⟨g, N, n, cap, rfl, hNn, hg, hgb, hncap, hnl, hrow1⟩ := split_form p (by omega) hR
  obtain ⟨i0, hi0, hz0, hz1, hz2⟩ := info_parts info_str
  have hcut := cut_to (P := Tryd.prog) 39 9 .i64 Tryd.underlying39 hi0 (some ⟨g, 0, none⟩) N cap (n : Int) (Int.natCast_nonneg n) (by rw [hNn]; exact Int.ofNat_le.2 (Nat.le_succ n)) hncap
  rw [Int.toNat_natCast] at hcut
  have hb1 := box_below hb1 hB2
  have hb2 := box_below hb2 hB2
  have hB3 : Below w.heap.size w w2 := hBw.trans (hB2.mono hBw.size)
  have hw : wrap64 ((N : Int) - 1) = (n : Int) := wrap_last N n hNn (by omega)
  have HNn := Lib.hid hNn
  clear hNn hR
  gi_wp2_with fail
  refine ⟨trivial, ?_⟩
  refine (callsIn_wide.2 (each_any _ _)).mono ?_
  rintro e w3 ⟨rfl, rfl⟩
  gi_wp2_with fail
  have hP0 : (Nm.texts p.data.toList).dropLast.length ≤ 400 := by
    have h3 := hrow1.1
    have := Nm.pieces_length p.data.toList 0
    have h4 : (Nm.texts p.data.toList).length = (Nm.pieces 0 p.data.toList).length := by simp [Nm.texts]
    have h2 := Sp.len_eq p
    rw [List.length_dropLast]
    omega
  obtain ⟨P0, hP⟩ : ∃ P0, (Nm.texts p.data.toList).dropLast = P0 := ⟨_, rfl⟩
  have HP := Lib.hid hP
  rw [hP] at hrow1 hP0
  clear hP
  have hWa : Below w2.heap.size w2 ((w2.alloc (.cells #[.slice (some ⟨g, 0, none⟩) n cap] 39)).alloc (.cells #[.string q] 9)) := ((Below.refl _ w2).alloc (Nat.le_refl _) _).alloc (by simp) _
  have d1 := Boxed.new w2 39 (.slice (some ⟨g, 0, none⟩) n cap)
  have d2 := Boxed.new (w2.alloc (.cells #[.slice (some ⟨g, 0, none⟩) n cap] 39)) 9 (.string q)
  rw [World.size_alloc] at d2
  have d3 := d1.alloc (.cells #[.string q] 9)
  have hb1 := box_below hb1 hWa
  have hb2 := box_below hb2 hWa
  have hB4 := hB3.trans (hWa.mono hB3.size)
  have hrow2 := (hrow1.alloc (.cells #[.slice (some ⟨g, 0, none⟩) n cap] 39)).alloc (.cells #[.string q] 9)
  have hsz : ((w2.alloc (.cells #[.slice (some ⟨g, 0, none⟩) n cap] 39)).alloc (.cells #[.string q] 9)).heap.size = w2.heap.size + 2 := by simp
  have h02 : w.heap.size + 2 ≤ w1.heap.size := by have := hB1.size; simpa using this
  have h12 : w1.heap.size ≤ w2.heap.size := hB2.size
  clear d1 hcut hw hrow1 hB0 hB1 hB2 hBw hB3 hWa hncap hnl HNn c1 c2 f1 f2 b1 b2
  generalize ((w2.alloc (.cells #[.slice (some ⟨g, 0, none⟩) n cap] 39)).alloc (.cells #[.string q] 9)) = w3 at *
  refine wpIn_rangeFunc_ownF rfl (by omega) (gf := 34) (lb := #[.pointer (some ⟨w2.heap.size + 1, 0, none⟩)]) rfl trivial (enters_of Tryd.func34 (by kernel_rfl) rfl)
    (each_stops (3 - 1) (by omega) (w2.heap.size + 1) q (by omega) w3 (by omega) d2.cell) box_t (box_b (by omega)) (Below.refl _ _) (fun _ => rfl)
    (fun pre W => (∃ v, Boxed W w2.heap.size 39 v ∧ W.ownsRow w1.heap.size 9 1 v (wl P0 pre).length (rowV (wl P0 pre)) ∧ (Nm.way P0 (txt pre) = some (wl P0 pre) ∧ v.ownBlock ≠ some (w2.heap.size + 1))) ∧ (Boxed W w.heap.size 9 (.string ⟨#[]⟩) ∧ (Boxed W (w.heap.size + 1) 22 (.int .i64 0) ∧ (Boxed W (w2.heap.size + 1) 9 (.string q) ∧ Below w.heap.size w W))))
    (fun c pre W => (c = .ret ∧ Nm.way P0 (txt pre) = none) ∧ (Boxed W w.heap.size 9 (.string ⟨#[]⟩) ∧ (Boxed W (w.heap.size + 1) 22 (.int .i64 83) ∧ Below w.heap.size w W)))
    (OwnFrom.and (Own.from (holdsRow_own w1.heap.size w2.heap.size 39 9 1 (fun pre => (wl P0 pre).length) (fun pre => rowV (wl P0 pre)) (fun pre v => Nm.way P0 (txt pre) = some (wl P0 pre) ∧ v.ownBlock ≠ some (w2.heap.size + 1))) _)
      (OwnFrom.and (Own.from (boxed_own _ _ _) _) (OwnFrom.and (Own.from (boxed_own _ _ _) _) (OwnFrom.and (Own.from (boxed_own _ _ _) _) (ownFrom_below (Nat.le_refl _) (by omega))))))
    (fun c => OwnFrom.and (fun s A B row hs hg hr => hs) (OwnFrom.and (Own.from (boxed_own _ _ _) _) (OwnFrom.and (Own.from (boxed_own _ _ _) _) (ownFrom_below (Nat.le_refl _) (by omega)))))
    ⟨⟨_, d3, hrow2, rfl, by simp [Value.ownBlock]; omega⟩, hb1, hb2, d2, hB4⟩ ?a1 ?assign ?body ?done ?stop
  case assign =>
    intro l x W K hK
    gi_wp2
    exact hK
  case body =>
    rintro l pre x W ⟨⟨v, hv, hrow, hway, hvo⟩, hr1, hr2, hbe, hB⟩ hlen
    obtain ⟨A, c, rfl, hAc⟩ := Jn.own_slice hrow
    have hc1 := hv.cell
    have hf1 := hv.frozen
    have es := Lib.hid (Lib.toList_data x.2)
    have hwl : (wl P0 pre).length ≤ 1048576 := wl_len hway hP0 (by omega) hlen
    by_cases q5 : x.2.toList.isEmpty = true
    · have hw2 : Nm.way P0 (txt (pre ++ [x])) = some (wl P0 pre) := by rw [txt_snoc, Nm.way_snoc hway]; exact Nm.way_empty _ (by rw [← es.out]; exact q5)
      as_aux_lemma =>
      have Hw2 := Lib.hid hw2
      clear hw2
      gi_wp2
      exact ⟨KeepsOthers.refl _, rfl, ⟨_, hv, by rw [wl_of Hw2.out]; exact hrow, by rw [wl_of Hw2.out]; exact Hw2.out, hvo⟩, hr1, hr2, hbe, hB⟩
    replace q5 : x.2.toList.isEmpty = false := by simpa using q5
    by_cases q6 : (x.2.toList == [46]) = true
    · have hw2 : Nm.way P0 (txt (pre ++ [x])) = some (wl P0 pre) := by rw [txt_snoc, Nm.way_snoc hway]; exact Nm.way_dot _ (by rw [← es.out]; exact q6)
      as_aux_lemma =>
      have Hw2 := Lib.hid hw2
      clear hw2
      gi_wp2
      exact ⟨KeepsOthers.refl _, rfl, ⟨_, hv, by rw [wl_of Hw2.out]; exact hrow, by rw [wl_of Hw2.out]; exact Hw2.out, hvo⟩, hr1, hr2, hbe, hB⟩
    replace q6 : (x.2.toList == [46]) = false := by simpa using q6
    by_cases q7 : (x.2.toList == [46, 46]) = true
    · have hw2 : Nm.way P0 (txt (pre ++ [x])) = if wl P0 pre = [] then none else some (wl P0 pre).dropLast := by rw [txt_snoc, Nm.way_snoc hway]; exact Nm.way_up _ (by rw [← es.out]; exact q7)
      by_cases q8 : (((wl P0 pre).length : Int) == 0) = true
      · have hnil : wl P0 pre = [] := len_zero q8
        rw [if_pos hnil] at hw2
        as_aux_lemma =>
        have Hw2 := Lib.hid hw2
        clear hw2 hnil
        have c1 := hr1.cell
        have f1 := hr1.frozen
        have c2 := hr2.cell
        have f2 := hr2.frozen
        obtain ⟨r1, r2⟩ := two_box W w.heap.size (v1 := .string ⟨#[]⟩) (v2 := .int .i64 83) hr1 hr2
        have R1 := Lib.hid r1
        have R2 := Lib.hid r2
        clear r1 r2
        gi_wp2
        exact ⟨keeps_two _ _ _ _, ⟨rfl, Hw2.out⟩, R1.out, R2.out, below_two W _ _ hB⟩
      · have hnil : wl P0 pre ≠ [] := fun e => by rw [e] at q8; exact q8 rfl
        rw [if_neg hnil] at hw2
        replace q8 : (((wl P0 pre).length : Int) == 0) = false := by simpa using q8
        obtain ⟨m, hm⟩ : ∃ m, (wl P0 pre).length = m + 1 := ⟨(wl P0 pre).length - 1, by have := List.length_pos_iff.2 hnil; omega⟩
        as_aux_lemma =>
        have hcut := cut_to (P := Tryd.prog) 39 9 .i64 Tryd.underlying39 hi0 A (wl P0 pre).length c (((wl P0 pre).length : Int) - 1) (by omega) (by omega) hAc
        have hjt : (((wl P0 pre).length : Int) - 1).toNat = (wl P0 pre).length - 1 := by omega
        rw [hjt] at hcut
        clear hjt
        have hr := own_last hrow _ rfl
        have Hw2 := Lib.hid hw2
        have Hr := Lib.hid hr
        clear hw2 hnil hm hr
        gi_wp2
        refine ⟨KeepsOthers.setCell _ _ _, World.cell?_setCell_far _ _ _ _ (by simp), ⟨.slice A ((wl P0 pre).length - 1) c, Boxed.set _ hv, ?_, by rw [wl_of Hw2.out]; exact Hw2.out, by rw [own_any A _ (wl P0 pre).length c]; exact hvo⟩, box_far hr1 (by omega), box_far hr2 (by omega), box_far hbe (by omega), hB.setCell (p := ⟨w2.heap.size, 0, none⟩) (by show w.heap.size ≤ w2.heap.size; omega) _⟩
        rw [wl_of Hw2.out]
        exact Hr.out.kept (grownBy_setCell' W w2.heap.size _) (.inr (hv.not_row (by decide) Hr.out).symm)
    replace q7 : (x.2.toList == [46, 46]) = false := by simpa using q7
    have hw2 : Nm.way P0 (txt (pre ++ [x])) = some (wl P0 pre ++ [x.2.data.toList]) := by
      rw [txt_snoc, Nm.way_snoc hway]
      exact Nm.way_part _ (by rw [← es.out]; exact q5) (by rw [← es.out]; exact q6) (by rw [← es.out]; exact q7)
    as_aux_lemma =>
    have Hw2 := Lib.hid hw2
    clear hw2
    have k1 : (wl P0 pre).length + 1 ≤ maxLen := by simp only [maxLen]; omega
    have k2 : ((wl P0 pre).length + 1) * 16 ≤ 140737488355328 := by omega
    have k3 : w1.heap.size ≤ W.heap.size := by have := hbe.lt; omega
    have k4 : w1.heap.size ≤ (W.alloc (.cells #[.string x.2] 9)).heap.size := by simp; omega
    have K1 := Lib.hid k1
    have K2 := Lib.hid k2
    clear k1 k2
    gi_wp2_with (gi_at_builtin; refine append_at _ rfl _ _ 39 rfl w1.heap.size 9 i0 (.string ⟨#[]⟩) 1 16 Tryd.underlying39 hi0 hz0 hz1 hz2 rfl (by decide) _ _ _ rfl (hrow.alloc _) ⟨W.heap.size, 0, none⟩ 1 1 [.string x.2] rfl rfl (cell_one_new _ _ _) (by simp [Value.oneCell']) K1.out K2.out k4 ?_; intro v' w1' hown' hgrow hat; obtain ⟨g', cap', rfl⟩ := ownsRow_succ hown'; obtain ⟨hv1, hv2, hr2', hk2, hb2'⟩ := hv.appended (by decide) hrow k3 h12 hown' hgrow; have hc1' := hv1.cell; have hf1' := hv1.frozen)
    have e1 : wl P0 (pre ++ [x]) = wl P0 pre ++ [x.2.data.toList] := wl_of Hw2.out
    have g1 := ((hr1.alloc (.cells #[.string x.2] 9)).kept hgrow (fun e => by have := own_base hrow _ e.symm; omega))
    have g2 := ((hr2.alloc (.cells #[.string x.2] 9)).kept hgrow (fun e => by have := own_base hrow _ e.symm; omega))
    have g3 := ((hbe.alloc (.cells #[.string x.2] 9)).kept hgrow (Ne.symm hvo))
    refine ⟨hk2, ((box_far g3 (by omega)).cell).trans hbe.cell.symm, ⟨_, hv2, ?_, by rw [e1]; exact Hw2.out, ?_⟩, box_far g1 (by omega), box_far g2 (by omega), box_far g3 (by omega), hB.trans (hb2'.mono (by omega))⟩
    · rw [e1, rowV_snoc, List.length_append]
      exact hr2'
    · have hlt := hbe.lt
      rcases hat with hat | hat
      · rw [hat]; exact hvo
      · rw [hat, World.size_alloc]
        intro e
        injection e with e
        omega
  case done =>
    rintro D ys W hD rfl ⟨⟨v, hv, hrow, hway, hvo⟩, hr1, hr2, hbe, hB⟩ hK
    obtain ⟨A, c, rfl, hAc⟩ := Jn.own_slice hrow
    have hc1 := hv.cell
    rw [txt_all] at hway
    have hld : Nm.lead p.data.toList q.data.toList = (Nm.joinT (wl P0 (piecesB 0 q.data.toList)), 0) := by
      rw [Hlead.out, HP.out, hway]
      rfl
    have hlw : Nm.totL (wl P0 (piecesB 0 q.data.toList)) ≤ 1048576 := by
      have h1 := Nm.way_tot _ _ _ hway
      have h2 : Nm.totL P0 ≤ p.data.toList.length + 1 := by rw [← HP.out, ← Nm.totL_texts]; exact Nm.totL_dropLast _
      rw [Nm.totL_texts] at h1
      have h3 := Sp.len_eq p
      omega
    have hll : (wl P0 (piecesB 0 q.data.toList)).length ≤ 1048576 := Nat.le_trans (len_tot _) hlw
    generalize wl P0 (piecesB 0 q.data.toList) = L at *
    gi_wp2_with fail
    refine ⟨trivial, ?_⟩
    refine (callsIn_wide.2 (join_own hrow (by omega) (by omega))).mono ?_
    rintro e w4 ⟨rfl, hBj⟩
    have hr1 := box_below hr1 hBj
    have hr2 := box_below hr2 hBj
    have hK4 : w4.heap[D]? = some (.deferred (some [])) := (hBj.block D (Array.getElem?_eq_some_iff.1 hK).1).trans hK
    have c1 := hr1.cell
    have f1 := hr1.frozen
    have c2 := hr2.cell
    have f2 := hr2.frozen
    have hB5 := hB.trans (hBj.mono hB.size)
    gi_wp2_with fail
    have hK' := (keeps_two w4 w.heap.size (.string (bytesOfL (Nm.joinT L))) (.int .i64 0)).same D _ hK4 rfl
    obtain ⟨r1, r2⟩ := two_box w4 w.heap.size (v1 := .string (bytesOfL (Nm.joinT L))) (v2 := .int .i64 0) hr1 hr2
    refine ⟨by simp, .inl ⟨_, _, rfl, run_takeDeferred hK', ?_⟩⟩
    have hc5 := cell_kept r1.cell (grownBy_putObj' _ D (.deferred none)) (fun r e => by cases e; exact ⟨_, hK', rfl⟩)
    have hc6 := cell_kept r2.cell (grownBy_putObj' _ D (.deferred none)) (fun r e => by cases e; exact ⟨_, hK', rfl⟩)
    refine ⟨.tuple #[.string (bytesOfL (Nm.joinT L)), .int .i64 0], ?_, by rw [hld]; rfl, (below_two w4 _ _ hB5).trans (belowK_b (w := w) (Nat.le_refl _) _ D _ _ (by omega) hK' rfl rfl)⟩
    simp [results, Tryd.f8, go_sem, hc5, hc6]
  case stop =>
    rintro D c pre W hD hpre ⟨⟨rfl, hway⟩, hr1, hr2, hB⟩ hK
    have hld : Nm.lead p.data.toList q.data.toList = ([], 83) := by
      obtain ⟨r, hr⟩ := hpre
      have : Nm.way P0 (Nm.texts q.data.toList) = none := by
        rw [← txt_all, ← hr]
        have e : txt (pre ++ r) = txt pre ++ txt r := by simp [txt]
        rw [e]
        exact Nm.way_none_prefix hway
      rw [Hlead.out, HP.out, this]
      rfl
    gi_wp2_with fail
    refine ⟨by simp, .inl ⟨_, _, rfl, run_takeDeferred hK, ?_⟩⟩
    have hc5 := cell_kept hr1.cell (grownBy_putObj' _ D (.deferred none)) (fun r e => by cases e; exact ⟨_, hK, rfl⟩)
    have hc6 := cell_kept hr2.cell (grownBy_putObj' _ D (.deferred none)) (fun r e => by cases e; exact ⟨_, hK, rfl⟩)
    refine ⟨.tuple #[.string ⟨#[]⟩, .int .i64 83], ?_, by rw [hld]; rfl, hB.trans (belowK_b (w := w) (Nat.le_refl _) W D _ _ (by omega) hK rfl rfl)⟩
    simp [results, Tryd.f8, go_sem, hc5, hc6]
theorem lead_any (p q : ByteArray) (w : World) :
    Calls Tryd.prog 8 #[.string p, .string q] w fun e_ w' => e_ = .returned (.tuple #[.string (bytesOfL (Nm.lead p.data.toList q.data.toList).1), .int .i64 ((Nm.lead p.data.toList q.data.toList).2 : Int)]) ∧ Below w.heap.size w w' := by
  by_cases h : (Nm.check p.data.toList).2 = 0
  · exact lead_walk p q h w
  · have e : Nm.lead p.data.toList q.data.toList = ([], (Nm.check p.data.toList).2) := by simp only [Nm.lead, h, ne_eq, not_false_eq_true, if_true]
    rw [e]
    exact lead_bad p q _ rfl h w
end Go.Proofs.YtnceocjgcdcpgaaDoor.LeadW
end

-- PRINTED by print.py (a twelfth state) out of the translation. Not trusted: Lean checks it.
section
namespace Go.Proofs.YtnceocjgcdcpgaaDoor.XJ
open Go.RowKit Go.Proofs.YtnceocjgcdcpgaaDoorW.PrintWords Go.Proofs.YtnceocjgcdcpgaaDoorW.PrintLast Go.Proofs.YtnceocjgcdcpgaaDoorW.PrintMore
attribute [local go_sem] max2_int min2_int max_two min_two max_three min_three max_four min_four   -- for this text's walks alone
def errW : Option Int → Value
  | none => .nilIface
  | some c => .iface 0 (.int .i64 c)
theorem errW_none : errW none = .nilIface := rfl
theorem errW_some (c : Int) : errW (some c) = .iface 0 (.int .i64 c) := rfl
-- the values' own types
end Go.Proofs.YtnceocjgcdcpgaaDoor.XJ
end

-- PRINTED by print.py (a twelfth state) out of the translation. Not trusted: Lean checks it.
section
namespace Go.Proofs.YtnceocjgcdcpgaaDoor.XJ
open Go.RowKit Go.Proofs.YtnceocjgcdcpgaaDoorW.PrintWords Go.Proofs.YtnceocjgcdcpgaaDoorW.PrintLast Go.Proofs.YtnceocjgcdcpgaaDoorW.PrintMore
attribute [local go_sem] max2_int min2_int max_two min_two max_three min_three max_four min_four   -- for this text's walks alone
def name_Check.f (a0 : ByteArray) : Option (Int × Int) := some (((Nm.check a0.data.toList).1 : Int), ((Nm.check a0.data.toList).2 : Int))
theorem name_Check.calls (a0 : ByteArray) (r1 : Int) (r2 : Int) (w : World) (h : name_Check.f a0 = some (r1, r2)) :
    Calls Tryd.prog 13 #[.string a0] w fun e w' => e = .returned (.tuple #[.int .i64 r1, .int .i64 r2]) ∧ Below w.heap.size w w' := by
  obtain ⟨rfl, rfl⟩ := Prod.mk.inj (Option.some.inj h)
  exact check_any a0 w
def bytealg_LastIndexByteString.l0 : Nat → ByteArray → Int → Int → Option (Int)
  | 0, _, _, _ => none
  | k + 1, x0, x1, x5 => if x5 ≥ 0 then (if 0 ≤ x5 then (if x5 < (x0.size : Int) then (if (bt x0 x5) = x1 then (some x5) else (bytealg_LastIndexByteString.l0 k x0 x1 (wrap64 (x5 - 1)))) else (none)) else (none)) else (some (-1))
def bytealg_LastIndexByteString.f (k : Nat) (a0 : ByteArray) (a1 : Int) : Option (Int) := bytealg_LastIndexByteString.l0 k a0 a1 (wrap64 ((a0.size : Int) - 1))
theorem bytealg_LastIndexByteString.mono_l : ∀ k, (∀ y0 y1 y2, LeO (bytealg_LastIndexByteString.l0 k y0 y1 y2) (bytealg_LastIndexByteString.l0 (k + 1) y0 y1 y2))
  | 0 => fun _ _ _ r h => by simp [bytealg_LastIndexByteString.l0] at h
  | k + 1 => by
    have ih0 := bytealg_LastIndexByteString.mono_l k
    · intro y0 y1 y2
      unfold bytealg_LastIndexByteString.l0
      repeat' first
      | (with_reducible exact ih0 _ _ _)
      | (with_reducible exact LeO.refl _)
      | (with_reducible exact LeO.none _)
      | (with_reducible refine LeO.ite ?_ ?_)
      | (with_reducible refine LeO.bind ?_ (fun _ => ?_))
      | exact ih0 _ _ _
      | exact LeO.none _
      | refine LeO.ite ?_ ?_
      | refine LeO.bind ?_ (fun _ => ?_)
theorem bytealg_LastIndexByteString.mono : ∀ a0 a1 k, LeO (bytealg_LastIndexByteString.f k a0 a1) (bytealg_LastIndexByteString.f (k + 1) a0 a1) := by
  intro a0 a1 k
  have ih0 := bytealg_LastIndexByteString.mono_l k
  unfold bytealg_LastIndexByteString.f
  repeat' first
      | (with_reducible exact ih0 _ _ _)
      | (with_reducible exact LeO.refl _)
      | (with_reducible exact LeO.none _)
      | (with_reducible refine LeO.ite ?_ ?_)
      | (with_reducible refine LeO.bind ?_ (fun _ => ?_))
      | exact ih0 _ _ _
      | exact LeO.none _
      | refine LeO.ite ?_ ?_
      | refine LeO.bind ?_ (fun _ => ?_)
set_option maxHeartbeats 8000000 in
set_option maxRecDepth 100000 in
theorem bytealg_LastIndexByteString.calls (k : Nat) (a0 : ByteArray) (a1 : Int) (r : Int) (w : World) (h : bytealg_LastIndexByteString.f k a0 a1 = some r) :
    Calls Tryd.prog 41 #[.string a0, .int .u8 a1] w fun e w' => e = .returned (.int .i64 r) ∧ Drawn0 w w' := by
  have H : (bytealg_LastIndexByteString.l0 k a0 a1 (wrap64 ((a0.size : Int) - 1))) = some r := h
  clear h
  have H' := Aside0.mk H
  clear H
  go_enter Tryd.func41, Tryd.ntmps41
  go_wp2
  go_loopg [5] k (fun kq v5 w' => ∃ (x5_1 : Int), v5 = .int .i64 x5_1 ∧ Aside0 (bytealg_LastIndexByteString.l0 kq a0 a1 x5_1 = some r) ∧ Aside0 (kq ≤ k) ∧ Drawn0 w w')
  case atStart => exact ⟨(wrap64 ((a0.size : Int) - 1)), (by first | rfl | (simp; done) | (simp [*]; done)), H', ⟨Nat.le_refl _⟩, by repeat (first | exact Drawn0.refl _ | apply Drawn0.step)⟩
  case round =>
    clear H'
    try clear p2
    obtain ⟨x5_1, rfl, HA, HK1, ⟨m1, rfl⟩⟩ := hrel
    cases gk with
    | zero => exact absurd HA.out (by simp [bytealg_LastIndexByteString.l0])
    | succ k1 =>
      have H := HA.out
      clear HA
      simp only [bytealg_LastIndexByteString.l0] at H
      by_cases c3 : x5_1 ≥ 0
      · rw [if_pos c3] at H
        have c3b0 : decide (0 ≤ x5_1) = true := decide_eq_true c3
        clear c3
        by_cases c4 : 0 ≤ x5_1
        · rw [if_pos c4] at H
          have c4b0 : decide (0 ≤ x5_1) = true := decide_eq_true c4
          clear c4
          by_cases c5 : x5_1 < (a0.size : Int)
          · rw [if_pos c5] at H
            have c5b0 : decide (x5_1 < (a0.size : Int)) = true := decide_eq_true c5
            clear c5
            by_cases c7 : (bt a0 x5_1) = a1
            · rw [if_pos c7] at H
              have c7b0 : ((bt a0 x5_1) == a1) = true := beq_iff_eq.mpr c7
              have c7b1 : ((bt a0 x5_1) != a1) = false := bne_eq_false_iff_eq.mpr c7
              clear c7
              obtain rfl := Option.some.inj H
              have p6 : 0 ≤ (x5_1 : Int) := of_decide_eq_true (by first | (with_reducible assumption) | assumption)
              have q6 : x5_1 < (a0.size : Int) := of_decide_eq_true (by first | (with_reducible assumption) | assumption)
              have hx6 := bt_at a0 x5_1
              replace p6 := eq_true p6
              replace q6 := eq_true q6
              go_wp2
              go_ret
              exact ⟨by first | rfl | (simp; done) | (simp [*]; done), by repeat (first | exact Drawn0.refl _ | apply Drawn0.step)⟩
            · rw [if_neg c7] at H
              have c7b0 : ((bt a0 x5_1) == a1) = false := beq_eq_false_iff_ne.mpr c7
              have c7b1 : ((bt a0 x5_1) != a1) = true := bne_iff_ne.mpr c7
              have H' := Aside0.mk H
              clear H
              have p6 : 0 ≤ (x5_1 : Int) := of_decide_eq_true (by first | (with_reducible assumption) | assumption)
              have q6 : x5_1 < (a0.size : Int) := of_decide_eq_true (by first | (with_reducible assumption) | assumption)
              have hx6 := bt_at a0 x5_1
              replace p6 := eq_true p6
              replace q6 := eq_true q6
              go_wp2
              go_roundg k1
              case measure => have := HK1.out; omega
              case rel => exact ⟨(wrap64 (x5_1 - 1)), (by first | rfl | (simp; done) | (simp [*]; done)), H', ⟨by have := HK1.out; omega⟩, by repeat (first | exact Drawn0.refl _ | apply Drawn0.step)⟩
          · rw [if_neg c5] at H
            exact absurd H (by simp)
        · rw [if_neg c4] at H
          exact absurd H (by simp)
      · rw [if_neg c3] at H
        have c3b0 : decide (0 ≤ x5_1) = false := decide_eq_false c3
        clear c3
        obtain rfl := Option.some.inj H
        go_wp2
        go_ret
        exact ⟨by first | rfl | (simp; done) | (simp [*]; done), by repeat (first | exact Drawn0.refl _ | apply Drawn0.step)⟩
def strings_LastIndexByte.f (k : Nat) (a0 : ByteArray) (a1 : Int) : Option (Int) := (bytealg_LastIndexByteString.f k a0 a1).bind fun t101 => (some t101)
theorem strings_LastIndexByte.mono : ∀ a0 a1 k, LeO (strings_LastIndexByte.f k a0 a1) (strings_LastIndexByte.f (k + 1) a0 a1) := by
  intro a0 a1 k
  unfold strings_LastIndexByte.f
  repeat' first
      | (with_reducible exact bytealg_LastIndexByteString.mono _ _ _)
      | (with_reducible exact LeO.refl _)
      | (with_reducible exact LeO.none _)
      | (with_reducible refine LeO.ite ?_ ?_)
      | (with_reducible refine LeO.bind ?_ (fun _ => ?_))
      | exact bytealg_LastIndexByteString.mono _ _ _
      | exact LeO.none _
      | refine LeO.ite ?_ ?_
      | refine LeO.bind ?_ (fun _ => ?_)
set_option maxHeartbeats 8000000 in
set_option maxRecDepth 100000 in
theorem strings_LastIndexByte.calls (k : Nat) (a0 : ByteArray) (a1 : Int) (r : Int) (w : World) (h : strings_LastIndexByte.f k a0 a1 = some r) :
    Calls Tryd.prog 30 #[.string a0, .int .u8 a1] w fun e w' => e = .returned (.int .i64 r) ∧ Drawn0 w w' := by
  have H : ((bytealg_LastIndexByteString.f k a0 a1).bind fun t101 => (some t101)) = some r := h
  clear h
  replace H := Option.bind_eq_some_iff.mp H
  obtain ⟨t101, A30, H⟩ := H
  replace H : (some t101) = some r := H
  have A3 := Aside0.mk A30
  clear A30
  obtain rfl := Option.some.inj H
  go_enter Tryd.func30, Tryd.ntmps30
  go_wp2_with (first | ((with_reducible refine gate_callee (f := 41) rfl ?_); refine goesL_ (some 7) rfl rfl Tryd.func41 (by kernel_rfl) rfl #[.string a0, .int .u8 a1] rfl (by (try simp only [List.map_toArray, List.map_cons, List.map_nil]); first | done | rfl | (simp only [List.length_drop, List.length_take]; rfl)) ?_; (with_reducible refine (bytealg_LastIndexByteString.calls k a0 a1 t101 _ A3.out).mono ?_); rintro e w' ⟨rfl, ⟨nd, rfl⟩⟩; refine ⟨_, rfl, ?_⟩))
  go_ret
  exact ⟨by first | rfl | (simp; done) | (simp [*]; done), by repeat (first | exact Drawn0.refl _ | apply Drawn0.step)⟩
def name_Split.f (k : Nat) (a0 : ByteArray) : Option (ByteArray × ByteArray × Int) := (name_Check.f a0).bind fun bt102 => (if bt102.2 = 0 then (if (a0.size : Int) ≤ 100 then (some ((⟨#[]⟩ : ByteArray), a0, 0)) else (if 0 ≤ (mn (a0.size : Int) 156) then (if (mn (a0.size : Int) 156) ≤ (a0.size : Int) then ((strings_LastIndexByte.f k (a0.extract 0 ((mn (a0.size : Int) 156) : Int).toNat) 47).bind fun t104 => (if t104 < 0 then (some ((⟨#[]⟩ : ByteArray), (⟨#[]⟩ : ByteArray), 2)) else (if (wrap64 ((wrap64 ((a0.size : Int) - t104)) - 1)) > 100 then (some ((⟨#[]⟩ : ByteArray), (⟨#[]⟩ : ByteArray), 2)) else (if 0 ≤ t104 then (if t104 ≤ (a0.size : Int) then (if 0 ≤ (wrap64 (t104 + 1)) then (if (wrap64 (t104 + 1)) ≤ (a0.size : Int) then (some (a0.extract 0 (t104 : Int).toNat, a0.extract ((wrap64 (t104 + 1)) : Int).toNat a0.size, 0)) else (none)) else (none)) else (none)) else (none))))) else (none)) else (none))) else (some ((⟨#[]⟩ : ByteArray), (⟨#[]⟩ : ByteArray), bt102.2)))
set_option maxHeartbeats 8000000 in
set_option maxRecDepth 100000 in
theorem name_Split.calls (k : Nat) (a0 : ByteArray) (r1 : ByteArray) (r2 : ByteArray) (r3 : Int) (w : World) (h : name_Split.f k a0 = some (r1, r2, r3)) :
    Calls Tryd.prog 17 #[.string a0] w fun e w' => e = .returned (.tuple #[.string r1, .string r2, .int .i64 r3]) ∧ Below w.heap.size w w' := by
  have HB := Aside0.mk (Below.refl w.heap.size w)
  have H : ((name_Check.f a0).bind fun bt102 => (if bt102.2 = 0 then (if (a0.size : Int) ≤ 100 then (some ((⟨#[]⟩ : ByteArray), a0, 0)) else (if 0 ≤ (mn (a0.size : Int) 156) then (if (mn (a0.size : Int) 156) ≤ (a0.size : Int) then ((strings_LastIndexByte.f k (a0.extract 0 ((mn (a0.size : Int) 156) : Int).toNat) 47).bind fun t104 => (if t104 < 0 then (some ((⟨#[]⟩ : ByteArray), (⟨#[]⟩ : ByteArray), 2)) else (if (wrap64 ((wrap64 ((a0.size : Int) - t104)) - 1)) > 100 then (some ((⟨#[]⟩ : ByteArray), (⟨#[]⟩ : ByteArray), 2)) else (if 0 ≤ t104 then (if t104 ≤ (a0.size : Int) then (if 0 ≤ (wrap64 (t104 + 1)) then (if (wrap64 (t104 + 1)) ≤ (a0.size : Int) then (some (a0.extract 0 (t104 : Int).toNat, a0.extract ((wrap64 (t104 + 1)) : Int).toNat a0.size, 0)) else (none)) else (none)) else (none)) else (none))))) else (none)) else (none))) else (some ((⟨#[]⟩ : ByteArray), (⟨#[]⟩ : ByteArray), bt102.2)))) = some (r1, r2, r3) := h
  clear h
  replace H := Option.bind_eq_some_iff.mp H
  obtain ⟨⟨t102, t103⟩, A20, H⟩ := H
  replace H : (if t103 = 0 then (if (a0.size : Int) ≤ 100 then (some ((⟨#[]⟩ : ByteArray), a0, 0)) else (if 0 ≤ (mn (a0.size : Int) 156) then (if (mn (a0.size : Int) 156) ≤ (a0.size : Int) then ((strings_LastIndexByte.f k (a0.extract 0 ((mn (a0.size : Int) 156) : Int).toNat) 47).bind fun t104 => (if t104 < 0 then (some ((⟨#[]⟩ : ByteArray), (⟨#[]⟩ : ByteArray), 2)) else (if (wrap64 ((wrap64 ((a0.size : Int) - t104)) - 1)) > 100 then (some ((⟨#[]⟩ : ByteArray), (⟨#[]⟩ : ByteArray), 2)) else (if 0 ≤ t104 then (if t104 ≤ (a0.size : Int) then (if 0 ≤ (wrap64 (t104 + 1)) then (if (wrap64 (t104 + 1)) ≤ (a0.size : Int) then (some (a0.extract 0 (t104 : Int).toNat, a0.extract ((wrap64 (t104 + 1)) : Int).toNat a0.size, 0)) else (none)) else (none)) else (none)) else (none))))) else (none)) else (none))) else (some ((⟨#[]⟩ : ByteArray), (⟨#[]⟩ : ByteArray), t103))) = some (r1, r2, r3) := H
  have A2 := Aside0.mk A20
  clear A20
  by_cases c3 : t103 = 0
  · rw [if_pos c3] at H
    have c3b0 : (t103 == 0) = true := beq_iff_eq.mpr c3
    have c3b1 : (t103 != 0) = false := bne_eq_false_iff_eq.mpr c3
    clear c3
    by_cases c4 : (a0.size : Int) ≤ 100
    · rw [if_pos c4] at H
      have c4b0 : decide ((a0.size : Int) ≤ 100) = true := decide_eq_true c4
      have c4b1 : decide (a0.size ≤ 100) = true := decide_eq_true (by omega)
      clear c4
      simp only [Option.some.injEq, Prod.mk.injEq] at H
      obtain ⟨rfl, rfl, rfl⟩ := H
      go_enter Tryd.func17, Tryd.ntmps17
      go_wp2_with (first | (go_at_call 13; (with_reducible refine (name_Check.calls a0 t102 t103 _ A2.out).mono ?_); rintro e w5 ⟨rfl, hb⟩; have n0_ := Aside0.mk (below_step (by repeat (first | (with_reducible first | exact HB.out | apply below_alloc | apply pw_below_drewN | apply below_drew1) | exact HB.out)) hb); clear HB; have HB := n0_; clear n0_; (try clear hb); (try clear hb2); (try clear hk); (try clear hi)))
      repeat (go_quiet (first | (go_at_call 13; (with_reducible refine (name_Check.calls a0 t102 t103 _ A2.out).mono ?_); rintro e w5 ⟨rfl, hb⟩; have n0_ := Aside0.mk (below_step (by repeat (first | (with_reducible first | exact HB.out | apply below_alloc | apply pw_below_drewN | apply below_drew1) | exact HB.out)) hb); clear HB; have HB := n0_; clear n0_; (try clear hb); (try clear hb2); (try clear hk); (try clear hi))); try go_wp2_with (first | (go_at_call 13; (with_reducible refine (name_Check.calls a0 t102 t103 _ A2.out).mono ?_); rintro e w5 ⟨rfl, hb⟩; have n0_ := Aside0.mk (below_step (by repeat (first | (with_reducible first | exact HB.out | apply below_alloc | apply pw_below_drewN | apply below_drew1) | exact HB.out)) hb); clear HB; have HB := n0_; clear n0_; (try clear hb); (try clear hb2); (try clear hk); (try clear hi))))
      go_ret3
      exact ⟨by first | rfl | (simp [errW_none, errW_some] <;> rfl) | (simp [*, errW_none, errW_some] <;> rfl), by repeat (first | (with_reducible first | exact HB.out | apply below_alloc | apply pw_below_drewN | apply below_drew1) | exact HB.out)⟩
    · rw [if_neg c4] at H
      have c4b0 : decide ((a0.size : Int) ≤ 100) = false := decide_eq_false c4
      have c4b1 : decide (a0.size ≤ 100) = false := decide_eq_false (by omega)
      clear c4
      obtain ⟨ji6, hji6⟩ : ∃ j_ : Int, (mn (a0.size : Int) 156) = j_ := ⟨_, rfl⟩
      replace H : (if 0 ≤ (ji6) then (if (ji6) ≤ (a0.size : Int) then ((strings_LastIndexByte.f k (a0.extract 0 ((ji6) : Int).toNat) 47).bind fun t104 => (if t104 < 0 then (some ((⟨#[]⟩ : ByteArray), (⟨#[]⟩ : ByteArray), 2)) else (if (wrap64 ((wrap64 ((a0.size : Int) - t104)) - 1)) > 100 then (some ((⟨#[]⟩ : ByteArray), (⟨#[]⟩ : ByteArray), 2)) else (if 0 ≤ t104 then (if t104 ≤ (a0.size : Int) then (if 0 ≤ (wrap64 (t104 + 1)) then (if (wrap64 (t104 + 1)) ≤ (a0.size : Int) then (some (a0.extract 0 (t104 : Int).toNat, a0.extract ((wrap64 (t104 + 1)) : Int).toNat a0.size, 0)) else (none)) else (none)) else (none)) else (none))))) else (none)) else (none)) = some (r1, r2, r3) := by first | (rw [hji6] at H; exact H) | (simp only [hji6] at H ⊢; exact H)
      (try rw [hji6] at A2)
      (try (have hji6h : ji6 ≤ 156 := by (rw [← hji6]; unfold mn; (repeat' split) <;> omega)))
      (try (have hji6g : ji6 ≤ 64 := by omega))
      (try (have hji6l : 0 ≤ ji6 := by (rw [← hji6]; unfold mn; (repeat' split) <;> omega)))
      (try (have hji6m : 0 ≤ ji6 := by omega))
      have hji6_ : (if 156 < (a0.size : Int) then 156 else (a0.size : Int)) = ji6 := hji6
      by_cases c7 : 0 ≤ (ji6)
      · rw [if_pos c7] at H
        have c7b0 := eq_true c7
        have c7b1 : decide (0 ≤ (ji6)) = true := decide_eq_true c7
        clear c7
        by_cases c8 : (ji6) ≤ (a0.size : Int)
        · rw [if_pos c8] at H
          have c8b0 := eq_true c8
          have c8b1 : decide ((ji6) ≤ (a0.size : Int)) = true := decide_eq_true c8
          clear c8
          replace H := Option.bind_eq_some_iff.mp H
          obtain ⟨t104, A90, H⟩ := H
          replace H : (if t104 < 0 then (some ((⟨#[]⟩ : ByteArray), (⟨#[]⟩ : ByteArray), 2)) else (if (wrap64 ((wrap64 ((a0.size : Int) - t104)) - 1)) > 100 then (some ((⟨#[]⟩ : ByteArray), (⟨#[]⟩ : ByteArray), 2)) else (if 0 ≤ t104 then (if t104 ≤ (a0.size : Int) then (if 0 ≤ (wrap64 (t104 + 1)) then (if (wrap64 (t104 + 1)) ≤ (a0.size : Int) then (some (a0.extract 0 (t104 : Int).toNat, a0.extract ((wrap64 (t104 + 1)) : Int).toNat a0.size, 0)) else (none)) else (none)) else (none)) else (none)))) = some (r1, r2, r3) := H
          have A9 := Aside0.mk A90
          clear A90
          by_cases c10 : t104 < 0
          · rw [if_pos c10] at H
            have c10b0 : decide (t104 < 0) = true := decide_eq_true c10
            clear c10
            simp only [Option.some.injEq, Prod.mk.injEq] at H
            obtain ⟨rfl, rfl, rfl⟩ := H
            go_enter Tryd.func17, Tryd.ntmps17
            go_wp2_with (first | (go_at_call 13; (with_reducible refine (name_Check.calls a0 t102 t103 _ A2.out).mono ?_); rintro e w11 ⟨rfl, hb⟩; have n0_ := Aside0.mk (below_step (by repeat (first | (with_reducible first | exact HB.out | apply below_alloc | apply pw_below_drewN | apply below_drew1) | exact HB.out)) hb); clear HB; have HB := n0_; clear n0_; (try clear hb); (try clear hb2); (try clear hk); (try clear hi)) | (go_at_call 30; (with_reducible refine (strings_LastIndexByte.calls k (a0.extract 0 ((ji6) : Int).toNat) 47 t104 _ A9.out).mono ?_); rintro e w' ⟨rfl, ⟨nd, rfl⟩⟩; (try first | exact ⟨rfl, _, World.drewN_drewN _ _ _⟩ | exact ⟨rfl, _, Eq.trans (World.drewN_drewN _ _ _) (congrArg (World.drewN _) (Nat.add_assoc _ _ _))⟩)))
            repeat (go_quiet (first | (go_at_call 13; (with_reducible refine (name_Check.calls a0 t102 t103 _ A2.out).mono ?_); rintro e w11 ⟨rfl, hb⟩; have n0_ := Aside0.mk (below_step (by repeat (first | (with_reducible first | exact HB.out | apply below_alloc | apply pw_below_drewN | apply below_drew1) | exact HB.out)) hb); clear HB; have HB := n0_; clear n0_; (try clear hb); (try clear hb2); (try clear hk); (try clear hi)) | (go_at_call 30; (with_reducible refine (strings_LastIndexByte.calls k (a0.extract 0 ((ji6) : Int).toNat) 47 t104 _ A9.out).mono ?_); rintro e w' ⟨rfl, ⟨nd, rfl⟩⟩; (try first | exact ⟨rfl, _, World.drewN_drewN _ _ _⟩ | exact ⟨rfl, _, Eq.trans (World.drewN_drewN _ _ _) (congrArg (World.drewN _) (Nat.add_assoc _ _ _))⟩))); try go_wp2_with (first | (go_at_call 13; (with_reducible refine (name_Check.calls a0 t102 t103 _ A2.out).mono ?_); rintro e w11 ⟨rfl, hb⟩; have n0_ := Aside0.mk (below_step (by repeat (first | (with_reducible first | exact HB.out | apply below_alloc | apply pw_below_drewN | apply below_drew1) | exact HB.out)) hb); clear HB; have HB := n0_; clear n0_; (try clear hb); (try clear hb2); (try clear hk); (try clear hi)) | (go_at_call 30; (with_reducible refine (strings_LastIndexByte.calls k (a0.extract 0 ((ji6) : Int).toNat) 47 t104 _ A9.out).mono ?_); rintro e w' ⟨rfl, ⟨nd, rfl⟩⟩; (try first | exact ⟨rfl, _, World.drewN_drewN _ _ _⟩ | exact ⟨rfl, _, Eq.trans (World.drewN_drewN _ _ _) (congrArg (World.drewN _) (Nat.add_assoc _ _ _))⟩))))
            go_ret3
            exact ⟨by first | rfl | (simp [errW_none, errW_some] <;> rfl) | (simp only [← hji6]; first | rfl | (simp [errW_none, errW_some] <;> rfl)) | (simp [*, errW_none, errW_some] <;> rfl), by repeat (first | (with_reducible first | exact HB.out | apply below_alloc | apply pw_below_drewN | apply below_drew1) | exact HB.out)⟩
          · rw [if_neg c10] at H
            have c10b0 : decide (t104 < 0) = false := decide_eq_false c10
            clear c10
            by_cases c12 : (wrap64 ((wrap64 ((a0.size : Int) - t104)) - 1)) > 100
            · rw [if_pos c12] at H
              have c12b0 : decide (100 < (wrap64 ((wrap64 ((a0.size : Int) - t104)) - 1))) = true := decide_eq_true c12
              clear c12
              simp only [Option.some.injEq, Prod.mk.injEq] at H
              obtain ⟨rfl, rfl, rfl⟩ := H
              go_enter Tryd.func17, Tryd.ntmps17
              go_wp2_with (first | (go_at_call 13; (with_reducible refine (name_Check.calls a0 t102 t103 _ A2.out).mono ?_); rintro e w13 ⟨rfl, hb⟩; have n0_ := Aside0.mk (below_step (by repeat (first | (with_reducible first | exact HB.out | apply below_alloc | apply pw_below_drewN | apply below_drew1) | exact HB.out)) hb); clear HB; have HB := n0_; clear n0_; (try clear hb); (try clear hb2); (try clear hk); (try clear hi)) | (go_at_call 30; (with_reducible refine (strings_LastIndexByte.calls k (a0.extract 0 ((ji6) : Int).toNat) 47 t104 _ A9.out).mono ?_); rintro e w' ⟨rfl, ⟨nd, rfl⟩⟩; (try first | exact ⟨rfl, _, World.drewN_drewN _ _ _⟩ | exact ⟨rfl, _, Eq.trans (World.drewN_drewN _ _ _) (congrArg (World.drewN _) (Nat.add_assoc _ _ _))⟩)))
              repeat (go_quiet (first | (go_at_call 13; (with_reducible refine (name_Check.calls a0 t102 t103 _ A2.out).mono ?_); rintro e w13 ⟨rfl, hb⟩; have n0_ := Aside0.mk (below_step (by repeat (first | (with_reducible first | exact HB.out | apply below_alloc | apply pw_below_drewN | apply below_drew1) | exact HB.out)) hb); clear HB; have HB := n0_; clear n0_; (try clear hb); (try clear hb2); (try clear hk); (try clear hi)) | (go_at_call 30; (with_reducible refine (strings_LastIndexByte.calls k (a0.extract 0 ((ji6) : Int).toNat) 47 t104 _ A9.out).mono ?_); rintro e w' ⟨rfl, ⟨nd, rfl⟩⟩; (try first | exact ⟨rfl, _, World.drewN_drewN _ _ _⟩ | exact ⟨rfl, _, Eq.trans (World.drewN_drewN _ _ _) (congrArg (World.drewN _) (Nat.add_assoc _ _ _))⟩))); try go_wp2_with (first | (go_at_call 13; (with_reducible refine (name_Check.calls a0 t102 t103 _ A2.out).mono ?_); rintro e w13 ⟨rfl, hb⟩; have n0_ := Aside0.mk (below_step (by repeat (first | (with_reducible first | exact HB.out | apply below_alloc | apply pw_below_drewN | apply below_drew1) | exact HB.out)) hb); clear HB; have HB := n0_; clear n0_; (try clear hb); (try clear hb2); (try clear hk); (try clear hi)) | (go_at_call 30; (with_reducible refine (strings_LastIndexByte.calls k (a0.extract 0 ((ji6) : Int).toNat) 47 t104 _ A9.out).mono ?_); rintro e w' ⟨rfl, ⟨nd, rfl⟩⟩; (try first | exact ⟨rfl, _, World.drewN_drewN _ _ _⟩ | exact ⟨rfl, _, Eq.trans (World.drewN_drewN _ _ _) (congrArg (World.drewN _) (Nat.add_assoc _ _ _))⟩))))
              go_ret3
              exact ⟨by first | rfl | (simp [errW_none, errW_some] <;> rfl) | (simp only [← hji6]; first | rfl | (simp [errW_none, errW_some] <;> rfl)) | (simp [*, errW_none, errW_some] <;> rfl), by repeat (first | (with_reducible first | exact HB.out | apply below_alloc | apply pw_below_drewN | apply below_drew1) | exact HB.out)⟩
            · rw [if_neg c12] at H
              have c12b0 : decide (100 < (wrap64 ((wrap64 ((a0.size : Int) - t104)) - 1))) = false := decide_eq_false c12
              clear c12
              by_cases c14 : 0 ≤ t104
              · rw [if_pos c14] at H
                have c14b0 := eq_true c14
                have c14b1 : decide (0 ≤ t104) = true := decide_eq_true c14
                clear c14
                by_cases c15 : t104 ≤ (a0.size : Int)
                · rw [if_pos c15] at H
                  have c15b0 := eq_true c15
                  have c15b1 : decide (t104 ≤ (a0.size : Int)) = true := decide_eq_true c15
                  clear c15
                  obtain ⟨ji16, hji16⟩ : ∃ j_ : Int, (wrap64 (t104 + 1)) = j_ := ⟨_, rfl⟩
                  replace H : (if 0 ≤ (ji16) then (if (ji16) ≤ (a0.size : Int) then (some (a0.extract 0 (t104 : Int).toNat, a0.extract ((ji16) : Int).toNat a0.size, 0)) else (none)) else (none)) = some (r1, r2, r3) := by first | (rw [hji16] at H; exact H) | (simp only [hji16] at H ⊢; exact H)
                  (try rw [hji16] at A2)
                  (try rw [hji16] at A9)
                  have hji16w : (IntKind.i64.wrap (t104 + 1)) = ji16 := (i64_w _).trans hji16
                  by_cases c17 : 0 ≤ (ji16)
                  · rw [if_pos c17] at H
                    have c17b0 := eq_true c17
                    have c17b1 : decide (0 ≤ (ji16)) = true := decide_eq_true c17
                    clear c17
                    by_cases c18 : (ji16) ≤ (a0.size : Int)
                    · rw [if_pos c18] at H
                      have c18b0 := eq_true c18
                      have c18b1 : decide ((ji16) ≤ (a0.size : Int)) = true := decide_eq_true c18
                      clear c18
                      simp only [Option.some.injEq, Prod.mk.injEq] at H
                      obtain ⟨rfl, rfl, rfl⟩ := H
                      go_enter Tryd.func17, Tryd.ntmps17
                      go_wp2_with (first | (go_at_call 13; (with_reducible refine (name_Check.calls a0 t102 t103 _ A2.out).mono ?_); rintro e w19 ⟨rfl, hb⟩; have n0_ := Aside0.mk (below_step (by repeat (first | (with_reducible first | exact HB.out | apply below_alloc | apply pw_below_drewN | apply below_drew1) | exact HB.out)) hb); clear HB; have HB := n0_; clear n0_; (try clear hb); (try clear hb2); (try clear hk); (try clear hi)) | (go_at_call 30; (with_reducible refine (strings_LastIndexByte.calls k (a0.extract 0 ((ji6) : Int).toNat) 47 t104 _ A9.out).mono ?_); rintro e w' ⟨rfl, ⟨nd, rfl⟩⟩; (try first | exact ⟨rfl, _, World.drewN_drewN _ _ _⟩ | exact ⟨rfl, _, Eq.trans (World.drewN_drewN _ _ _) (congrArg (World.drewN _) (Nat.add_assoc _ _ _))⟩)))
                      repeat (go_quiet (first | (go_at_call 13; (with_reducible refine (name_Check.calls a0 t102 t103 _ A2.out).mono ?_); rintro e w19 ⟨rfl, hb⟩; have n0_ := Aside0.mk (below_step (by repeat (first | (with_reducible first | exact HB.out | apply below_alloc | apply pw_below_drewN | apply below_drew1) | exact HB.out)) hb); clear HB; have HB := n0_; clear n0_; (try clear hb); (try clear hb2); (try clear hk); (try clear hi)) | (go_at_call 30; (with_reducible refine (strings_LastIndexByte.calls k (a0.extract 0 ((ji6) : Int).toNat) 47 t104 _ A9.out).mono ?_); rintro e w' ⟨rfl, ⟨nd, rfl⟩⟩; (try first | exact ⟨rfl, _, World.drewN_drewN _ _ _⟩ | exact ⟨rfl, _, Eq.trans (World.drewN_drewN _ _ _) (congrArg (World.drewN _) (Nat.add_assoc _ _ _))⟩))); try go_wp2_with (first | (go_at_call 13; (with_reducible refine (name_Check.calls a0 t102 t103 _ A2.out).mono ?_); rintro e w19 ⟨rfl, hb⟩; have n0_ := Aside0.mk (below_step (by repeat (first | (with_reducible first | exact HB.out | apply below_alloc | apply pw_below_drewN | apply below_drew1) | exact HB.out)) hb); clear HB; have HB := n0_; clear n0_; (try clear hb); (try clear hb2); (try clear hk); (try clear hi)) | (go_at_call 30; (with_reducible refine (strings_LastIndexByte.calls k (a0.extract 0 ((ji6) : Int).toNat) 47 t104 _ A9.out).mono ?_); rintro e w' ⟨rfl, ⟨nd, rfl⟩⟩; (try first | exact ⟨rfl, _, World.drewN_drewN _ _ _⟩ | exact ⟨rfl, _, Eq.trans (World.drewN_drewN _ _ _) (congrArg (World.drewN _) (Nat.add_assoc _ _ _))⟩))))
                      go_ret3
                      exact ⟨by first | rfl | (simp [errW_none, errW_some] <;> rfl) | (simp only [← hji6, ← hji16]; first | rfl | (simp [errW_none, errW_some] <;> rfl)) | (simp [*, errW_none, errW_some] <;> rfl), by repeat (first | (with_reducible first | exact HB.out | apply below_alloc | apply pw_below_drewN | apply below_drew1) | exact HB.out)⟩
                    · rw [if_neg c18] at H
                      exact absurd H (by simp)
                  · rw [if_neg c17] at H
                    exact absurd H (by simp)
                · rw [if_neg c15] at H
                  exact absurd H (by simp)
              · rw [if_neg c14] at H
                exact absurd H (by simp)
        · rw [if_neg c8] at H
          exact absurd H (by simp)
      · rw [if_neg c7] at H
        exact absurd H (by simp)
  · rw [if_neg c3] at H
    have c3b0 : (t103 == 0) = false := beq_eq_false_iff_ne.mpr c3
    have c3b1 : (t103 != 0) = true := bne_iff_ne.mpr c3
    simp only [Option.some.injEq, Prod.mk.injEq] at H
    obtain ⟨rfl, rfl, rfl⟩ := H
    go_enter Tryd.func17, Tryd.ntmps17
    go_wp2_with (first | (go_at_call 13; (with_reducible refine (name_Check.calls a0 t102 t103 _ A2.out).mono ?_); rintro e w20 ⟨rfl, hb⟩; have n0_ := Aside0.mk (below_step (by repeat (first | (with_reducible first | exact HB.out | apply below_alloc | apply pw_below_drewN | apply below_drew1) | exact HB.out)) hb); clear HB; have HB := n0_; clear n0_; (try clear hb); (try clear hb2); (try clear hk); (try clear hi)))
    repeat (go_quiet (first | (go_at_call 13; (with_reducible refine (name_Check.calls a0 t102 t103 _ A2.out).mono ?_); rintro e w20 ⟨rfl, hb⟩; have n0_ := Aside0.mk (below_step (by repeat (first | (with_reducible first | exact HB.out | apply below_alloc | apply pw_below_drewN | apply below_drew1) | exact HB.out)) hb); clear HB; have HB := n0_; clear n0_; (try clear hb); (try clear hb2); (try clear hk); (try clear hi))); try go_wp2_with (first | (go_at_call 13; (with_reducible refine (name_Check.calls a0 t102 t103 _ A2.out).mono ?_); rintro e w20 ⟨rfl, hb⟩; have n0_ := Aside0.mk (below_step (by repeat (first | (with_reducible first | exact HB.out | apply below_alloc | apply pw_below_drewN | apply below_drew1) | exact HB.out)) hb); clear HB; have HB := n0_; clear n0_; (try clear hb); (try clear hb2); (try clear hk); (try clear hi))))
    go_ret3
    exact ⟨by first | rfl | (simp [errW_none, errW_some] <;> rfl) | (simp [*, errW_none, errW_some] <;> rfl), by repeat (first | (with_reducible first | exact HB.out | apply below_alloc | apply pw_below_drewN | apply below_drew1) | exact HB.out)⟩
def tabularylaw08_refused.f (a0 : ByteArray) (a1 : Int) (a2 : Int) : Option (Bool) := (name_Check.f a0).bind fun bt105 => (if bt105.1 = a1 then (some (bt105.2 == a2)) else (some false))
set_option maxHeartbeats 8000000 in
set_option maxRecDepth 100000 in
theorem tabularylaw08_refused.calls (a0 : ByteArray) (a1 : Int) (a2 : Int) (r : Bool) (w : World) (h : tabularylaw08_refused.f a0 a1 a2 = some r) :
    Calls Tryd.prog 31 #[.string a0, .int .i64 a1, .int .i64 a2] w fun e w' => e = .returned (.bool r) ∧ Below w.heap.size w w' := by
  have HB := Aside0.mk (Below.refl w.heap.size w)
  have H : ((name_Check.f a0).bind fun bt105 => (if bt105.1 = a1 then (some (bt105.2 == a2)) else (some false))) = some r := h
  clear h
  replace H := Option.bind_eq_some_iff.mp H
  obtain ⟨⟨t105, t106⟩, A40, H⟩ := H
  replace H : (if t105 = a1 then (some (t106 == a2)) else (some false)) = some r := H
  have A4 := Aside0.mk A40
  clear A40
  by_cases c5 : t105 = a1
  · rw [if_pos c5] at H
    have c5b0 : (t105 == a1) = true := beq_iff_eq.mpr c5
    have c5b1 : (t105 != a1) = false := bne_eq_false_iff_eq.mpr c5
    clear c5
    obtain rfl := Option.some.inj H
    go_enter Tryd.func31, Tryd.ntmps31
    go_wp2_with (first | ((with_reducible refine gate_callee (f := 13) rfl ?_); refine goesL_ (some 11) rfl rfl Tryd.func13 (by kernel_rfl) rfl #[.string a0] rfl (by (try simp only [List.map_toArray, List.map_cons, List.map_nil]); first | done | rfl | (simp only [List.length_drop, List.length_take]; rfl)) ?_; (with_reducible refine (name_Check.calls a0 t105 t106 _ A4.out).mono ?_); rintro e w6 ⟨rfl, hb⟩; refine ⟨_, rfl, ?_⟩; have n0_ := Aside0.mk (below_step (by repeat (first | (with_reducible first | exact HB.out | apply below_alloc | apply pw_below_drewN | apply below_drew1) | exact HB.out)) hb); clear HB; have HB := n0_; clear n0_; (try clear hb); (try clear hb2); (try clear hk); (try clear hi)))
    go_ret
    exact ⟨by first | rfl | (simp [errW_none, errW_some] <;> rfl) | (simp [*, errW_none, errW_some] <;> rfl), by repeat (first | (with_reducible first | exact HB.out | apply below_alloc | apply pw_below_drewN | apply below_drew1) | exact HB.out)⟩
  · rw [if_neg c5] at H
    have c5b0 : (t105 == a1) = false := beq_eq_false_iff_ne.mpr c5
    have c5b1 : (t105 != a1) = true := bne_iff_ne.mpr c5
    obtain rfl := Option.some.inj H
    go_enter Tryd.func31, Tryd.ntmps31
    go_wp2_with (first | ((with_reducible refine gate_callee (f := 13) rfl ?_); refine goesL_ (some 11) rfl rfl Tryd.func13 (by kernel_rfl) rfl #[.string a0] rfl (by (try simp only [List.map_toArray, List.map_cons, List.map_nil]); first | done | rfl | (simp only [List.length_drop, List.length_take]; rfl)) ?_; (with_reducible refine (name_Check.calls a0 t105 t106 _ A4.out).mono ?_); rintro e w7 ⟨rfl, hb⟩; refine ⟨_, rfl, ?_⟩; have n0_ := Aside0.mk (below_step (by repeat (first | (with_reducible first | exact HB.out | apply below_alloc | apply pw_below_drewN | apply below_drew1) | exact HB.out)) hb); clear HB; have HB := n0_; clear n0_; (try clear hb); (try clear hb2); (try clear hk); (try clear hi)))
    go_ret
    exact ⟨by first | rfl | (simp [errW_none, errW_some] <;> rfl) | (simp [*, errW_none, errW_some] <;> rfl), by repeat (first | (with_reducible first | exact HB.out | apply below_alloc | apply pw_below_drewN | apply below_drew1) | exact HB.out)⟩
end Go.Proofs.YtnceocjgcdcpgaaDoor.XJ
end

/- NameKnown: the law's edges, at its one text. -/
section
namespace Go.Proofs.YtnceocjgcdcpgaaDoor.Kn
open Go Go.RowKit Go.Shelf Go.Proofs.YtnceocjgcdcpgaaDoor Go.Proofs.YtnceocjgcdcpgaaDoorW.PrintWords Go.Proofs.YtnceocjgcdcpgaaDoorW.PrintLast Go.Proofs.YtnceocjgcdcpgaaDoorW.PrintMore
set_option maxRecDepth 100000 in
set_option maxHeartbeats 8000000 in
theorem edges_walk (K : Nat) (l l30 l37 l34 l10 part p1 p2 p3 p4 p5 path pre tail q1 q2 q3 q4 q5 q6 q7 q8 q9 : ByteArray) (w : World) (g1 g2 g3 g4 : ByteArray)
    (s0 : l.size = 90) (s1 : part.size = 120) (s2 : path.size = 400) (s3 : pre.size = 155) (s4 : tail.size = 100) (z1 : p1.size = 121) (z2 : p2.size = 241) (z3 : p3.size = 242) (z4 : p4.size = 362) (z5 : p5.size = 363) (y1 : q1.size = 156) (y2 : q2.size = 256) (y3 : q3.size = 157) (y8 : q8.size = 122) (x30 : l30.size = 30) (x37 : l37.size = 37) (x34 : l34.size = 34) (x10 : l10.size = 10)
    (e30 : l.extract 0 30 = l30) (e37 : l.extract 0 37 = l37) (e34 : l.extract 0 34 = l34) (e10 : l.extract 0 10 = l10)
    (h1 : l ++ l30 = part) (h2 : part ++ (⟨#[47]⟩ : ByteArray) = p1) (h3 : p1 ++ part = p2) (h4 : p2 ++ (⟨#[47]⟩ : ByteArray) = p3) (h5 : p3 ++ part = p4) (h6 : p4 ++ (⟨#[47]⟩ : ByteArray) = p5) (h7 : p5 ++ l37 = path)
    (h8 : p1 ++ l34 = pre) (h9 : l ++ l10 = tail) (h10 : pre ++ (⟨#[47]⟩ : ByteArray) = q1) (h11 : q1 ++ tail = q2) (h12 : pre ++ (⟨#[120, 47]⟩ : ByteArray) = q3) (h13 : q3 ++ tail = q4) (h14 : q2 ++ (⟨#[120]⟩ : ByteArray) = q5) (h15 : part.extract 0 100 = q6)
    (h16 : path ++ (⟨#[120]⟩ : ByteArray) = q7) (h17 : (⟨#[97, 47]⟩ : ByteArray) ++ part = q8) (h18 : q8 ++ (⟨#[120]⟩ : ByteArray) = q9)
    (f1 : XJ.name_Split.f K q2 = some (pre, tail, 0)) (f2 : XJ.name_Split.f K q4 = some (g1, g2, 2)) (f3 : XJ.name_Split.f K q5 = some (g3, g4, 2)) (f4 : XJ.name_Split.f K q6 = some (⟨#[]⟩, q6, 0))
    (r1 : XJ.tabularylaw08_refused.f path 0 0 = some true) (r2 : XJ.tabularylaw08_refused.f q7 0 2 = some true) (r3 : XJ.tabularylaw08_refused.f q9 2 2 = some true) (r4 : XJ.tabularylaw08_refused.f ⟨#[97, 98, 47, 99, 0]⟩ 4 82 = some true) (r5 : XJ.tabularylaw08_refused.f ⟨#[97, 47, 46, 46]⟩ 2 81 = some true) :
    Calls Tryd.prog 19 #[.string l] w fun e w' => e = .returned (.bool true) ∧ Below w.heap.size w w' := by
  have F1 := Aside0.mk f1
  have F2 := Aside0.mk f2
  have F3 := Aside0.mk f3
  have F4 := Aside0.mk f4
  have R1 := Aside0.mk r1
  have R2 := Aside0.mk r2
  have R3 := Aside0.mk r3
  have R4 := Aside0.mk r4
  have R5 := Aside0.mk r5
  clear f1 f2 f3 f4 r1 r2 r3 r4 r5
  go_enter Tryd.func19, Tryd.ntmps19
  have HB0 := Aside0.mk (Below.refl w.heap.size w)
  go_wp2_with fail
  refine (XJ.name_Split.calls K q2 pre tail 0 _ F1.out).mono ?_
  rintro e w1 ⟨rfl, hb⟩
  have HB1 := Aside0.mk (HB0.out.trans (hb.mono HB0.out.size))
  clear hb
  go_wp2_with fail
  refine (XJ.name_Split.calls K q4 g1 g2 2 _ F2.out).mono ?_
  rintro e w2 ⟨rfl, hb⟩
  have HB2 := Aside0.mk (HB1.out.trans (hb.mono HB1.out.size))
  clear hb
  go_wp2_with fail
  refine (XJ.name_Split.calls K q5 g3 g4 2 _ F3.out).mono ?_
  rintro e w3 ⟨rfl, hb⟩
  have HB3 := Aside0.mk (HB2.out.trans (hb.mono HB2.out.size))
  clear hb
  go_wp2_with fail
  refine (XJ.name_Split.calls K q6 _ q6 0 _ F4.out).mono ?_
  rintro e w4 ⟨rfl, hb⟩
  have HB4 := Aside0.mk (HB3.out.trans (hb.mono HB3.out.size))
  clear hb
  go_wp2_with fail
  refine (XJ.tabularylaw08_refused.calls path 0 0 true _ R1.out).mono ?_
  rintro e w5 ⟨rfl, hb⟩
  have HB5 := Aside0.mk (HB4.out.trans (hb.mono HB4.out.size))
  clear hb
  go_wp2_with fail
  refine (XJ.tabularylaw08_refused.calls q7 0 2 true _ R2.out).mono ?_
  rintro e w6 ⟨rfl, hb⟩
  have HB6 := Aside0.mk (HB5.out.trans (hb.mono HB5.out.size))
  clear hb
  go_wp2_with fail
  refine (XJ.tabularylaw08_refused.calls q9 2 2 true _ R3.out).mono ?_
  rintro e w7 ⟨rfl, hb⟩
  have HB7 := Aside0.mk (HB6.out.trans (hb.mono HB6.out.size))
  clear hb
  go_wp2_with fail
  refine (XJ.tabularylaw08_refused.calls _ 4 82 true _ R4.out).mono ?_
  rintro e w8 ⟨rfl, hb⟩
  have HB8 := Aside0.mk (HB7.out.trans (hb.mono HB7.out.size))
  clear hb
  go_wp2_with fail
  refine (XJ.tabularylaw08_refused.calls _ 2 81 true _ R5.out).mono ?_
  rintro e w9 ⟨rfl, hb⟩
  have HB9 := Aside0.mk (HB8.out.trans (hb.mono HB8.out.size))
  clear hb
  go_wp2
  go_ret
  exact ⟨rfl, HB9.out⟩
def long : ByteArray := ⟨(List.replicate 90 (120 : UInt8)).toArray⟩
def part : ByteArray := long ++ long.extract 0 30
def pathL : ByteArray := (((((part ++ ⟨#[47]⟩) ++ part) ++ ⟨#[47]⟩) ++ part) ++ ⟨#[47]⟩) ++ long.extract 0 37
def pre : ByteArray := (part ++ ⟨#[47]⟩) ++ long.extract 0 34
def tail : ByteArray := long ++ long.extract 0 10
set_option maxRecDepth 100000 in
theorem f1 : XJ.name_Split.f 600 ((pre ++ ⟨#[47]⟩) ++ tail) = some (pre, tail, 0) := by decide +kernel
set_option maxRecDepth 100000 in
theorem f2 : XJ.name_Split.f 600 ((pre ++ ⟨#[120, 47]⟩) ++ tail) = some (⟨#[]⟩, ⟨#[]⟩, 2) := by decide +kernel
set_option maxRecDepth 100000 in
theorem f3 : XJ.name_Split.f 600 (((pre ++ ⟨#[47]⟩) ++ tail) ++ ⟨#[120]⟩) = some (⟨#[]⟩, ⟨#[]⟩, 2) := by decide +kernel
set_option maxRecDepth 100000 in
theorem f4 : XJ.name_Split.f 600 (part.extract 0 100) = some (⟨#[]⟩, part.extract 0 100, 0) := by decide +kernel
set_option maxRecDepth 100000 in
theorem r1 : XJ.tabularylaw08_refused.f pathL 0 0 = some true := by decide +kernel
set_option maxRecDepth 100000 in
theorem r2 : XJ.tabularylaw08_refused.f (pathL ++ ⟨#[120]⟩) 0 2 = some true := by decide +kernel
set_option maxRecDepth 100000 in
theorem r3 : XJ.tabularylaw08_refused.f (((⟨#[97, 47]⟩ : ByteArray) ++ part) ++ ⟨#[120]⟩) 2 2 = some true := by decide +kernel
theorem r4 : XJ.tabularylaw08_refused.f ⟨#[97, 98, 47, 99, 0]⟩ 4 82 = some true := by decide +kernel
theorem r5 : XJ.tabularylaw08_refused.f ⟨#[97, 47, 46, 46]⟩ 2 81 = some true := by decide +kernel
set_option maxRecDepth 1000000 in
set_option maxHeartbeats 2000000 in
theorem edges_any (w : World) : Calls Tryd.prog 19 #[.string long] w fun e w' => e = .returned (.bool true) ∧ Below w.heap.size w w' :=
  edges_walk 600 long (long.extract 0 30) (long.extract 0 37) (long.extract 0 34) (long.extract 0 10) part (part ++ ⟨#[47]⟩) ((part ++ ⟨#[47]⟩) ++ part) (((part ++ ⟨#[47]⟩) ++ part) ++ ⟨#[47]⟩) ((((part ++ ⟨#[47]⟩) ++ part) ++ ⟨#[47]⟩) ++ part) (((((part ++ ⟨#[47]⟩) ++ part) ++ ⟨#[47]⟩) ++ part) ++ ⟨#[47]⟩) pathL pre tail
    (pre ++ ⟨#[47]⟩) ((pre ++ ⟨#[47]⟩) ++ tail) (pre ++ ⟨#[120, 47]⟩) ((pre ++ ⟨#[120, 47]⟩) ++ tail) (((pre ++ ⟨#[47]⟩) ++ tail) ++ ⟨#[120]⟩) (part.extract 0 100) (pathL ++ ⟨#[120]⟩) ((⟨#[97, 47]⟩ : ByteArray) ++ part) (((⟨#[97, 47]⟩ : ByteArray) ++ part) ++ ⟨#[120]⟩) w ⟨#[]⟩ ⟨#[]⟩ ⟨#[]⟩ ⟨#[]⟩
    (by decide +kernel) (by decide +kernel) (by decide +kernel) (by decide +kernel) (by decide +kernel) (by decide +kernel) (by decide +kernel) (by decide +kernel) (by decide +kernel) (by decide +kernel) (by decide +kernel) (by decide +kernel) (by decide +kernel) (by decide +kernel) (by decide +kernel) (by decide +kernel) (by decide +kernel) (by decide +kernel)
    rfl rfl rfl rfl rfl rfl rfl rfl rfl rfl rfl rfl rfl rfl rfl rfl rfl rfl rfl rfl rfl rfl f1 f2 f3 f4 r1 r2 (by decide +kernel) r4 r5
end Go.Proofs.YtnceocjgcdcpgaaDoor.Kn
end

-- PRINTED by print.py (a twelfth state) out of the translation. Not trusted: Lean checks it.
section
namespace Go.Proofs.YtnceocjgcdcpgaaDoor.XK
open Go.RowKit Go.Proofs.YtnceocjgcdcpgaaDoorW.PrintWords Go.Proofs.YtnceocjgcdcpgaaDoorW.PrintLast Go.Proofs.YtnceocjgcdcpgaaDoorW.PrintMore
attribute [local go_sem] max2_int min2_int max_two min_two max_three min_three max_four min_four   -- for this text's walks alone
def errW : Option Int → Value
  | none => .nilIface
  | some c => .iface 0 (.int .i64 c)
theorem errW_none : errW none = .nilIface := rfl
theorem errW_some (c : Int) : errW (some c) = .iface 0 (.int .i64 c) := rfl
theorem info9 : (Tryd.prog.info? 9).map (fun i => (i.zero, i.size, i.bytes)) = some (some (.string ⟨#[]⟩), 1, 16) := by kernel_rfl
-- the values' own types
end Go.Proofs.YtnceocjgcdcpgaaDoor.XK
end

-- PRINTED by print.py (a twelfth state) out of the translation. Not trusted: Lean checks it.
section
namespace Go.Proofs.YtnceocjgcdcpgaaDoor.XK
open Go.RowKit Go.Proofs.YtnceocjgcdcpgaaDoorW.PrintWords Go.Proofs.YtnceocjgcdcpgaaDoorW.PrintLast Go.Proofs.YtnceocjgcdcpgaaDoorW.PrintMore
attribute [local go_sem] max2_int min2_int max_two min_two max_three min_three max_four min_four   -- for this text's walks alone
def name_Lead.f (a0 : ByteArray) (a1 : ByteArray) : Option (ByteArray × Int) := some (bytesOfL (Nm.lead a0.data.toList a1.data.toList).1, ((Nm.lead a0.data.toList a1.data.toList).2 : Int))
theorem name_Lead.calls (a0 : ByteArray) (a1 : ByteArray) (r1 : ByteArray) (r2 : Int) (w : World) (h : name_Lead.f a0 a1 = some (r1, r2)) :
    Calls Tryd.prog 8 #[.string a0, .string a1] w fun e w' => e = .returned (.tuple #[.string r1, .int .i64 r2]) ∧ Below w.heap.size w w' := by
  obtain ⟨rfl, rfl⟩ := Prod.mk.inj (Option.some.inj h)
  exact LeadW.lead_any a0 a1 w
def strings_IndexByte.f (a0 : ByteArray) (a1 : Int) : Option Int := some (Lib.indexByte a0.data.toList a1.toNat.toUInt8)
theorem strings_IndexByte.calls (a0 : ByteArray) (a1 : Int) (r : Int) (w : World) (h : strings_IndexByte.f a0 a1 = some r) :
    Calls Tryd.prog 20 #[.string a0, .int .u8 a1] w fun e w' => e = .returned (.int .i64 r) ∧ Drawn0 w w' := by
  obtain rfl := Option.some.inj h
  refine (Tryd.strings_IndexByte a0 a1 w).mono ?_
  rintro e w' ⟨rfl, rfl⟩
  exact ⟨rfl, Drawn0.refl _⟩
def cmp_isNaN_string.f (a0 : ByteArray) : Option (Bool) := some (a0.toList != a0.toList)
set_option maxHeartbeats 8000000 in
set_option maxRecDepth 100000 in
theorem cmp_isNaN_string.calls (a0 : ByteArray) (r : Bool) (w : World) (h : cmp_isNaN_string.f a0 = some r) :
    Calls Tryd.prog 39 #[.string a0] w fun e w' => e = .returned (.bool r) ∧ Drawn0 w w' := by
  have H : (some (a0.toList != a0.toList)) = some r := h
  clear h
  obtain rfl := Option.some.inj H
  go_enter Tryd.func39, Tryd.ntmps39
  go_wp2
  go_ret
  exact ⟨by first | rfl | (simp; done) | (simp [*]; done), by repeat (first | exact Drawn0.refl _ | apply Drawn0.step)⟩
def cmp_Compare_string.f (a0 : ByteArray) (a1 : ByteArray) : Option (Int) := (cmp_isNaN_string.f a0).bind fun t101 => ((cmp_isNaN_string.f a1).bind fun t102 => (if t101 = true then (if t102 = true then (some 0) else (some (-1))) else (if t102 = true then (some 1) else (if (Op.bytesLess a0.toList a1.toList) = true then (some (-1)) else (if (Op.bytesLess a1.toList a0.toList) = true then (some 1) else (some 0))))))
set_option maxHeartbeats 8000000 in
set_option maxRecDepth 100000 in
theorem cmp_Compare_string.calls (a0 : ByteArray) (a1 : ByteArray) (r : Int) (w : World) (h : cmp_Compare_string.f a0 a1 = some r) :
    Calls Tryd.prog 28 #[.string a0, .string a1] w fun e w' => e = .returned (.int .i64 r) ∧ Drawn0 w w' := by
  have H : ((cmp_isNaN_string.f a0).bind fun t101 => ((cmp_isNaN_string.f a1).bind fun t102 => (if t101 = true then (if t102 = true then (some 0) else (some (-1))) else (if t102 = true then (some 1) else (if (Op.bytesLess a0.toList a1.toList) = true then (some (-1)) else (if (Op.bytesLess a1.toList a0.toList) = true then (some 1) else (some 0))))))) = some r := h
  clear h
  replace H := Option.bind_eq_some_iff.mp H
  obtain ⟨t101, A30, H⟩ := H
  replace H : ((cmp_isNaN_string.f a1).bind fun t102 => (if t101 = true then (if t102 = true then (some 0) else (some (-1))) else (if t102 = true then (some 1) else (if (Op.bytesLess a0.toList a1.toList) = true then (some (-1)) else (if (Op.bytesLess a1.toList a0.toList) = true then (some 1) else (some 0)))))) = some r := H
  have A3 := Aside0.mk A30
  clear A30
  replace H := Option.bind_eq_some_iff.mp H
  obtain ⟨t102, A40, H⟩ := H
  replace H : (if t101 = true then (if t102 = true then (some 0) else (some (-1))) else (if t102 = true then (some 1) else (if (Op.bytesLess a0.toList a1.toList) = true then (some (-1)) else (if (Op.bytesLess a1.toList a0.toList) = true then (some 1) else (some 0))))) = some r := H
  have A4 := Aside0.mk A40
  clear A40
  by_cases c5 : t101 = true
  · subst c5
    have H1 : (if t102 = true then (some 0) else (some (-1))) = some r := by rw [if_pos rfl] at H; exact H
    clear H
    have H := H1
    clear H1
    by_cases c6 : t102 = true
    · subst c6
      have H1 : (some 0) = some r := by rw [if_pos rfl] at H; exact H
      clear H
      have H := H1
      clear H1
      obtain rfl := Option.some.inj H
      go_enter Tryd.func28, Tryd.ntmps28
      go_wp2_with (first | ((with_reducible refine gate_callee (f := 39) rfl ?_); refine goesL_ (some 8) rfl rfl Tryd.func39 (by kernel_rfl) rfl #[.string a0] rfl (by (try simp only [List.map_toArray, List.map_cons, List.map_nil]); first | done | rfl | (simp only [List.length_drop, List.length_take]; rfl)) ?_; (with_reducible refine (cmp_isNaN_string.calls a0 true _ A3.out).mono ?_); rintro e w' ⟨rfl, ⟨nd, rfl⟩⟩; refine ⟨_, rfl, ?_⟩) | ((with_reducible refine gate_callee (f := 39) rfl ?_); refine goesL_ (some 10) rfl rfl Tryd.func39 (by kernel_rfl) rfl #[.string a1] rfl (by (try simp only [List.map_toArray, List.map_cons, List.map_nil]); first | done | rfl | (simp only [List.length_drop, List.length_take]; rfl)) ?_; (with_reducible refine (cmp_isNaN_string.calls a1 true _ A4.out).mono ?_); rintro e w' ⟨rfl, ⟨nd, rfl⟩⟩; refine ⟨_, rfl, ?_⟩))
      go_ret
      exact ⟨by first | rfl | (simp; done) | (simp [*]; done), by repeat (first | exact Drawn0.refl _ | apply Drawn0.step)⟩
    · replace c6 := Bool.eq_false_iff.mpr c6
      subst c6
      have H1 : (some (-1)) = some r := by rw [if_neg (show ¬ (false = true) by decide)] at H; exact H
      clear H
      have H := H1
      clear H1
      obtain rfl := Option.some.inj H
      go_enter Tryd.func28, Tryd.ntmps28
      go_wp2_with (first | ((with_reducible refine gate_callee (f := 39) rfl ?_); refine goesL_ (some 8) rfl rfl Tryd.func39 (by kernel_rfl) rfl #[.string a0] rfl (by (try simp only [List.map_toArray, List.map_cons, List.map_nil]); first | done | rfl | (simp only [List.length_drop, List.length_take]; rfl)) ?_; (with_reducible refine (cmp_isNaN_string.calls a0 true _ A3.out).mono ?_); rintro e w' ⟨rfl, ⟨nd, rfl⟩⟩; refine ⟨_, rfl, ?_⟩) | ((with_reducible refine gate_callee (f := 39) rfl ?_); refine goesL_ (some 10) rfl rfl Tryd.func39 (by kernel_rfl) rfl #[.string a1] rfl (by (try simp only [List.map_toArray, List.map_cons, List.map_nil]); first | done | rfl | (simp only [List.length_drop, List.length_take]; rfl)) ?_; (with_reducible refine (cmp_isNaN_string.calls a1 false _ A4.out).mono ?_); rintro e w' ⟨rfl, ⟨nd, rfl⟩⟩; refine ⟨_, rfl, ?_⟩))
      go_ret
      exact ⟨by first | rfl | (simp; done) | (simp [*]; done), by repeat (first | exact Drawn0.refl _ | apply Drawn0.step)⟩
  · replace c5 := Bool.eq_false_iff.mpr c5
    subst c5
    have H1 : (if t102 = true then (some 1) else (if (Op.bytesLess a0.toList a1.toList) = true then (some (-1)) else (if (Op.bytesLess a1.toList a0.toList) = true then (some 1) else (some 0)))) = some r := by rw [if_neg (show ¬ (false = true) by decide)] at H; exact H
    clear H
    have H := H1
    clear H1
    by_cases c7 : t102 = true
    · subst c7
      have H1 : (some 1) = some r := by rw [if_pos rfl] at H; exact H
      clear H
      have H := H1
      clear H1
      obtain rfl := Option.some.inj H
      go_enter Tryd.func28, Tryd.ntmps28
      go_wp2_with (first | ((with_reducible refine gate_callee (f := 39) rfl ?_); refine goesL_ (some 8) rfl rfl Tryd.func39 (by kernel_rfl) rfl #[.string a0] rfl (by (try simp only [List.map_toArray, List.map_cons, List.map_nil]); first | done | rfl | (simp only [List.length_drop, List.length_take]; rfl)) ?_; (with_reducible refine (cmp_isNaN_string.calls a0 false _ A3.out).mono ?_); rintro e w' ⟨rfl, ⟨nd, rfl⟩⟩; refine ⟨_, rfl, ?_⟩) | ((with_reducible refine gate_callee (f := 39) rfl ?_); refine goesL_ (some 10) rfl rfl Tryd.func39 (by kernel_rfl) rfl #[.string a1] rfl (by (try simp only [List.map_toArray, List.map_cons, List.map_nil]); first | done | rfl | (simp only [List.length_drop, List.length_take]; rfl)) ?_; (with_reducible refine (cmp_isNaN_string.calls a1 true _ A4.out).mono ?_); rintro e w' ⟨rfl, ⟨nd, rfl⟩⟩; refine ⟨_, rfl, ?_⟩))
      go_ret
      exact ⟨by first | rfl | (simp; done) | (simp [*]; done), by repeat (first | exact Drawn0.refl _ | apply Drawn0.step)⟩
    · replace c7 := Bool.eq_false_iff.mpr c7
      subst c7
      have H1 : (if (Op.bytesLess a0.toList a1.toList) = true then (some (-1)) else (if (Op.bytesLess a1.toList a0.toList) = true then (some 1) else (some 0))) = some r := by rw [if_neg (show ¬ (false = true) by decide)] at H; exact H
      clear H
      have H := H1
      clear H1
      by_cases c8 : (Op.bytesLess a0.toList a1.toList) = true
      · rw [if_pos c8] at H
        have c8b0 : (Op.bytesLess a0.toList a1.toList) = true := c8
        clear c8
        obtain rfl := Option.some.inj H
        go_enter Tryd.func28, Tryd.ntmps28
        go_wp2_with (first | ((with_reducible refine gate_callee (f := 39) rfl ?_); refine goesL_ (some 8) rfl rfl Tryd.func39 (by kernel_rfl) rfl #[.string a0] rfl (by (try simp only [List.map_toArray, List.map_cons, List.map_nil]); first | done | rfl | (simp only [List.length_drop, List.length_take]; rfl)) ?_; (with_reducible refine (cmp_isNaN_string.calls a0 false _ A3.out).mono ?_); rintro e w' ⟨rfl, ⟨nd, rfl⟩⟩; refine ⟨_, rfl, ?_⟩) | ((with_reducible refine gate_callee (f := 39) rfl ?_); refine goesL_ (some 10) rfl rfl Tryd.func39 (by kernel_rfl) rfl #[.string a1] rfl (by (try simp only [List.map_toArray, List.map_cons, List.map_nil]); first | done | rfl | (simp only [List.length_drop, List.length_take]; rfl)) ?_; (with_reducible refine (cmp_isNaN_string.calls a1 false _ A4.out).mono ?_); rintro e w' ⟨rfl, ⟨nd, rfl⟩⟩; refine ⟨_, rfl, ?_⟩))
        go_ret
        exact ⟨by first | rfl | (simp; done) | (simp [*]; done), by repeat (first | exact Drawn0.refl _ | apply Drawn0.step)⟩
      · rw [if_neg c8] at H
        have c8b0 : (Op.bytesLess a0.toList a1.toList) = false := by simpa using c8
        clear c8
        by_cases c9 : (Op.bytesLess a1.toList a0.toList) = true
        · rw [if_pos c9] at H
          have c9b0 : (Op.bytesLess a1.toList a0.toList) = true := c9
          clear c9
          obtain rfl := Option.some.inj H
          go_enter Tryd.func28, Tryd.ntmps28
          go_wp2_with (first | ((with_reducible refine gate_callee (f := 39) rfl ?_); refine goesL_ (some 8) rfl rfl Tryd.func39 (by kernel_rfl) rfl #[.string a0] rfl (by (try simp only [List.map_toArray, List.map_cons, List.map_nil]); first | done | rfl | (simp only [List.length_drop, List.length_take]; rfl)) ?_; (with_reducible refine (cmp_isNaN_string.calls a0 false _ A3.out).mono ?_); rintro e w' ⟨rfl, ⟨nd, rfl⟩⟩; refine ⟨_, rfl, ?_⟩) | ((with_reducible refine gate_callee (f := 39) rfl ?_); refine goesL_ (some 10) rfl rfl Tryd.func39 (by kernel_rfl) rfl #[.string a1] rfl (by (try simp only [List.map_toArray, List.map_cons, List.map_nil]); first | done | rfl | (simp only [List.length_drop, List.length_take]; rfl)) ?_; (with_reducible refine (cmp_isNaN_string.calls a1 false _ A4.out).mono ?_); rintro e w' ⟨rfl, ⟨nd, rfl⟩⟩; refine ⟨_, rfl, ?_⟩))
          go_ret
          exact ⟨by first | rfl | (simp; done) | (simp [*]; done), by repeat (first | exact Drawn0.refl _ | apply Drawn0.step)⟩
        · rw [if_neg c9] at H
          have c9b0 : (Op.bytesLess a1.toList a0.toList) = false := by simpa using c9
          clear c9
          obtain rfl := Option.some.inj H
          go_enter Tryd.func28, Tryd.ntmps28
          go_wp2_with (first | ((with_reducible refine gate_callee (f := 39) rfl ?_); refine goesL_ (some 8) rfl rfl Tryd.func39 (by kernel_rfl) rfl #[.string a0] rfl (by (try simp only [List.map_toArray, List.map_cons, List.map_nil]); first | done | rfl | (simp only [List.length_drop, List.length_take]; rfl)) ?_; (with_reducible refine (cmp_isNaN_string.calls a0 false _ A3.out).mono ?_); rintro e w' ⟨rfl, ⟨nd, rfl⟩⟩; refine ⟨_, rfl, ?_⟩) | ((with_reducible refine gate_callee (f := 39) rfl ?_); refine goesL_ (some 10) rfl rfl Tryd.func39 (by kernel_rfl) rfl #[.string a1] rfl (by (try simp only [List.map_toArray, List.map_cons, List.map_nil]); first | done | rfl | (simp only [List.length_drop, List.length_take]; rfl)) ?_; (with_reducible refine (cmp_isNaN_string.calls a1 false _ A4.out).mono ?_); rintro e w' ⟨rfl, ⟨nd, rfl⟩⟩; refine ⟨_, rfl, ?_⟩))
          go_ret
          exact ⟨by first | rfl | (simp; done) | (simp [*]; done), by repeat (first | exact Drawn0.refl _ | apply Drawn0.step)⟩
mutual
def name_Compare.l0 : Nat → ByteArray → ByteArray → Option (Int)
  | 0, _, _ => none
  | k + 1, x0, x1 => (strings_IndexByte.f x0 47).bind fun t103 => ((strings_IndexByte.f x1 47).bind fun t104 => (if t103 ≥ 0 then (if 0 ≤ t103 then (if t103 ≤ (x0.size : Int) then (name_Compare.j1 k x0 x1 t103 t104 (x0.extract 0 (t103 : Int).toNat) x1) else (none)) else (none)) else (name_Compare.j1 k x0 x1 t103 t104 x0 x1)))
def name_Compare.j1 : Nat → ByteArray → ByteArray → Int → Int → ByteArray → ByteArray → Option (Int)
  | 0, _, _, _, _, _, _ => none
  | k + 1, x0, x1, x5, x6, x7, x8 => if x6 ≥ 0 then (if 0 ≤ x6 then (if x6 ≤ (x1.size : Int) then (name_Compare.j2 k x0 x1 x5 x6 x7 (x1.extract 0 (x6 : Int).toNat)) else (none)) else (none)) else (name_Compare.j2 k x0 x1 x5 x6 x7 x8)
def name_Compare.j2 : Nat → ByteArray → ByteArray → Int → Int → ByteArray → ByteArray → Option (Int)
  | 0, _, _, _, _, _, _ => none
  | k + 1, x0, x1, x5, x6, x7, x8 => (cmp_Compare_string.f x7 x8).bind fun t105 => (if t105 = 0 then (if x5 < 0 then (name_Compare.j3 k x0 x1 x5 x6 (decide (x6 < 0))) else (name_Compare.j3 k x0 x1 x5 x6 false)) else (some t105))
def name_Compare.j3 : Nat → ByteArray → ByteArray → Int → Int → Bool → Option (Int)
  | 0, _, _, _, _, _ => none
  | k + 1, x0, x1, x5, x6, x32 => if x32 = true then (some 0) else (if x5 < 0 then (some (-1)) else (if x6 < 0 then (some 1) else (if 0 ≤ (wrap64 (x5 + 1)) then (if (wrap64 (x5 + 1)) ≤ (x0.size : Int) then (if 0 ≤ (wrap64 (x6 + 1)) then (if (wrap64 (x6 + 1)) ≤ (x1.size : Int) then (name_Compare.l0 k (x0.extract ((wrap64 (x5 + 1)) : Int).toNat x0.size) (x1.extract ((wrap64 (x6 + 1)) : Int).toNat x1.size)) else (none)) else (none)) else (none)) else (none))))
end
def name_Compare.f (k : Nat) (a0 : ByteArray) (a1 : ByteArray) : Option (Int) := name_Compare.l0 k a0 a1
set_option maxHeartbeats 8000000 in
set_option maxRecDepth 100000 in
theorem name_Compare.calls (k : Nat) (a0 : ByteArray) (a1 : ByteArray) (r : Int) (w : World) (h : name_Compare.f k a0 a1 = some r) :
    Calls Tryd.prog 11 #[.string a0, .string a1] w fun e w' => e = .returned (.int .i64 r) ∧ Drawn0 w w' := by
  have H : (name_Compare.l0 k a0 a1) = some r := h
  clear h
  have H' := Aside0.mk H
  clear H
  go_enter Tryd.func11, Tryd.ntmps11
  go_wp2
  repeat (go_quiet (fail); try go_wp2)
  go_loopg [0, 1] k (fun kq v0 v1 w' => ∃ (x0_1 : ByteArray) (x1_1 : ByteArray), v0 = .string x0_1 ∧ v1 = .string x1_1 ∧ Aside0 (name_Compare.l0 kq x0_1 x1_1 = some r) ∧ Aside0 (kq ≤ k) ∧ Drawn0 w w')
  case atStart => exact ⟨(a0), (a1), (by first | rfl | (simp; done) | (simp [*]; done)), (by first | rfl | (simp; done) | (simp [*]; done)), H', ⟨Nat.le_refl _⟩, by repeat (first | exact Drawn0.refl _ | apply Drawn0.step)⟩
  case round =>
    clear H'
    try clear c1
    try clear p2
    obtain ⟨x0_1, x1_1, rfl, rfl, HA, HK1, ⟨m1, rfl⟩⟩ := hrel
    cases gk with
    | zero => exact absurd HA.out (by simp [name_Compare.l0])
    | succ k1 =>
      have H := HA.out
      clear HA
      simp only [name_Compare.l0] at H
      replace H := Option.bind_eq_some_iff.mp H
      obtain ⟨t103, A30, H⟩ := H
      replace H : ((strings_IndexByte.f x1_1 47).bind fun t104 => (if t103 ≥ 0 then (if 0 ≤ t103 then (if t103 ≤ (x0_1.size : Int) then (name_Compare.j1 k1 x0_1 x1_1 t103 t104 (x0_1.extract 0 (t103 : Int).toNat) x1_1) else (none)) else (none)) else (name_Compare.j1 k1 x0_1 x1_1 t103 t104 x0_1 x1_1))) = some r := H
      have A3 := Aside0.mk A30
      clear A30
      replace H := Option.bind_eq_some_iff.mp H
      obtain ⟨t104, A40, H⟩ := H
      replace H : (if t103 ≥ 0 then (if 0 ≤ t103 then (if t103 ≤ (x0_1.size : Int) then (name_Compare.j1 k1 x0_1 x1_1 t103 t104 (x0_1.extract 0 (t103 : Int).toNat) x1_1) else (none)) else (none)) else (name_Compare.j1 k1 x0_1 x1_1 t103 t104 x0_1 x1_1)) = some r := H
      have A4 := Aside0.mk A40
      clear A40
      have HC5 := Aside0.mk H
      clear H
      go_upto_if 17 with (first | (go_at_call 20; (with_reducible refine (strings_IndexByte.calls x0_1 47 t103 _ A3.out).mono ?_); rintro e w' ⟨rfl, ⟨nd, rfl⟩⟩; (try first | exact ⟨rfl, _, World.drewN_drewN _ _ _⟩ | exact ⟨rfl, _, Eq.trans (World.drewN_drewN _ _ _) (congrArg (World.drewN _) (Nat.add_assoc _ _ _))⟩)) | (go_at_call 20; (with_reducible refine (strings_IndexByte.calls x1_1 47 t104 _ A4.out).mono ?_); rintro e w' ⟨rfl, ⟨nd, rfl⟩⟩; (try first | exact ⟨rfl, _, World.drewN_drewN _ _ _⟩ | exact ⟨rfl, _, Eq.trans (World.drewN_drewN _ _ _) (congrArg (World.drewN _) (Nat.add_assoc _ _ _))⟩)))
      repeat (go_quiet (first | (go_at_call 20; (with_reducible refine (strings_IndexByte.calls x0_1 47 t103 _ A3.out).mono ?_); rintro e w' ⟨rfl, ⟨nd, rfl⟩⟩; (try first | exact ⟨rfl, _, World.drewN_drewN _ _ _⟩ | exact ⟨rfl, _, Eq.trans (World.drewN_drewN _ _ _) (congrArg (World.drewN _) (Nat.add_assoc _ _ _))⟩)) | (go_at_call 20; (with_reducible refine (strings_IndexByte.calls x1_1 47 t104 _ A4.out).mono ?_); rintro e w' ⟨rfl, ⟨nd, rfl⟩⟩; (try first | exact ⟨rfl, _, World.drewN_drewN _ _ _⟩ | exact ⟨rfl, _, Eq.trans (World.drewN_drewN _ _ _) (congrArg (World.drewN _) (Nat.add_assoc _ _ _))⟩))); go_upto_if 17 with (first | (go_at_call 20; (with_reducible refine (strings_IndexByte.calls x0_1 47 t103 _ A3.out).mono ?_); rintro e w' ⟨rfl, ⟨nd, rfl⟩⟩; (try first | exact ⟨rfl, _, World.drewN_drewN _ _ _⟩ | exact ⟨rfl, _, Eq.trans (World.drewN_drewN _ _ _) (congrArg (World.drewN _) (Nat.add_assoc _ _ _))⟩)) | (go_at_call 20; (with_reducible refine (strings_IndexByte.calls x1_1 47 t104 _ A4.out).mono ?_); rintro e w' ⟨rfl, ⟨nd, rfl⟩⟩; (try first | exact ⟨rfl, _, World.drewN_drewN _ _ _⟩ | exact ⟨rfl, _, Eq.trans (World.drewN_drewN _ _ _) (congrArg (World.drewN _) (Nat.add_assoc _ _ _))⟩))))
      (try simp only [Act.put, List.setIfInBounds_toArray, List.set_cons_zero, List.set_cons_succ])
      go_cut [7] (fun v7 wc => ∃ (kq : Nat) (x7_4 : ByteArray), v7 = .string x7_4 ∧ Aside0 (name_Compare.j1 kq x0_1 x1_1 t103 t104 x7_4 x1_1 = some r) ∧ Aside0 (kq ≤ k1) ∧ Drawn0 w wc)
      case first =>
        have H := HC5.out
        clear HC5
        by_cases c6 : t103 ≥ 0
        · rw [if_pos c6] at H
          have c6b0 : decide (0 ≤ t103) = true := decide_eq_true c6
          clear c6
          (first | rw [c6b0] | (simp only [i64_w, i32_w]; rw [c6b0]) | skip)
          by_cases c7 : 0 ≤ t103
          · rw [if_pos c7] at H
            have c7b0 := eq_true c7
            have c7b1 : decide (0 ≤ t103) = true := decide_eq_true c7
            clear c7
            by_cases c8 : t103 ≤ (x0_1.size : Int)
            · rw [if_pos c8] at H
              have c8b0 := eq_true c8
              have c8b1 : decide (t103 ≤ (x0_1.size : Int)) = true := decide_eq_true c8
              clear c8
              have H' := Aside0.mk H
              clear H
              go_wp2
              repeat (go_quiet (fail); try go_wp2)
              go_meet
              case rel => exact ⟨_, (x0_1.extract 0 (t103 : Int).toNat), (by first | rfl | (simp; done) | (simp [*]; done)), H', ⟨by have := HK1.out; first | omega | exact Nat.le_refl _⟩, by repeat (first | exact Drawn0.refl _ | apply Drawn0.step)⟩
            · rw [if_neg c8] at H
              exact absurd H (by simp)
          · rw [if_neg c7] at H
            exact absurd H (by simp)
        · rw [if_neg c6] at H
          have c6b0 : decide (0 ≤ t103) = false := decide_eq_false c6
          clear c6
          (first | rw [c6b0] | (simp only [i64_w, i32_w]; rw [c6b0]) | skip)
          have H' := Aside0.mk H
          clear H
          go_wp2
          repeat (go_quiet (fail); try go_wp2)
          go_meet
          case rel => exact ⟨_, (x0_1), (by first | rfl | (simp; done) | (simp [*]; done)), H', ⟨by have := HK1.out; first | omega | exact Nat.le_refl _⟩, by repeat (first | exact Drawn0.refl _ | apply Drawn0.step)⟩
      case rest =>
        clear HC5
        try clear c1
        try clear p2
        try clear c6
        try clear c6b0
        try clear c7
        try clear c7b0
        try clear c7b1
        try clear c8
        try clear c8b0
        try clear c8b1
        try clear p2
        obtain ⟨kq, x7_4, rfl, HA, HJ4, ⟨mc4, rfl⟩⟩ := hcut
        cases kq with
        | zero => exact absurd HA.out (by simp [name_Compare.j1])
        | succ kj4 =>
          have H := HA.out
          clear HA
          simp only [name_Compare.j1] at H
          have HC9 := Aside0.mk H
          clear H
          go_upto_if 22 with (fail)
          repeat (go_quiet (fail); go_upto_if 22 with (fail))
          go_cut [8] (fun v8 wc => ∃ (kq : Nat) (x8_8 : ByteArray), v8 = .string x8_8 ∧ Aside0 (name_Compare.j2 kq x0_1 x1_1 t103 t104 x7_4 x8_8 = some r) ∧ Aside0 (kq ≤ kj4) ∧ Drawn0 w wc)
          case first =>
            have H := HC9.out
            clear HC9
            by_cases c10 : t104 ≥ 0
            · rw [if_pos c10] at H
              have c10b0 : decide (0 ≤ t104) = true := decide_eq_true c10
              clear c10
              (first | rw [c10b0] | (simp only [i64_w, i32_w]; rw [c10b0]) | skip)
              by_cases c11 : 0 ≤ t104
              · rw [if_pos c11] at H
                have c11b0 := eq_true c11
                have c11b1 : decide (0 ≤ t104) = true := decide_eq_true c11
                clear c11
                by_cases c12 : t104 ≤ (x1_1.size : Int)
                · rw [if_pos c12] at H
                  have c12b0 := eq_true c12
                  have c12b1 : decide (t104 ≤ (x1_1.size : Int)) = true := decide_eq_true c12
                  clear c12
                  have H' := Aside0.mk H
                  clear H
                  go_wp2
                  repeat (go_quiet (fail); try go_wp2)
                  go_meet
                  case rel => exact ⟨_, (x1_1.extract 0 (t104 : Int).toNat), (by first | rfl | (simp; done) | (simp [*]; done)), H', ⟨by have := HK1.out; have := HJ4.out; first | omega | exact Nat.le_refl _⟩, by repeat (first | exact Drawn0.refl _ | apply Drawn0.step)⟩
                · rw [if_neg c12] at H
                  exact absurd H (by simp)
              · rw [if_neg c11] at H
                exact absurd H (by simp)
            · rw [if_neg c10] at H
              have c10b0 : decide (0 ≤ t104) = false := decide_eq_false c10
              clear c10
              (first | rw [c10b0] | (simp only [i64_w, i32_w]; rw [c10b0]) | skip)
              have H' := Aside0.mk H
              clear H
              go_wp2
              repeat (go_quiet (fail); try go_wp2)
              go_meet
              case rel => exact ⟨_, (x1_1), (by first | rfl | (simp; done) | (simp [*]; done)), H', ⟨by have := HK1.out; have := HJ4.out; first | omega | exact Nat.le_refl _⟩, by repeat (first | exact Drawn0.refl _ | apply Drawn0.step)⟩
          case rest =>
            clear HC9
            try clear c1
            try clear p2
            try clear c4
            try clear c6
            try clear c6b0
            try clear c7
            try clear c7b0
            try clear c7b1
            try clear c8
            try clear c8b0
            try clear c8b1
            try clear c10
            try clear c10b0
            try clear c11
            try clear c11b0
            try clear c11b1
            try clear c12
            try clear c12b0
            try clear c12b1
            try clear p2
            obtain ⟨kq, x8_8, rfl, HA, HJ8, ⟨mc8, rfl⟩⟩ := hcut
            cases kq with
            | zero => exact absurd HA.out (by simp [name_Compare.j2])
            | succ kj8 =>
              have H := HA.out
              clear HA
              simp only [name_Compare.j2] at H
              replace H := Option.bind_eq_some_iff.mp H
              obtain ⟨t105, A130, H⟩ := H
              replace H : (if t105 = 0 then (if t103 < 0 then (name_Compare.j3 kj8 x0_1 x1_1 t103 t104 (decide (t104 < 0))) else (name_Compare.j3 kj8 x0_1 x1_1 t103 t104 false)) else (some t105)) = some r := H
              have A13 := Aside0.mk A130
              clear A130
              by_cases c14 : t105 = 0
              · rw [if_pos c14] at H
                have c14b0 : (t105 == 0) = true := beq_iff_eq.mpr c14
                have c14b1 : (t105 != 0) = false := bne_eq_false_iff_eq.mpr c14
                clear c14
                have HC15 := Aside0.mk H
                clear H
                go_upto_region 10 with (first | (go_at_call 28; (with_reducible refine (cmp_Compare_string.calls x7_4 x8_8 t105 _ A13.out).mono ?_); rintro e w' ⟨rfl, ⟨nd, rfl⟩⟩; (try first | exact ⟨rfl, _, World.drewN_drewN _ _ _⟩ | exact ⟨rfl, _, Eq.trans (World.drewN_drewN _ _ _) (congrArg (World.drewN _) (Nat.add_assoc _ _ _))⟩)))
                repeat (go_quiet (first | (go_at_call 28; (with_reducible refine (cmp_Compare_string.calls x7_4 x8_8 t105 _ A13.out).mono ?_); rintro e w' ⟨rfl, ⟨nd, rfl⟩⟩; (try first | exact ⟨rfl, _, World.drewN_drewN _ _ _⟩ | exact ⟨rfl, _, Eq.trans (World.drewN_drewN _ _ _) (congrArg (World.drewN _) (Nat.add_assoc _ _ _))⟩))); go_upto_region 10 with (first | (go_at_call 28; (with_reducible refine (cmp_Compare_string.calls x7_4 x8_8 t105 _ A13.out).mono ?_); rintro e w' ⟨rfl, ⟨nd, rfl⟩⟩; (try first | exact ⟨rfl, _, World.drewN_drewN _ _ _⟩ | exact ⟨rfl, _, Eq.trans (World.drewN_drewN _ _ _) (congrArg (World.drewN _) (Nat.add_assoc _ _ _))⟩))))
                (try simp only [Act.put, List.setIfInBounds_toArray, List.set_cons_zero, List.set_cons_succ])
                go_cut [32] (fun v32 wc => ∃ (kq : Nat) (x32_14 : Bool), v32 = .bool x32_14 ∧ Aside0 (name_Compare.j3 kq x0_1 x1_1 t103 t104 x32_14 = some r) ∧ Aside0 (kq ≤ kj8) ∧ Drawn0 w wc)
                case first =>
                  have H := HC15.out
                  clear HC15
                  by_cases c16 : t103 < 0
                  · rw [if_pos c16] at H
                    have c16b0 : decide (t103 < 0) = true := decide_eq_true c16
                    clear c16
                    (first | rw [c16b0] | (simp only [i64_w, i32_w]; rw [c16b0]) | skip)
                    have H' := Aside0.mk H
                    clear H
                    go_wp2
                    repeat (go_quiet (fail); try go_wp2)
                    go_meet
                    case rel => exact ⟨_, (decide (t104 < 0)), (by first | rfl | (simp; done) | (simp [*]; done)), H', ⟨by have := HK1.out; have := HJ4.out; have := HJ8.out; first | omega | exact Nat.le_refl _⟩, by repeat (first | exact Drawn0.refl _ | apply Drawn0.step)⟩
                  · rw [if_neg c16] at H
                    have c16b0 : decide (t103 < 0) = false := decide_eq_false c16
                    clear c16
                    (first | rw [c16b0] | (simp only [i64_w, i32_w]; rw [c16b0]) | skip)
                    have H' := Aside0.mk H
                    clear H
                    go_wp2
                    repeat (go_quiet (fail); try go_wp2)
                    go_meet
                    case rel => exact ⟨_, (false), (by first | rfl | (simp; done) | (simp [*]; done)), H', ⟨by have := HK1.out; have := HJ4.out; have := HJ8.out; first | omega | exact Nat.le_refl _⟩, by repeat (first | exact Drawn0.refl _ | apply Drawn0.step)⟩
                case rest =>
                  clear HC15
                  try clear c1
                  try clear p2
                  try clear c4
                  try clear c6
                  try clear c6b0
                  try clear c7
                  try clear c7b0
                  try clear c7b1
                  try clear c8
                  try clear c8b0
                  try clear c8b1
                  try clear c10
                  try clear c10b0
                  try clear c11
                  try clear c11b0
                  try clear c11b1
                  try clear c12
                  try clear c12b0
                  try clear c12b1
                  try clear c14
                  try clear c14b0
                  try clear c14b1
                  try clear c16
                  try clear c16b0
                  try clear p2
                  obtain ⟨kq, x32_14, rfl, HA, HJ14, ⟨mc14, rfl⟩⟩ := hcut
                  cases kq with
                  | zero => exact absurd HA.out (by simp [name_Compare.j3])
                  | succ kj14 =>
                    have H := HA.out
                    clear HA
                    simp only [name_Compare.j3] at H
                    by_cases c17 : x32_14 = true
                    · subst c17
                      have H1 : (some 0) = some r := by rw [if_pos rfl] at H; exact H
                      clear H
                      have H := H1
                      clear H1
                      obtain rfl := Option.some.inj H
                      go_wp2
                      repeat (go_quiet (fail); try go_wp2)
                      go_ret
                      exact ⟨by first | rfl | (simp; done) | (simp [*]; done), by repeat (first | exact Drawn0.refl _ | apply Drawn0.step)⟩
                    · replace c17 := Bool.eq_false_iff.mpr c17
                      subst c17
                      have H1 : (if t103 < 0 then (some (-1)) else (if t104 < 0 then (some 1) else (if 0 ≤ (wrap64 (t103 + 1)) then (if (wrap64 (t103 + 1)) ≤ (x0_1.size : Int) then (if 0 ≤ (wrap64 (t104 + 1)) then (if (wrap64 (t104 + 1)) ≤ (x1_1.size : Int) then (name_Compare.l0 kj14 (x0_1.extract ((wrap64 (t103 + 1)) : Int).toNat x0_1.size) (x1_1.extract ((wrap64 (t104 + 1)) : Int).toNat x1_1.size)) else (none)) else (none)) else (none)) else (none)))) = some r := by rw [if_neg (show ¬ (false = true) by decide)] at H; exact H
                      clear H
                      have H := H1
                      clear H1
                      by_cases c18 : t103 < 0
                      · rw [if_pos c18] at H
                        have c18b0 : decide (t103 < 0) = true := decide_eq_true c18
                        clear c18
                        obtain rfl := Option.some.inj H
                        go_wp2
                        repeat (go_quiet (fail); try go_wp2)
                        go_ret
                        exact ⟨by first | rfl | (simp; done) | (simp [*]; done), by repeat (first | exact Drawn0.refl _ | apply Drawn0.step)⟩
                      · rw [if_neg c18] at H
                        have c18b0 : decide (t103 < 0) = false := decide_eq_false c18
                        clear c18
                        by_cases c19 : t104 < 0
                        · rw [if_pos c19] at H
                          have c19b0 : decide (t104 < 0) = true := decide_eq_true c19
                          clear c19
                          obtain rfl := Option.some.inj H
                          go_wp2
                          repeat (go_quiet (fail); try go_wp2)
                          go_ret
                          exact ⟨by first | rfl | (simp; done) | (simp [*]; done), by repeat (first | exact Drawn0.refl _ | apply Drawn0.step)⟩
                        · rw [if_neg c19] at H
                          have c19b0 : decide (t104 < 0) = false := decide_eq_false c19
                          clear c19
                          obtain ⟨ji20, hji20⟩ : ∃ j_ : Int, (wrap64 (t103 + 1)) = j_ := ⟨_, rfl⟩
                          replace H : (if 0 ≤ (ji20) then (if (ji20) ≤ (x0_1.size : Int) then (if 0 ≤ (wrap64 (t104 + 1)) then (if (wrap64 (t104 + 1)) ≤ (x1_1.size : Int) then (name_Compare.l0 kj14 (x0_1.extract ((ji20) : Int).toNat x0_1.size) (x1_1.extract ((wrap64 (t104 + 1)) : Int).toNat x1_1.size)) else (none)) else (none)) else (none)) else (none)) = some r := by first | (rw [hji20] at H; exact H) | (simp only [hji20] at H ⊢; exact H)
                          have hji20w : (IntKind.i64.wrap (t103 + 1)) = ji20 := (i64_w _).trans hji20
                          by_cases c21 : 0 ≤ (ji20)
                          · rw [if_pos c21] at H
                            have c21b0 := eq_true c21
                            have c21b1 : decide (0 ≤ (ji20)) = true := decide_eq_true c21
                            clear c21
                            by_cases c22 : (ji20) ≤ (x0_1.size : Int)
                            · rw [if_pos c22] at H
                              have c22b0 := eq_true c22
                              have c22b1 : decide ((ji20) ≤ (x0_1.size : Int)) = true := decide_eq_true c22
                              clear c22
                              obtain ⟨ji23, hji23⟩ : ∃ j_ : Int, (wrap64 (t104 + 1)) = j_ := ⟨_, rfl⟩
                              replace H : (if 0 ≤ (ji23) then (if (ji23) ≤ (x1_1.size : Int) then (name_Compare.l0 kj14 (x0_1.extract ((ji20) : Int).toNat x0_1.size) (x1_1.extract ((ji23) : Int).toNat x1_1.size)) else (none)) else (none)) = some r := by first | (rw [hji23] at H; exact H) | (simp only [hji23] at H ⊢; exact H)
                              have hji23w : (IntKind.i64.wrap (t104 + 1)) = ji23 := (i64_w _).trans hji23
                              by_cases c24 : 0 ≤ (ji23)
                              · rw [if_pos c24] at H
                                have c24b0 := eq_true c24
                                have c24b1 : decide (0 ≤ (ji23)) = true := decide_eq_true c24
                                clear c24
                                by_cases c25 : (ji23) ≤ (x1_1.size : Int)
                                · rw [if_pos c25] at H
                                  have c25b0 := eq_true c25
                                  have c25b1 : decide ((ji23) ≤ (x1_1.size : Int)) = true := decide_eq_true c25
                                  clear c25
                                  have H' := Aside0.mk H
                                  clear H
                                  go_wp2
                                  repeat (go_quiet (fail); try go_wp2)
                                  go_roundg kj14
                                  case measure => have := HK1.out; have := HJ4.out; have := HJ8.out; have := HJ14.out; omega
                                  case rel => exact ⟨(x0_1.extract ((ji20) : Int).toNat x0_1.size), (x1_1.extract ((ji23) : Int).toNat x1_1.size), (by first | rfl | (simp; done) | (simp only [← hji20] <;> (first | rfl | simp)) | (simp [*]; done)), (by first | rfl | (simp; done) | (simp only [← hji23] <;> (first | rfl | simp)) | (simp [*]; done)), H', ⟨by have := HK1.out; have := HJ4.out; have := HJ8.out; have := HJ14.out; omega⟩, by repeat (first | exact Drawn0.refl _ | apply Drawn0.step)⟩
                                · rw [if_neg c25] at H
                                  exact absurd H (by simp)
                              · rw [if_neg c24] at H
                                exact absurd H (by simp)
                            · rw [if_neg c22] at H
                              exact absurd H (by simp)
                          · rw [if_neg c21] at H
                            exact absurd H (by simp)
              · rw [if_neg c14] at H
                have c14b0 : (t105 == 0) = false := beq_eq_false_iff_ne.mpr c14
                have c14b1 : (t105 != 0) = true := bne_iff_ne.mpr c14
                obtain rfl := Option.some.inj H
                go_wp2_with (first | (go_at_call 28; (with_reducible refine (cmp_Compare_string.calls x7_4 x8_8 t105 _ A13.out).mono ?_); rintro e w' ⟨rfl, ⟨nd, rfl⟩⟩; (try first | exact ⟨rfl, _, World.drewN_drewN _ _ _⟩ | exact ⟨rfl, _, Eq.trans (World.drewN_drewN _ _ _) (congrArg (World.drewN _) (Nat.add_assoc _ _ _))⟩)))
                repeat (go_quiet (first | (go_at_call 28; (with_reducible refine (cmp_Compare_string.calls x7_4 x8_8 t105 _ A13.out).mono ?_); rintro e w' ⟨rfl, ⟨nd, rfl⟩⟩; (try first | exact ⟨rfl, _, World.drewN_drewN _ _ _⟩ | exact ⟨rfl, _, Eq.trans (World.drewN_drewN _ _ _) (congrArg (World.drewN _) (Nat.add_assoc _ _ _))⟩))); try go_wp2_with (first | (go_at_call 28; (with_reducible refine (cmp_Compare_string.calls x7_4 x8_8 t105 _ A13.out).mono ?_); rintro e w' ⟨rfl, ⟨nd, rfl⟩⟩; (try first | exact ⟨rfl, _, World.drewN_drewN _ _ _⟩ | exact ⟨rfl, _, Eq.trans (World.drewN_drewN _ _ _) (congrArg (World.drewN _) (Nat.add_assoc _ _ _))⟩))))
                go_ret
                exact ⟨by first | rfl | (simp; done) | (simp [*]; done), by repeat (first | exact Drawn0.refl _ | apply Drawn0.step)⟩
def name_Check.f (a0 : ByteArray) : Option (Int × Int) := some (((Nm.check a0.data.toList).1 : Int), ((Nm.check a0.data.toList).2 : Int))
theorem name_Check.calls (a0 : ByteArray) (r1 : Int) (r2 : Int) (w : World) (h : name_Check.f a0 = some (r1, r2)) :
    Calls Tryd.prog 13 #[.string a0] w fun e w' => e = .returned (.tuple #[.int .i64 r1, .int .i64 r2]) ∧ Below w.heap.size w w' := by
  obtain ⟨rfl, rfl⟩ := Prod.mk.inj (Option.some.inj h)
  exact check_any a0 w
def stringslite_HasPrefix.f (a0 : ByteArray) (a1 : ByteArray) : Option (Bool) := if (a0.size : Int) ≥ (a1.size : Int) then (if 0 ≤ (a1.size : Int) then (if (a1.size : Int) ≤ (a0.size : Int) then (some ((a0.extract 0 ((a1.size : Int) : Int).toNat).toList == a1.toList)) else (none)) else (none)) else (some false)
set_option maxHeartbeats 8000000 in
set_option maxRecDepth 100000 in
theorem stringslite_HasPrefix.calls (a0 : ByteArray) (a1 : ByteArray) (r : Bool) (w : World) (h : stringslite_HasPrefix.f a0 a1 = some r) :
    Calls Tryd.prog 40 #[.string a0, .string a1] w fun e w' => e = .returned (.bool r) ∧ Drawn0 w w' := by
  have H : (if (a0.size : Int) ≥ (a1.size : Int) then (if 0 ≤ (a1.size : Int) then (if (a1.size : Int) ≤ (a0.size : Int) then (some ((a0.extract 0 ((a1.size : Int) : Int).toNat).toList == a1.toList)) else (none)) else (none)) else (some false)) = some r := h
  clear h
  by_cases c3 : (a0.size : Int) ≥ (a1.size : Int)
  · rw [if_pos c3] at H
    have c3b0 : decide ((a1.size : Int) ≤ (a0.size : Int)) = true := decide_eq_true c3
    have c3b1 : decide (a1.size ≤ a0.size) = true := decide_eq_true (Int.ofNat_le.mp c3)
    clear c3
    by_cases c4 : 0 ≤ (a1.size : Int)
    · rw [if_pos c4] at H
      have c4b0 := eq_true c4
      have c4b1 : decide (0 ≤ (a1.size : Int)) = true := decide_eq_true c4
      clear c4
      by_cases c5 : (a1.size : Int) ≤ (a0.size : Int)
      · rw [if_pos c5] at H
        have c5b0 := eq_true c5
        have c5b1 : decide ((a1.size : Int) ≤ (a0.size : Int)) = true := decide_eq_true c5
        clear c5
        obtain rfl := Option.some.inj H
        go_enter Tryd.func40, Tryd.ntmps40
        go_wp2
        go_ret
        exact ⟨by first | rfl | (simp; done) | (simp [*]; done), by repeat (first | exact Drawn0.refl _ | apply Drawn0.step)⟩
      · rw [if_neg c5] at H
        exact absurd H (by simp)
    · rw [if_neg c4] at H
      exact absurd H (by simp)
  · rw [if_neg c3] at H
    have c3b0 : decide ((a1.size : Int) ≤ (a0.size : Int)) = false := decide_eq_false c3
    have c3b1 : decide (a1.size ≤ a0.size) = false := decide_eq_false (fun h => c3 (Int.ofNat_le.mpr h))
    clear c3
    obtain rfl := Option.some.inj H
    go_enter Tryd.func40, Tryd.ntmps40
    go_wp2
    go_ret
    exact ⟨by first | rfl | (simp; done) | (simp [*]; done), by repeat (first | exact Drawn0.refl _ | apply Drawn0.step)⟩
def strings_HasPrefix.f (a0 : ByteArray) (a1 : ByteArray) : Option (Bool) := (stringslite_HasPrefix.f a0 a1).bind fun t106 => (some t106)
set_option maxHeartbeats 8000000 in
set_option maxRecDepth 100000 in
theorem strings_HasPrefix.calls (a0 : ByteArray) (a1 : ByteArray) (r : Bool) (w : World) (h : strings_HasPrefix.f a0 a1 = some r) :
    Calls Tryd.prog 29 #[.string a0, .string a1] w fun e w' => e = .returned (.bool r) ∧ Drawn0 w w' := by
  have H : ((stringslite_HasPrefix.f a0 a1).bind fun t106 => (some t106)) = some r := h
  clear h
  replace H := Option.bind_eq_some_iff.mp H
  obtain ⟨t106, A30, H⟩ := H
  replace H : (some t106) = some r := H
  have A3 := Aside0.mk A30
  clear A30
  obtain rfl := Option.some.inj H
  go_enter Tryd.func29, Tryd.ntmps29
  go_wp2_with (first | ((with_reducible refine gate_callee (f := 40) rfl ?_); refine goesL_ (some 7) rfl rfl Tryd.func40 (by kernel_rfl) rfl #[.string a0, .string a1] rfl (by (try simp only [List.map_toArray, List.map_cons, List.map_nil]); first | done | rfl | (simp only [List.length_drop, List.length_take]; rfl)) ?_; (with_reducible refine (stringslite_HasPrefix.calls a0 a1 t106 _ A3.out).mono ?_); rintro e w' ⟨rfl, ⟨nd, rfl⟩⟩; refine ⟨_, rfl, ?_⟩))
  go_ret
  exact ⟨by first | rfl | (simp; done) | (simp [*]; done), by repeat (first | exact Drawn0.refl _ | apply Drawn0.step)⟩
def name_Beneath.f (a0 : ByteArray) (a1 : ByteArray) : Option (Bool) := (name_Check.f a1).bind fun bt107 => (if bt107.2 = 0 then (if a0.toList = ([] : List UInt8) then (some true) else ((strings_HasPrefix.f a1 a0).bind fun t109 => (if t109 = true then (if (a1.size : Int) > (a0.size : Int) then (if 0 ≤ (a0.size : Int) then (if (a0.size : Int) < (a1.size : Int) then (some ((bt a1 (a0.size : Int)) == 47)) else (none)) else (none)) else (some false)) else (some false)))) else (some false))
set_option maxHeartbeats 8000000 in
set_option maxRecDepth 100000 in
theorem name_Beneath.calls (a0 : ByteArray) (a1 : ByteArray) (r : Bool) (w : World) (h : name_Beneath.f a0 a1 = some r) :
    Calls Tryd.prog 12 #[.string a0, .string a1] w fun e w' => e = .returned (.bool r) ∧ Below w.heap.size w w' := by
  have HB := Aside0.mk (Below.refl w.heap.size w)
  have H : ((name_Check.f a1).bind fun bt107 => (if bt107.2 = 0 then (if a0.toList = ([] : List UInt8) then (some true) else ((strings_HasPrefix.f a1 a0).bind fun t109 => (if t109 = true then (if (a1.size : Int) > (a0.size : Int) then (if 0 ≤ (a0.size : Int) then (if (a0.size : Int) < (a1.size : Int) then (some ((bt a1 (a0.size : Int)) == 47)) else (none)) else (none)) else (some false)) else (some false)))) else (some false))) = some r := h
  clear h
  replace H := Option.bind_eq_some_iff.mp H
  obtain ⟨⟨t107, t108⟩, A30, H⟩ := H
  replace H : (if t108 = 0 then (if a0.toList = ([] : List UInt8) then (some true) else ((strings_HasPrefix.f a1 a0).bind fun t109 => (if t109 = true then (if (a1.size : Int) > (a0.size : Int) then (if 0 ≤ (a0.size : Int) then (if (a0.size : Int) < (a1.size : Int) then (some ((bt a1 (a0.size : Int)) == 47)) else (none)) else (none)) else (some false)) else (some false)))) else (some false)) = some r := H
  have A3 := Aside0.mk A30
  clear A30
  by_cases c4 : t108 = 0
  · rw [if_pos c4] at H
    have c4b0 : (t108 == 0) = true := beq_iff_eq.mpr c4
    have c4b1 : (t108 != 0) = false := bne_eq_false_iff_eq.mpr c4
    clear c4
    by_cases c5 : a0.toList = ([] : List UInt8)
    · rw [if_pos c5] at H
      have c5b0 : (a0.toList == ([] : List UInt8)) = true := beq_iff_eq.mpr c5
      have c5b1 : (a0.toList != ([] : List UInt8)) = false := bne_eq_false_iff_eq.mpr c5
      clear c5
      obtain rfl := Option.some.inj H
      go_enter Tryd.func12, Tryd.ntmps12
      go_wp2_with (first | ((with_reducible refine gate_callee (f := 13) rfl ?_); refine goesL_ (some 9) rfl rfl Tryd.func13 (by kernel_rfl) rfl #[.string a1] rfl (by (try simp only [List.map_toArray, List.map_cons, List.map_nil]); first | done | rfl | (simp only [List.length_drop, List.length_take]; rfl)) ?_; (with_reducible refine (name_Check.calls a1 t107 t108 _ A3.out).mono ?_); rintro e w6 ⟨rfl, hb⟩; refine ⟨_, rfl, ?_⟩; have n0_ := Aside0.mk (below_step (by repeat (first | (with_reducible first | exact HB.out | apply below_alloc | apply pw_below_drewN | apply below_drew1) | exact HB.out)) hb); clear HB; have HB := n0_; clear n0_; (try clear hb); (try clear hb2); (try clear hk); (try clear hi)))
      go_ret
      exact ⟨by first | rfl | (simp [errW_none, errW_some] <;> rfl) | (simp [*, errW_none, errW_some] <;> rfl), by repeat (first | (with_reducible first | exact HB.out | apply below_alloc | apply pw_below_drewN | apply below_drew1) | exact HB.out)⟩
    · rw [if_neg c5] at H
      have c5b0 : (a0.toList == ([] : List UInt8)) = false := beq_eq_false_iff_ne.mpr c5
      have c5b1 : (a0.toList != ([] : List UInt8)) = true := bne_iff_ne.mpr c5
      replace H := Option.bind_eq_some_iff.mp H
      obtain ⟨t109, A70, H⟩ := H
      replace H : (if t109 = true then (if (a1.size : Int) > (a0.size : Int) then (if 0 ≤ (a0.size : Int) then (if (a0.size : Int) < (a1.size : Int) then (some ((bt a1 (a0.size : Int)) == 47)) else (none)) else (none)) else (some false)) else (some false)) = some r := H
      have A7 := Aside0.mk A70
      clear A70
      by_cases c8 : t109 = true
      · subst c8
        have H1 : (if (a1.size : Int) > (a0.size : Int) then (if 0 ≤ (a0.size : Int) then (if (a0.size : Int) < (a1.size : Int) then (some ((bt a1 (a0.size : Int)) == 47)) else (none)) else (none)) else (some false)) = some r := by rw [if_pos rfl] at H; exact H
        clear H
        have H := H1
        clear H1
        by_cases c9 : (a1.size : Int) > (a0.size : Int)
        · rw [if_pos c9] at H
          have c9b0 : decide ((a0.size : Int) < (a1.size : Int)) = true := decide_eq_true c9
          have c9b1 : decide (a0.size < a1.size) = true := decide_eq_true (Int.ofNat_lt.mp c9)
          clear c9
          by_cases c10 : 0 ≤ (a0.size : Int)
          · rw [if_pos c10] at H
            have c10b0 : decide (0 ≤ (a0.size : Int)) = true := decide_eq_true c10
            have c10b1 : decide (0 ≤ a0.size) = true := decide_eq_true (by omega)
            clear c10
            by_cases c11 : (a0.size : Int) < (a1.size : Int)
            · rw [if_pos c11] at H
              have c11b0 : decide ((a0.size : Int) < (a1.size : Int)) = true := decide_eq_true c11
              have c11b1 : decide (a0.size < a1.size) = true := decide_eq_true (Int.ofNat_lt.mp c11)
              clear c11
              obtain rfl := Option.some.inj H
              go_enter Tryd.func12, Tryd.ntmps12
              go_wp2_with (first | ((with_reducible refine gate_callee (f := 13) rfl ?_); refine goesL_ (some 9) rfl rfl Tryd.func13 (by kernel_rfl) rfl #[.string a1] rfl (by (try simp only [List.map_toArray, List.map_cons, List.map_nil]); first | done | rfl | (simp only [List.length_drop, List.length_take]; rfl)) ?_; (with_reducible refine (name_Check.calls a1 t107 t108 _ A3.out).mono ?_); rintro e w13 ⟨rfl, hb⟩; refine ⟨_, rfl, ?_⟩; have n0_ := Aside0.mk (below_step (by repeat (first | (with_reducible first | exact HB.out | apply below_alloc | apply pw_below_drewN | apply below_drew1) | exact HB.out)) hb); clear HB; have HB := n0_; clear n0_; (try clear hb); (try clear hb2); (try clear hk); (try clear hi)) | ((with_reducible refine gate_callee (f := 29) rfl ?_); refine goesL_ (some 18) rfl rfl Tryd.func29 (by kernel_rfl) rfl #[.string a1, .string a0] rfl (by (try simp only [List.map_toArray, List.map_cons, List.map_nil]); first | done | rfl | (simp only [List.length_drop, List.length_take]; rfl)) ?_; (with_reducible refine (strings_HasPrefix.calls a1 a0 true _ A7.out).mono ?_); rintro e w' ⟨rfl, ⟨nd, rfl⟩⟩; refine ⟨_, rfl, ?_⟩; have p12 : 0 ≤ ((a0.size : Int) : Int) := of_decide_eq_true (by first | (with_reducible assumption) | assumption); have q12 : (a0.size : Int) < (a1.size : Int) := of_decide_eq_true (by first | (with_reducible assumption) | assumption); have hx12 := bt_atN a1 a0.size; replace p12 := eq_true p12; replace q12 := eq_true q12))
              go_ret
              exact ⟨by first | rfl | (simp [errW_none, errW_some] <;> rfl) | (simp [*, errW_none, errW_some] <;> rfl), by repeat (first | (with_reducible first | exact HB.out | apply below_alloc | apply pw_below_drewN | apply below_drew1) | exact HB.out)⟩
            · rw [if_neg c11] at H
              exact absurd H (by simp)
          · rw [if_neg c10] at H
            exact absurd H (by simp)
        · rw [if_neg c9] at H
          have c9b0 : decide ((a0.size : Int) < (a1.size : Int)) = false := decide_eq_false c9
          have c9b1 : decide (a0.size < a1.size) = false := decide_eq_false (fun h => c9 (Int.ofNat_lt.mpr h))
          clear c9
          obtain rfl := Option.some.inj H
          go_enter Tryd.func12, Tryd.ntmps12
          go_wp2_with (first | ((with_reducible refine gate_callee (f := 13) rfl ?_); refine goesL_ (some 9) rfl rfl Tryd.func13 (by kernel_rfl) rfl #[.string a1] rfl (by (try simp only [List.map_toArray, List.map_cons, List.map_nil]); first | done | rfl | (simp only [List.length_drop, List.length_take]; rfl)) ?_; (with_reducible refine (name_Check.calls a1 t107 t108 _ A3.out).mono ?_); rintro e w14 ⟨rfl, hb⟩; refine ⟨_, rfl, ?_⟩; have n0_ := Aside0.mk (below_step (by repeat (first | (with_reducible first | exact HB.out | apply below_alloc | apply pw_below_drewN | apply below_drew1) | exact HB.out)) hb); clear HB; have HB := n0_; clear n0_; (try clear hb); (try clear hb2); (try clear hk); (try clear hi)) | ((with_reducible refine gate_callee (f := 29) rfl ?_); refine goesL_ (some 18) rfl rfl Tryd.func29 (by kernel_rfl) rfl #[.string a1, .string a0] rfl (by (try simp only [List.map_toArray, List.map_cons, List.map_nil]); first | done | rfl | (simp only [List.length_drop, List.length_take]; rfl)) ?_; (with_reducible refine (strings_HasPrefix.calls a1 a0 true _ A7.out).mono ?_); rintro e w' ⟨rfl, ⟨nd, rfl⟩⟩; refine ⟨_, rfl, ?_⟩))
          go_ret
          exact ⟨by first | rfl | (simp [errW_none, errW_some] <;> rfl) | (simp [*, errW_none, errW_some] <;> rfl), by repeat (first | (with_reducible first | exact HB.out | apply below_alloc | apply pw_below_drewN | apply below_drew1) | exact HB.out)⟩
      · replace c8 := Bool.eq_false_iff.mpr c8
        subst c8
        have H1 : (some false) = some r := by rw [if_neg (show ¬ (false = true) by decide)] at H; exact H
        clear H
        have H := H1
        clear H1
        obtain rfl := Option.some.inj H
        go_enter Tryd.func12, Tryd.ntmps12
        go_wp2_with (first | ((with_reducible refine gate_callee (f := 13) rfl ?_); refine goesL_ (some 9) rfl rfl Tryd.func13 (by kernel_rfl) rfl #[.string a1] rfl (by (try simp only [List.map_toArray, List.map_cons, List.map_nil]); first | done | rfl | (simp only [List.length_drop, List.length_take]; rfl)) ?_; (with_reducible refine (name_Check.calls a1 t107 t108 _ A3.out).mono ?_); rintro e w15 ⟨rfl, hb⟩; refine ⟨_, rfl, ?_⟩; have n0_ := Aside0.mk (below_step (by repeat (first | (with_reducible first | exact HB.out | apply below_alloc | apply pw_below_drewN | apply below_drew1) | exact HB.out)) hb); clear HB; have HB := n0_; clear n0_; (try clear hb); (try clear hb2); (try clear hk); (try clear hi)) | ((with_reducible refine gate_callee (f := 29) rfl ?_); refine goesL_ (some 18) rfl rfl Tryd.func29 (by kernel_rfl) rfl #[.string a1, .string a0] rfl (by (try simp only [List.map_toArray, List.map_cons, List.map_nil]); first | done | rfl | (simp only [List.length_drop, List.length_take]; rfl)) ?_; (with_reducible refine (strings_HasPrefix.calls a1 a0 false _ A7.out).mono ?_); rintro e w' ⟨rfl, ⟨nd, rfl⟩⟩; refine ⟨_, rfl, ?_⟩))
        go_ret
        exact ⟨by first | rfl | (simp [errW_none, errW_some] <;> rfl) | (simp [*, errW_none, errW_some] <;> rfl), by repeat (first | (with_reducible first | exact HB.out | apply below_alloc | apply pw_below_drewN | apply below_drew1) | exact HB.out)⟩
  · rw [if_neg c4] at H
    have c4b0 : (t108 == 0) = false := beq_eq_false_iff_ne.mpr c4
    have c4b1 : (t108 != 0) = true := bne_iff_ne.mpr c4
    obtain rfl := Option.some.inj H
    go_enter Tryd.func12, Tryd.ntmps12
    go_wp2_with (first | ((with_reducible refine gate_callee (f := 13) rfl ?_); refine goesL_ (some 9) rfl rfl Tryd.func13 (by kernel_rfl) rfl #[.string a1] rfl (by (try simp only [List.map_toArray, List.map_cons, List.map_nil]); first | done | rfl | (simp only [List.length_drop, List.length_take]; rfl)) ?_; (with_reducible refine (name_Check.calls a1 t107 t108 _ A3.out).mono ?_); rintro e w16 ⟨rfl, hb⟩; refine ⟨_, rfl, ?_⟩; have n0_ := Aside0.mk (below_step (by repeat (first | (with_reducible first | exact HB.out | apply below_alloc | apply pw_below_drewN | apply below_drew1) | exact HB.out)) hb); clear HB; have HB := n0_; clear n0_; (try clear hb); (try clear hb2); (try clear hk); (try clear hi)))
    go_ret
    exact ⟨by first | rfl | (simp [errW_none, errW_some] <;> rfl) | (simp [*, errW_none, errW_some] <;> rfl), by repeat (first | (with_reducible first | exact HB.out | apply below_alloc | apply pw_below_drewN | apply below_drew1) | exact HB.out)⟩
def tabularylaw08_awake.f (k : Nat)  : Option (Bool) := (name_Check.f (⟨#[97, 47, 98, 32, 99]⟩ : ByteArray)).bind fun bt110 => ((name_Check.f (⟨#[97, 47, 46, 46, 47, 98]⟩ : ByteArray)).bind fun bt112 => ((name_Lead.f (⟨#[97, 47, 98, 47, 108]⟩ : ByteArray) (⟨#[46, 46, 47, 99]⟩ : ByteArray)).bind fun bt114 => (if bt110.2 = 0 then (if bt112.2 = 81 then (if bt112.1 = 2 then (if bt114.2 = 0 then (if bt114.1.toList = ([97, 47, 99] : List UInt8) then ((name_Compare.f k (⟨#[97, 47, 98]⟩ : ByteArray) (⟨#[97, 45, 98]⟩ : ByteArray)).bind fun t116 => (if t116 = (-1) then ((name_Beneath.f (⟨#[97]⟩ : ByteArray) (⟨#[97, 47, 98]⟩ : ByteArray)).bind fun t117 => (if t117 = true then ((name_Beneath.f (⟨#[97]⟩ : ByteArray) (⟨#[97, 98]⟩ : ByteArray)).bind fun t118 => (some (!t118))) else (some false))) else (some false))) else (some false)) else (some false)) else (some false)) else (some false)) else (some false))))
set_option maxHeartbeats 8000000 in
set_option maxRecDepth 100000 in
theorem tabularylaw08_awake.calls (k : Nat)  (r : Bool) (w : World) (h : tabularylaw08_awake.f k  = some r) :
    Calls Tryd.prog 10 #[] w fun e w' => e = .returned (.bool r) ∧ Below w.heap.size w w' := by
  have HB := Aside0.mk (Below.refl w.heap.size w)
  have H : ((name_Check.f (⟨#[97, 47, 98, 32, 99]⟩ : ByteArray)).bind fun bt110 => ((name_Check.f (⟨#[97, 47, 46, 46, 47, 98]⟩ : ByteArray)).bind fun bt112 => ((name_Lead.f (⟨#[97, 47, 98, 47, 108]⟩ : ByteArray) (⟨#[46, 46, 47, 99]⟩ : ByteArray)).bind fun bt114 => (if bt110.2 = 0 then (if bt112.2 = 81 then (if bt112.1 = 2 then (if bt114.2 = 0 then (if bt114.1.toList = ([97, 47, 99] : List UInt8) then ((name_Compare.f k (⟨#[97, 47, 98]⟩ : ByteArray) (⟨#[97, 45, 98]⟩ : ByteArray)).bind fun t116 => (if t116 = (-1) then ((name_Beneath.f (⟨#[97]⟩ : ByteArray) (⟨#[97, 47, 98]⟩ : ByteArray)).bind fun t117 => (if t117 = true then ((name_Beneath.f (⟨#[97]⟩ : ByteArray) (⟨#[97, 98]⟩ : ByteArray)).bind fun t118 => (some (!t118))) else (some false))) else (some false))) else (some false)) else (some false)) else (some false)) else (some false)) else (some false))))) = some r := h
  clear h
  replace H := Option.bind_eq_some_iff.mp H
  obtain ⟨⟨t110, t111⟩, A10, H⟩ := H
  replace H : ((name_Check.f (⟨#[97, 47, 46, 46, 47, 98]⟩ : ByteArray)).bind fun bt112 => ((name_Lead.f (⟨#[97, 47, 98, 47, 108]⟩ : ByteArray) (⟨#[46, 46, 47, 99]⟩ : ByteArray)).bind fun bt114 => (if t111 = 0 then (if bt112.2 = 81 then (if bt112.1 = 2 then (if bt114.2 = 0 then (if bt114.1.toList = ([97, 47, 99] : List UInt8) then ((name_Compare.f k (⟨#[97, 47, 98]⟩ : ByteArray) (⟨#[97, 45, 98]⟩ : ByteArray)).bind fun t116 => (if t116 = (-1) then ((name_Beneath.f (⟨#[97]⟩ : ByteArray) (⟨#[97, 47, 98]⟩ : ByteArray)).bind fun t117 => (if t117 = true then ((name_Beneath.f (⟨#[97]⟩ : ByteArray) (⟨#[97, 98]⟩ : ByteArray)).bind fun t118 => (some (!t118))) else (some false))) else (some false))) else (some false)) else (some false)) else (some false)) else (some false)) else (some false)))) = some r := H
  have A1 := Aside0.mk A10
  clear A10
  replace H := Option.bind_eq_some_iff.mp H
  obtain ⟨⟨t112, t113⟩, A20, H⟩ := H
  replace H : ((name_Lead.f (⟨#[97, 47, 98, 47, 108]⟩ : ByteArray) (⟨#[46, 46, 47, 99]⟩ : ByteArray)).bind fun bt114 => (if t111 = 0 then (if t113 = 81 then (if t112 = 2 then (if bt114.2 = 0 then (if bt114.1.toList = ([97, 47, 99] : List UInt8) then ((name_Compare.f k (⟨#[97, 47, 98]⟩ : ByteArray) (⟨#[97, 45, 98]⟩ : ByteArray)).bind fun t116 => (if t116 = (-1) then ((name_Beneath.f (⟨#[97]⟩ : ByteArray) (⟨#[97, 47, 98]⟩ : ByteArray)).bind fun t117 => (if t117 = true then ((name_Beneath.f (⟨#[97]⟩ : ByteArray) (⟨#[97, 98]⟩ : ByteArray)).bind fun t118 => (some (!t118))) else (some false))) else (some false))) else (some false)) else (some false)) else (some false)) else (some false)) else (some false))) = some r := H
  have A2 := Aside0.mk A20
  clear A20
  replace H := Option.bind_eq_some_iff.mp H
  obtain ⟨⟨t114, t115⟩, A30, H⟩ := H
  replace H : (if t111 = 0 then (if t113 = 81 then (if t112 = 2 then (if t115 = 0 then (if t114.toList = ([97, 47, 99] : List UInt8) then ((name_Compare.f k (⟨#[97, 47, 98]⟩ : ByteArray) (⟨#[97, 45, 98]⟩ : ByteArray)).bind fun t116 => (if t116 = (-1) then ((name_Beneath.f (⟨#[97]⟩ : ByteArray) (⟨#[97, 47, 98]⟩ : ByteArray)).bind fun t117 => (if t117 = true then ((name_Beneath.f (⟨#[97]⟩ : ByteArray) (⟨#[97, 98]⟩ : ByteArray)).bind fun t118 => (some (!t118))) else (some false))) else (some false))) else (some false)) else (some false)) else (some false)) else (some false)) else (some false)) = some r := H
  have A3 := Aside0.mk A30
  clear A30
  by_cases c4 : t111 = 0
  · rw [if_pos c4] at H
    have c4b0 : (t111 == 0) = true := beq_iff_eq.mpr c4
    have c4b1 : (t111 != 0) = false := bne_eq_false_iff_eq.mpr c4
    clear c4
    by_cases c5 : t113 = 81
    · rw [if_pos c5] at H
      have c5b0 : (t113 == 81) = true := beq_iff_eq.mpr c5
      have c5b1 : (t113 != 81) = false := bne_eq_false_iff_eq.mpr c5
      clear c5
      by_cases c6 : t112 = 2
      · rw [if_pos c6] at H
        have c6b0 : (t112 == 2) = true := beq_iff_eq.mpr c6
        have c6b1 : (t112 != 2) = false := bne_eq_false_iff_eq.mpr c6
        clear c6
        by_cases c7 : t115 = 0
        · rw [if_pos c7] at H
          have c7b0 : (t115 == 0) = true := beq_iff_eq.mpr c7
          have c7b1 : (t115 != 0) = false := bne_eq_false_iff_eq.mpr c7
          clear c7
          by_cases c8 : t114.toList = ([97, 47, 99] : List UInt8)
          · rw [if_pos c8] at H
            have c8b0 : (t114.toList == ([97, 47, 99] : List UInt8)) = true := beq_iff_eq.mpr c8
            have c8b1 : (t114.toList != ([97, 47, 99] : List UInt8)) = false := bne_eq_false_iff_eq.mpr c8
            clear c8
            replace H := Option.bind_eq_some_iff.mp H
            obtain ⟨t116, A90, H⟩ := H
            replace H : (if t116 = (-1) then ((name_Beneath.f (⟨#[97]⟩ : ByteArray) (⟨#[97, 47, 98]⟩ : ByteArray)).bind fun t117 => (if t117 = true then ((name_Beneath.f (⟨#[97]⟩ : ByteArray) (⟨#[97, 98]⟩ : ByteArray)).bind fun t118 => (some (!t118))) else (some false))) else (some false)) = some r := H
            have A9 := Aside0.mk A90
            clear A90
            by_cases c10 : t116 = (-1)
            · rw [if_pos c10] at H
              have c10b0 : (t116 == (-1)) = true := beq_iff_eq.mpr c10
              have c10b1 : (t116 != (-1)) = false := bne_eq_false_iff_eq.mpr c10
              clear c10
              replace H := Option.bind_eq_some_iff.mp H
              obtain ⟨t117, A110, H⟩ := H
              replace H : (if t117 = true then ((name_Beneath.f (⟨#[97]⟩ : ByteArray) (⟨#[97, 98]⟩ : ByteArray)).bind fun t118 => (some (!t118))) else (some false)) = some r := H
              have A11 := Aside0.mk A110
              clear A110
              by_cases c12 : t117 = true
              · subst c12
                have H1 : ((name_Beneath.f (⟨#[97]⟩ : ByteArray) (⟨#[97, 98]⟩ : ByteArray)).bind fun t118 => (some (!t118))) = some r := by rw [if_pos rfl] at H; exact H
                clear H
                have H := H1
                clear H1
                replace H := Option.bind_eq_some_iff.mp H
                obtain ⟨t118, A130, H⟩ := H
                replace H : (some (!t118)) = some r := H
                have A13 := Aside0.mk A130
                clear A130
                obtain rfl := Option.some.inj H
                go_enter Tryd.func10, Tryd.ntmps10
                go_wp2_with (first | ((with_reducible refine gate_callee (f := 13) rfl ?_); refine goesL_ (some 8) rfl rfl Tryd.func13 (by kernel_rfl) rfl #[.string (⟨#[97, 47, 98, 32, 99]⟩ : ByteArray)] rfl (by (try simp only [List.map_toArray, List.map_cons, List.map_nil]); first | done | rfl | (simp only [List.length_drop, List.length_take]; rfl)) ?_; (with_reducible refine (name_Check.calls (⟨#[97, 47, 98, 32, 99]⟩ : ByteArray) t110 t111 _ A1.out).mono ?_); rintro e w14 ⟨rfl, hb⟩; refine ⟨_, rfl, ?_⟩; have n0_ := Aside0.mk (below_step (by repeat (first | (with_reducible first | exact HB.out | apply below_alloc | apply pw_below_drewN | apply below_drew1) | exact HB.out)) hb); clear HB; have HB := n0_; clear n0_; (try clear hb); (try clear hb2); (try clear hk); (try clear hi)) | ((with_reducible refine gate_callee (f := 13) rfl ?_); refine goesL_ (some 12) rfl rfl Tryd.func13 (by kernel_rfl) rfl #[.string (⟨#[97, 47, 46, 46, 47, 98]⟩ : ByteArray)] rfl (by (try simp only [List.map_toArray, List.map_cons, List.map_nil]); first | done | rfl | (simp only [List.length_drop, List.length_take]; rfl)) ?_; (with_reducible refine (name_Check.calls (⟨#[97, 47, 46, 46, 47, 98]⟩ : ByteArray) t112 t113 _ A2.out).mono ?_); rintro e w15 ⟨rfl, hb⟩; refine ⟨_, rfl, ?_⟩; have n0_ := Aside0.mk (below_step (by repeat (first | (with_reducible first | exact HB.out | apply below_alloc | apply pw_below_drewN | apply below_drew1) | exact HB.out)) hb); clear HB; have HB := n0_; clear n0_; (try clear hb); (try clear hb2); (try clear hk); (try clear hi)) | ((with_reducible refine gate_callee (f := 8) rfl ?_); refine goesL_ (some 16) rfl rfl Tryd.func8 (by kernel_rfl) rfl #[.string (⟨#[97, 47, 98, 47, 108]⟩ : ByteArray), .string (⟨#[46, 46, 47, 99]⟩ : ByteArray)] rfl (by (try simp only [List.map_toArray, List.map_cons, List.map_nil]); first | done | rfl | (simp only [List.length_drop, List.length_take]; rfl)) ?_; (with_reducible refine (name_Lead.calls (⟨#[97, 47, 98, 47, 108]⟩ : ByteArray) (⟨#[46, 46, 47, 99]⟩ : ByteArray) t114 t115 _ A3.out).mono ?_); rintro e w16 ⟨rfl, hb⟩; refine ⟨_, rfl, ?_⟩; have n0_ := Aside0.mk (below_step (by repeat (first | (with_reducible first | exact HB.out | apply below_alloc | apply pw_below_drewN | apply below_drew1) | exact HB.out)) hb); clear HB; have HB := n0_; clear n0_; (try clear hb); (try clear hb2); (try clear hk); (try clear hi)) | (go_at_call 11; (with_reducible refine (name_Compare.calls k (⟨#[97, 47, 98]⟩ : ByteArray) (⟨#[97, 45, 98]⟩ : ByteArray) t116 _ A9.out).mono ?_); rintro e w' ⟨rfl, ⟨nd, rfl⟩⟩) | (go_at_call 12; (with_reducible refine (name_Beneath.calls (⟨#[97]⟩ : ByteArray) (⟨#[97, 47, 98]⟩ : ByteArray) true _ A11.out).mono ?_); rintro e w17 ⟨rfl, hb⟩; have n0_ := Aside0.mk (below_step (by repeat (first | (with_reducible first | exact HB.out | apply below_alloc | apply pw_below_drewN | apply below_drew1) | exact HB.out)) hb); clear HB; have HB := n0_; clear n0_; (try clear hb); (try clear hb2); (try clear hk); (try clear hi)) | (go_at_call 12; (with_reducible refine (name_Beneath.calls (⟨#[97]⟩ : ByteArray) (⟨#[97, 98]⟩ : ByteArray) t118 _ A13.out).mono ?_); rintro e w18 ⟨rfl, hb⟩; have n0_ := Aside0.mk (below_step (by repeat (first | (with_reducible first | exact HB.out | apply below_alloc | apply pw_below_drewN | apply below_drew1) | exact HB.out)) hb); clear HB; have HB := n0_; clear n0_; (try clear hb); (try clear hb2); (try clear hk); (try clear hi)))
                go_ret
                exact ⟨by first | rfl | (simp [errW_none, errW_some] <;> rfl) | (simp [*, errW_none, errW_some] <;> rfl), by repeat (first | (with_reducible first | exact HB.out | apply below_alloc | apply pw_below_drewN | apply below_drew1) | exact HB.out)⟩
              · replace c12 := Bool.eq_false_iff.mpr c12
                subst c12
                have H1 : (some false) = some r := by rw [if_neg (show ¬ (false = true) by decide)] at H; exact H
                clear H
                have H := H1
                clear H1
                obtain rfl := Option.some.inj H
                go_enter Tryd.func10, Tryd.ntmps10
                go_wp2_with (first | ((with_reducible refine gate_callee (f := 13) rfl ?_); refine goesL_ (some 8) rfl rfl Tryd.func13 (by kernel_rfl) rfl #[.string (⟨#[97, 47, 98, 32, 99]⟩ : ByteArray)] rfl (by (try simp only [List.map_toArray, List.map_cons, List.map_nil]); first | done | rfl | (simp only [List.length_drop, List.length_take]; rfl)) ?_; (with_reducible refine (name_Check.calls (⟨#[97, 47, 98, 32, 99]⟩ : ByteArray) t110 t111 _ A1.out).mono ?_); rintro e w19 ⟨rfl, hb⟩; refine ⟨_, rfl, ?_⟩; have n0_ := Aside0.mk (below_step (by repeat (first | (with_reducible first | exact HB.out | apply below_alloc | apply pw_below_drewN | apply below_drew1) | exact HB.out)) hb); clear HB; have HB := n0_; clear n0_; (try clear hb); (try clear hb2); (try clear hk); (try clear hi)) | ((with_reducible refine gate_callee (f := 13) rfl ?_); refine goesL_ (some 12) rfl rfl Tryd.func13 (by kernel_rfl) rfl #[.string (⟨#[97, 47, 46, 46, 47, 98]⟩ : ByteArray)] rfl (by (try simp only [List.map_toArray, List.map_cons, List.map_nil]); first | done | rfl | (simp only [List.length_drop, List.length_take]; rfl)) ?_; (with_reducible refine (name_Check.calls (⟨#[97, 47, 46, 46, 47, 98]⟩ : ByteArray) t112 t113 _ A2.out).mono ?_); rintro e w20 ⟨rfl, hb⟩; refine ⟨_, rfl, ?_⟩; have n0_ := Aside0.mk (below_step (by repeat (first | (with_reducible first | exact HB.out | apply below_alloc | apply pw_below_drewN | apply below_drew1) | exact HB.out)) hb); clear HB; have HB := n0_; clear n0_; (try clear hb); (try clear hb2); (try clear hk); (try clear hi)) | ((with_reducible refine gate_callee (f := 8) rfl ?_); refine goesL_ (some 16) rfl rfl Tryd.func8 (by kernel_rfl) rfl #[.string (⟨#[97, 47, 98, 47, 108]⟩ : ByteArray), .string (⟨#[46, 46, 47, 99]⟩ : ByteArray)] rfl (by (try simp only [List.map_toArray, List.map_cons, List.map_nil]); first | done | rfl | (simp only [List.length_drop, List.length_take]; rfl)) ?_; (with_reducible refine (name_Lead.calls (⟨#[97, 47, 98, 47, 108]⟩ : ByteArray) (⟨#[46, 46, 47, 99]⟩ : ByteArray) t114 t115 _ A3.out).mono ?_); rintro e w21 ⟨rfl, hb⟩; refine ⟨_, rfl, ?_⟩; have n0_ := Aside0.mk (below_step (by repeat (first | (with_reducible first | exact HB.out | apply below_alloc | apply pw_below_drewN | apply below_drew1) | exact HB.out)) hb); clear HB; have HB := n0_; clear n0_; (try clear hb); (try clear hb2); (try clear hk); (try clear hi)) | (go_at_call 11; (with_reducible refine (name_Compare.calls k (⟨#[97, 47, 98]⟩ : ByteArray) (⟨#[97, 45, 98]⟩ : ByteArray) t116 _ A9.out).mono ?_); rintro e w' ⟨rfl, ⟨nd, rfl⟩⟩) | (go_at_call 12; (with_reducible refine (name_Beneath.calls (⟨#[97]⟩ : ByteArray) (⟨#[97, 47, 98]⟩ : ByteArray) false _ A11.out).mono ?_); rintro e w22 ⟨rfl, hb⟩; have n0_ := Aside0.mk (below_step (by repeat (first | (with_reducible first | exact HB.out | apply below_alloc | apply pw_below_drewN | apply below_drew1) | exact HB.out)) hb); clear HB; have HB := n0_; clear n0_; (try clear hb); (try clear hb2); (try clear hk); (try clear hi)))
                go_ret
                exact ⟨by first | rfl | (simp [errW_none, errW_some] <;> rfl) | (simp [*, errW_none, errW_some] <;> rfl), by repeat (first | (with_reducible first | exact HB.out | apply below_alloc | apply pw_below_drewN | apply below_drew1) | exact HB.out)⟩
            · rw [if_neg c10] at H
              have c10b0 : (t116 == (-1)) = false := beq_eq_false_iff_ne.mpr c10
              have c10b1 : (t116 != (-1)) = true := bne_iff_ne.mpr c10
              obtain rfl := Option.some.inj H
              go_enter Tryd.func10, Tryd.ntmps10
              go_wp2_with (first | ((with_reducible refine gate_callee (f := 13) rfl ?_); refine goesL_ (some 8) rfl rfl Tryd.func13 (by kernel_rfl) rfl #[.string (⟨#[97, 47, 98, 32, 99]⟩ : ByteArray)] rfl (by (try simp only [List.map_toArray, List.map_cons, List.map_nil]); first | done | rfl | (simp only [List.length_drop, List.length_take]; rfl)) ?_; (with_reducible refine (name_Check.calls (⟨#[97, 47, 98, 32, 99]⟩ : ByteArray) t110 t111 _ A1.out).mono ?_); rintro e w23 ⟨rfl, hb⟩; refine ⟨_, rfl, ?_⟩; have n0_ := Aside0.mk (below_step (by repeat (first | (with_reducible first | exact HB.out | apply below_alloc | apply pw_below_drewN | apply below_drew1) | exact HB.out)) hb); clear HB; have HB := n0_; clear n0_; (try clear hb); (try clear hb2); (try clear hk); (try clear hi)) | ((with_reducible refine gate_callee (f := 13) rfl ?_); refine goesL_ (some 12) rfl rfl Tryd.func13 (by kernel_rfl) rfl #[.string (⟨#[97, 47, 46, 46, 47, 98]⟩ : ByteArray)] rfl (by (try simp only [List.map_toArray, List.map_cons, List.map_nil]); first | done | rfl | (simp only [List.length_drop, List.length_take]; rfl)) ?_; (with_reducible refine (name_Check.calls (⟨#[97, 47, 46, 46, 47, 98]⟩ : ByteArray) t112 t113 _ A2.out).mono ?_); rintro e w24 ⟨rfl, hb⟩; refine ⟨_, rfl, ?_⟩; have n0_ := Aside0.mk (below_step (by repeat (first | (with_reducible first | exact HB.out | apply below_alloc | apply pw_below_drewN | apply below_drew1) | exact HB.out)) hb); clear HB; have HB := n0_; clear n0_; (try clear hb); (try clear hb2); (try clear hk); (try clear hi)) | ((with_reducible refine gate_callee (f := 8) rfl ?_); refine goesL_ (some 16) rfl rfl Tryd.func8 (by kernel_rfl) rfl #[.string (⟨#[97, 47, 98, 47, 108]⟩ : ByteArray), .string (⟨#[46, 46, 47, 99]⟩ : ByteArray)] rfl (by (try simp only [List.map_toArray, List.map_cons, List.map_nil]); first | done | rfl | (simp only [List.length_drop, List.length_take]; rfl)) ?_; (with_reducible refine (name_Lead.calls (⟨#[97, 47, 98, 47, 108]⟩ : ByteArray) (⟨#[46, 46, 47, 99]⟩ : ByteArray) t114 t115 _ A3.out).mono ?_); rintro e w25 ⟨rfl, hb⟩; refine ⟨_, rfl, ?_⟩; have n0_ := Aside0.mk (below_step (by repeat (first | (with_reducible first | exact HB.out | apply below_alloc | apply pw_below_drewN | apply below_drew1) | exact HB.out)) hb); clear HB; have HB := n0_; clear n0_; (try clear hb); (try clear hb2); (try clear hk); (try clear hi)) | (go_at_call 11; (with_reducible refine (name_Compare.calls k (⟨#[97, 47, 98]⟩ : ByteArray) (⟨#[97, 45, 98]⟩ : ByteArray) t116 _ A9.out).mono ?_); rintro e w' ⟨rfl, ⟨nd, rfl⟩⟩))
              go_ret
              exact ⟨by first | rfl | (simp [errW_none, errW_some] <;> rfl) | (simp [*, errW_none, errW_some] <;> rfl), by repeat (first | (with_reducible first | exact HB.out | apply below_alloc | apply pw_below_drewN | apply below_drew1) | exact HB.out)⟩
          · rw [if_neg c8] at H
            have c8b0 : (t114.toList == ([97, 47, 99] : List UInt8)) = false := beq_eq_false_iff_ne.mpr c8
            have c8b1 : (t114.toList != ([97, 47, 99] : List UInt8)) = true := bne_iff_ne.mpr c8
            obtain rfl := Option.some.inj H
            go_enter Tryd.func10, Tryd.ntmps10
            go_wp2_with (first | ((with_reducible refine gate_callee (f := 13) rfl ?_); refine goesL_ (some 8) rfl rfl Tryd.func13 (by kernel_rfl) rfl #[.string (⟨#[97, 47, 98, 32, 99]⟩ : ByteArray)] rfl (by (try simp only [List.map_toArray, List.map_cons, List.map_nil]); first | done | rfl | (simp only [List.length_drop, List.length_take]; rfl)) ?_; (with_reducible refine (name_Check.calls (⟨#[97, 47, 98, 32, 99]⟩ : ByteArray) t110 t111 _ A1.out).mono ?_); rintro e w26 ⟨rfl, hb⟩; refine ⟨_, rfl, ?_⟩; have n0_ := Aside0.mk (below_step (by repeat (first | (with_reducible first | exact HB.out | apply below_alloc | apply pw_below_drewN | apply below_drew1) | exact HB.out)) hb); clear HB; have HB := n0_; clear n0_; (try clear hb); (try clear hb2); (try clear hk); (try clear hi)) | ((with_reducible refine gate_callee (f := 13) rfl ?_); refine goesL_ (some 12) rfl rfl Tryd.func13 (by kernel_rfl) rfl #[.string (⟨#[97, 47, 46, 46, 47, 98]⟩ : ByteArray)] rfl (by (try simp only [List.map_toArray, List.map_cons, List.map_nil]); first | done | rfl | (simp only [List.length_drop, List.length_take]; rfl)) ?_; (with_reducible refine (name_Check.calls (⟨#[97, 47, 46, 46, 47, 98]⟩ : ByteArray) t112 t113 _ A2.out).mono ?_); rintro e w27 ⟨rfl, hb⟩; refine ⟨_, rfl, ?_⟩; have n0_ := Aside0.mk (below_step (by repeat (first | (with_reducible first | exact HB.out | apply below_alloc | apply pw_below_drewN | apply below_drew1) | exact HB.out)) hb); clear HB; have HB := n0_; clear n0_; (try clear hb); (try clear hb2); (try clear hk); (try clear hi)) | ((with_reducible refine gate_callee (f := 8) rfl ?_); refine goesL_ (some 16) rfl rfl Tryd.func8 (by kernel_rfl) rfl #[.string (⟨#[97, 47, 98, 47, 108]⟩ : ByteArray), .string (⟨#[46, 46, 47, 99]⟩ : ByteArray)] rfl (by (try simp only [List.map_toArray, List.map_cons, List.map_nil]); first | done | rfl | (simp only [List.length_drop, List.length_take]; rfl)) ?_; (with_reducible refine (name_Lead.calls (⟨#[97, 47, 98, 47, 108]⟩ : ByteArray) (⟨#[46, 46, 47, 99]⟩ : ByteArray) t114 t115 _ A3.out).mono ?_); rintro e w28 ⟨rfl, hb⟩; refine ⟨_, rfl, ?_⟩; have n0_ := Aside0.mk (below_step (by repeat (first | (with_reducible first | exact HB.out | apply below_alloc | apply pw_below_drewN | apply below_drew1) | exact HB.out)) hb); clear HB; have HB := n0_; clear n0_; (try clear hb); (try clear hb2); (try clear hk); (try clear hi)))
            go_ret
            exact ⟨by first | rfl | (simp [errW_none, errW_some] <;> rfl) | (simp [*, errW_none, errW_some] <;> rfl), by repeat (first | (with_reducible first | exact HB.out | apply below_alloc | apply pw_below_drewN | apply below_drew1) | exact HB.out)⟩
        · rw [if_neg c7] at H
          have c7b0 : (t115 == 0) = false := beq_eq_false_iff_ne.mpr c7
          have c7b1 : (t115 != 0) = true := bne_iff_ne.mpr c7
          obtain rfl := Option.some.inj H
          go_enter Tryd.func10, Tryd.ntmps10
          go_wp2_with (first | ((with_reducible refine gate_callee (f := 13) rfl ?_); refine goesL_ (some 8) rfl rfl Tryd.func13 (by kernel_rfl) rfl #[.string (⟨#[97, 47, 98, 32, 99]⟩ : ByteArray)] rfl (by (try simp only [List.map_toArray, List.map_cons, List.map_nil]); first | done | rfl | (simp only [List.length_drop, List.length_take]; rfl)) ?_; (with_reducible refine (name_Check.calls (⟨#[97, 47, 98, 32, 99]⟩ : ByteArray) t110 t111 _ A1.out).mono ?_); rintro e w29 ⟨rfl, hb⟩; refine ⟨_, rfl, ?_⟩; have n0_ := Aside0.mk (below_step (by repeat (first | (with_reducible first | exact HB.out | apply below_alloc | apply pw_below_drewN | apply below_drew1) | exact HB.out)) hb); clear HB; have HB := n0_; clear n0_; (try clear hb); (try clear hb2); (try clear hk); (try clear hi)) | ((with_reducible refine gate_callee (f := 13) rfl ?_); refine goesL_ (some 12) rfl rfl Tryd.func13 (by kernel_rfl) rfl #[.string (⟨#[97, 47, 46, 46, 47, 98]⟩ : ByteArray)] rfl (by (try simp only [List.map_toArray, List.map_cons, List.map_nil]); first | done | rfl | (simp only [List.length_drop, List.length_take]; rfl)) ?_; (with_reducible refine (name_Check.calls (⟨#[97, 47, 46, 46, 47, 98]⟩ : ByteArray) t112 t113 _ A2.out).mono ?_); rintro e w30 ⟨rfl, hb⟩; refine ⟨_, rfl, ?_⟩; have n0_ := Aside0.mk (below_step (by repeat (first | (with_reducible first | exact HB.out | apply below_alloc | apply pw_below_drewN | apply below_drew1) | exact HB.out)) hb); clear HB; have HB := n0_; clear n0_; (try clear hb); (try clear hb2); (try clear hk); (try clear hi)) | ((with_reducible refine gate_callee (f := 8) rfl ?_); refine goesL_ (some 16) rfl rfl Tryd.func8 (by kernel_rfl) rfl #[.string (⟨#[97, 47, 98, 47, 108]⟩ : ByteArray), .string (⟨#[46, 46, 47, 99]⟩ : ByteArray)] rfl (by (try simp only [List.map_toArray, List.map_cons, List.map_nil]); first | done | rfl | (simp only [List.length_drop, List.length_take]; rfl)) ?_; (with_reducible refine (name_Lead.calls (⟨#[97, 47, 98, 47, 108]⟩ : ByteArray) (⟨#[46, 46, 47, 99]⟩ : ByteArray) t114 t115 _ A3.out).mono ?_); rintro e w31 ⟨rfl, hb⟩; refine ⟨_, rfl, ?_⟩; have n0_ := Aside0.mk (below_step (by repeat (first | (with_reducible first | exact HB.out | apply below_alloc | apply pw_below_drewN | apply below_drew1) | exact HB.out)) hb); clear HB; have HB := n0_; clear n0_; (try clear hb); (try clear hb2); (try clear hk); (try clear hi)))
          go_ret
          exact ⟨by first | rfl | (simp [errW_none, errW_some] <;> rfl) | (simp [*, errW_none, errW_some] <;> rfl), by repeat (first | (with_reducible first | exact HB.out | apply below_alloc | apply pw_below_drewN | apply below_drew1) | exact HB.out)⟩
      · rw [if_neg c6] at H
        have c6b0 : (t112 == 2) = false := beq_eq_false_iff_ne.mpr c6
        have c6b1 : (t112 != 2) = true := bne_iff_ne.mpr c6
        obtain rfl := Option.some.inj H
        go_enter Tryd.func10, Tryd.ntmps10
        go_wp2_with (first | ((with_reducible refine gate_callee (f := 13) rfl ?_); refine goesL_ (some 8) rfl rfl Tryd.func13 (by kernel_rfl) rfl #[.string (⟨#[97, 47, 98, 32, 99]⟩ : ByteArray)] rfl (by (try simp only [List.map_toArray, List.map_cons, List.map_nil]); first | done | rfl | (simp only [List.length_drop, List.length_take]; rfl)) ?_; (with_reducible refine (name_Check.calls (⟨#[97, 47, 98, 32, 99]⟩ : ByteArray) t110 t111 _ A1.out).mono ?_); rintro e w32 ⟨rfl, hb⟩; refine ⟨_, rfl, ?_⟩; have n0_ := Aside0.mk (below_step (by repeat (first | (with_reducible first | exact HB.out | apply below_alloc | apply pw_below_drewN | apply below_drew1) | exact HB.out)) hb); clear HB; have HB := n0_; clear n0_; (try clear hb); (try clear hb2); (try clear hk); (try clear hi)) | ((with_reducible refine gate_callee (f := 13) rfl ?_); refine goesL_ (some 12) rfl rfl Tryd.func13 (by kernel_rfl) rfl #[.string (⟨#[97, 47, 46, 46, 47, 98]⟩ : ByteArray)] rfl (by (try simp only [List.map_toArray, List.map_cons, List.map_nil]); first | done | rfl | (simp only [List.length_drop, List.length_take]; rfl)) ?_; (with_reducible refine (name_Check.calls (⟨#[97, 47, 46, 46, 47, 98]⟩ : ByteArray) t112 t113 _ A2.out).mono ?_); rintro e w33 ⟨rfl, hb⟩; refine ⟨_, rfl, ?_⟩; have n0_ := Aside0.mk (below_step (by repeat (first | (with_reducible first | exact HB.out | apply below_alloc | apply pw_below_drewN | apply below_drew1) | exact HB.out)) hb); clear HB; have HB := n0_; clear n0_; (try clear hb); (try clear hb2); (try clear hk); (try clear hi)) | ((with_reducible refine gate_callee (f := 8) rfl ?_); refine goesL_ (some 16) rfl rfl Tryd.func8 (by kernel_rfl) rfl #[.string (⟨#[97, 47, 98, 47, 108]⟩ : ByteArray), .string (⟨#[46, 46, 47, 99]⟩ : ByteArray)] rfl (by (try simp only [List.map_toArray, List.map_cons, List.map_nil]); first | done | rfl | (simp only [List.length_drop, List.length_take]; rfl)) ?_; (with_reducible refine (name_Lead.calls (⟨#[97, 47, 98, 47, 108]⟩ : ByteArray) (⟨#[46, 46, 47, 99]⟩ : ByteArray) t114 t115 _ A3.out).mono ?_); rintro e w34 ⟨rfl, hb⟩; refine ⟨_, rfl, ?_⟩; have n0_ := Aside0.mk (below_step (by repeat (first | (with_reducible first | exact HB.out | apply below_alloc | apply pw_below_drewN | apply below_drew1) | exact HB.out)) hb); clear HB; have HB := n0_; clear n0_; (try clear hb); (try clear hb2); (try clear hk); (try clear hi)))
        go_ret
        exact ⟨by first | rfl | (simp [errW_none, errW_some] <;> rfl) | (simp [*, errW_none, errW_some] <;> rfl), by repeat (first | (with_reducible first | exact HB.out | apply below_alloc | apply pw_below_drewN | apply below_drew1) | exact HB.out)⟩
    · rw [if_neg c5] at H
      have c5b0 : (t113 == 81) = false := beq_eq_false_iff_ne.mpr c5
      have c5b1 : (t113 != 81) = true := bne_iff_ne.mpr c5
      obtain rfl := Option.some.inj H
      go_enter Tryd.func10, Tryd.ntmps10
      go_wp2_with (first | ((with_reducible refine gate_callee (f := 13) rfl ?_); refine goesL_ (some 8) rfl rfl Tryd.func13 (by kernel_rfl) rfl #[.string (⟨#[97, 47, 98, 32, 99]⟩ : ByteArray)] rfl (by (try simp only [List.map_toArray, List.map_cons, List.map_nil]); first | done | rfl | (simp only [List.length_drop, List.length_take]; rfl)) ?_; (with_reducible refine (name_Check.calls (⟨#[97, 47, 98, 32, 99]⟩ : ByteArray) t110 t111 _ A1.out).mono ?_); rintro e w35 ⟨rfl, hb⟩; refine ⟨_, rfl, ?_⟩; have n0_ := Aside0.mk (below_step (by repeat (first | (with_reducible first | exact HB.out | apply below_alloc | apply pw_below_drewN | apply below_drew1) | exact HB.out)) hb); clear HB; have HB := n0_; clear n0_; (try clear hb); (try clear hb2); (try clear hk); (try clear hi)) | ((with_reducible refine gate_callee (f := 13) rfl ?_); refine goesL_ (some 12) rfl rfl Tryd.func13 (by kernel_rfl) rfl #[.string (⟨#[97, 47, 46, 46, 47, 98]⟩ : ByteArray)] rfl (by (try simp only [List.map_toArray, List.map_cons, List.map_nil]); first | done | rfl | (simp only [List.length_drop, List.length_take]; rfl)) ?_; (with_reducible refine (name_Check.calls (⟨#[97, 47, 46, 46, 47, 98]⟩ : ByteArray) t112 t113 _ A2.out).mono ?_); rintro e w36 ⟨rfl, hb⟩; refine ⟨_, rfl, ?_⟩; have n0_ := Aside0.mk (below_step (by repeat (first | (with_reducible first | exact HB.out | apply below_alloc | apply pw_below_drewN | apply below_drew1) | exact HB.out)) hb); clear HB; have HB := n0_; clear n0_; (try clear hb); (try clear hb2); (try clear hk); (try clear hi)) | ((with_reducible refine gate_callee (f := 8) rfl ?_); refine goesL_ (some 16) rfl rfl Tryd.func8 (by kernel_rfl) rfl #[.string (⟨#[97, 47, 98, 47, 108]⟩ : ByteArray), .string (⟨#[46, 46, 47, 99]⟩ : ByteArray)] rfl (by (try simp only [List.map_toArray, List.map_cons, List.map_nil]); first | done | rfl | (simp only [List.length_drop, List.length_take]; rfl)) ?_; (with_reducible refine (name_Lead.calls (⟨#[97, 47, 98, 47, 108]⟩ : ByteArray) (⟨#[46, 46, 47, 99]⟩ : ByteArray) t114 t115 _ A3.out).mono ?_); rintro e w37 ⟨rfl, hb⟩; refine ⟨_, rfl, ?_⟩; have n0_ := Aside0.mk (below_step (by repeat (first | (with_reducible first | exact HB.out | apply below_alloc | apply pw_below_drewN | apply below_drew1) | exact HB.out)) hb); clear HB; have HB := n0_; clear n0_; (try clear hb); (try clear hb2); (try clear hk); (try clear hi)))
      go_ret
      exact ⟨by first | rfl | (simp [errW_none, errW_some] <;> rfl) | (simp [*, errW_none, errW_some] <;> rfl), by repeat (first | (with_reducible first | exact HB.out | apply below_alloc | apply pw_below_drewN | apply below_drew1) | exact HB.out)⟩
  · rw [if_neg c4] at H
    have c4b0 : (t111 == 0) = false := beq_eq_false_iff_ne.mpr c4
    have c4b1 : (t111 != 0) = true := bne_iff_ne.mpr c4
    obtain rfl := Option.some.inj H
    go_enter Tryd.func10, Tryd.ntmps10
    go_wp2_with (first | ((with_reducible refine gate_callee (f := 13) rfl ?_); refine goesL_ (some 8) rfl rfl Tryd.func13 (by kernel_rfl) rfl #[.string (⟨#[97, 47, 98, 32, 99]⟩ : ByteArray)] rfl (by (try simp only [List.map_toArray, List.map_cons, List.map_nil]); first | done | rfl | (simp only [List.length_drop, List.length_take]; rfl)) ?_; (with_reducible refine (name_Check.calls (⟨#[97, 47, 98, 32, 99]⟩ : ByteArray) t110 t111 _ A1.out).mono ?_); rintro e w38 ⟨rfl, hb⟩; refine ⟨_, rfl, ?_⟩; have n0_ := Aside0.mk (below_step (by repeat (first | (with_reducible first | exact HB.out | apply below_alloc | apply pw_below_drewN | apply below_drew1) | exact HB.out)) hb); clear HB; have HB := n0_; clear n0_; (try clear hb); (try clear hb2); (try clear hk); (try clear hi)) | ((with_reducible refine gate_callee (f := 13) rfl ?_); refine goesL_ (some 12) rfl rfl Tryd.func13 (by kernel_rfl) rfl #[.string (⟨#[97, 47, 46, 46, 47, 98]⟩ : ByteArray)] rfl (by (try simp only [List.map_toArray, List.map_cons, List.map_nil]); first | done | rfl | (simp only [List.length_drop, List.length_take]; rfl)) ?_; (with_reducible refine (name_Check.calls (⟨#[97, 47, 46, 46, 47, 98]⟩ : ByteArray) t112 t113 _ A2.out).mono ?_); rintro e w39 ⟨rfl, hb⟩; refine ⟨_, rfl, ?_⟩; have n0_ := Aside0.mk (below_step (by repeat (first | (with_reducible first | exact HB.out | apply below_alloc | apply pw_below_drewN | apply below_drew1) | exact HB.out)) hb); clear HB; have HB := n0_; clear n0_; (try clear hb); (try clear hb2); (try clear hk); (try clear hi)) | ((with_reducible refine gate_callee (f := 8) rfl ?_); refine goesL_ (some 16) rfl rfl Tryd.func8 (by kernel_rfl) rfl #[.string (⟨#[97, 47, 98, 47, 108]⟩ : ByteArray), .string (⟨#[46, 46, 47, 99]⟩ : ByteArray)] rfl (by (try simp only [List.map_toArray, List.map_cons, List.map_nil]); first | done | rfl | (simp only [List.length_drop, List.length_take]; rfl)) ?_; (with_reducible refine (name_Lead.calls (⟨#[97, 47, 98, 47, 108]⟩ : ByteArray) (⟨#[46, 46, 47, 99]⟩ : ByteArray) t114 t115 _ A3.out).mono ?_); rintro e w40 ⟨rfl, hb⟩; refine ⟨_, rfl, ?_⟩; have n0_ := Aside0.mk (below_step (by repeat (first | (with_reducible first | exact HB.out | apply below_alloc | apply pw_below_drewN | apply below_drew1) | exact HB.out)) hb); clear HB; have HB := n0_; clear n0_; (try clear hb); (try clear hb2); (try clear hk); (try clear hi)))
    go_ret
    exact ⟨by first | rfl | (simp [errW_none, errW_some] <;> rfl) | (simp [*, errW_none, errW_some] <;> rfl), by repeat (first | (with_reducible first | exact HB.out | apply below_alloc | apply pw_below_drewN | apply below_drew1) | exact HB.out)⟩
end Go.Proofs.YtnceocjgcdcpgaaDoor.XK
end
