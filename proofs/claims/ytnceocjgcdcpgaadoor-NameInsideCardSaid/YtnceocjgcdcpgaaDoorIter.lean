/- The contract of name.Each: the iterator over the pieces of a text, for every loop body that keeps the text's own box. -/
import Derived.RangeFuncNested
import Derived.RangeFuncBound
import Derived.RangeFuncCalls
import Derived.RangeFuncLeaves
import Derived.RangeFuncFrom
import Derived.Shelf.Abstract
import Derived.Shelf.RegionOpen
import Derived.WalkKit
import Derived.OwnWalkIn
import Derived.TacticsInMore
import Derived.LoopNIn
import Derived.LoopIn
import Derived.IntWalk
import Derived.Lib.IndexBytes
import Derived.Lib.Join
import Derived.Lib.PathFns
import Derived.Lib.Hide
import Derived.Outline
import Derived.Deep.DeepMust
import Derived.Test.YtnceocjgcdcpgaaDoorShelf
import Derived.Test.YtnceocjgcdcpgaaDoorNm
namespace Go.Proofs.YtnceocjgcdcpgaaDoor
open Go.RowKit Go.Shelf
attribute [local go_sem] Oper.semAt_some

theorem cell_of_box_l {w : World} {b : Nat} {v : Value} {t : TypeId} (h : w.heap[b]? = some (.cells #[v] t (0, 0))) : w.cell? ⟨b, 0, none⟩ = some v ∧ w.frozen? ⟨b, 0, none⟩ = false :=
  ⟨by simp [World.cell?, h], by simp [World.frozen?, h]⟩
theorem cell_new_l (W : World) (v : Value) (t : TypeId) : (W.alloc (.cells #[v] t)).cell? ⟨W.heap.size, 0, none⟩ = some v ∧ (W.alloc (.cells #[v] t)).frozen? ⟨W.heap.size, 0, none⟩ = false :=
  cell_of_box_l (World.alloc_heap_new W _)
theorem cell_alloc_l {W : World} {a : Addr} {v : Value} (o : Obj) (h : W.cell? a = some v) : (W.alloc o).cell? a = some v := cell_kept h (World.grownBy_alloc W o none) (fun r e => by cases e)
theorem frozen_alloc_l {W : World} {a : Addr} {v : Value} (o : Obj) (h : W.cell? a = some v) (hf : W.frozen? a = false) : (W.alloc o).frozen? a = false := (frozen_kept h (World.grownBy_alloc W o none) (fun r e => by cases e)).trans hf

/-- A piece as the loop's two variables. -/
abbrev pEnc (x : Nat × ByteArray) : Array Value := #[.int .i64 (x.1 : Int), .string x.2]
def bytesOfL (l : List UInt8) : ByteArray := ⟨l.toArray⟩
/-- The pieces from a place on. -/
def piecesB (at_ : Nat) (l : List UInt8) : List (Nat × ByteArray) := (Nm.pieces at_ l).map fun x => (x.1, bytesOfL x.2)

theorem piecesB_none (p : ByteArray) (a : Nat) (h : Lib.indexByte (p.data.toList.drop a) 47 = -1) : piecesB a (p.data.toList.drop a) = [(a, p.extract a p.size)] := by
  unfold piecesB
  rw [Nm.pieces_none _ _ h, Lib.extract_from]
  rfl
theorem piecesB_some (p : ByteArray) (a n : Nat) (h : Lib.indexByte (p.data.toList.drop a) 47 = n) : piecesB a (p.data.toList.drop a) = (a, p.extract a (a + n)) :: piecesB (a + n + 1) (p.data.toList.drop (a + n + 1)) := by
  unfold piecesB
  rw [Nm.pieces_some _ _ _ h, Lib.extract_eq, List.drop_drop, Nat.add_sub_cancel_left, show a + (n + 1) = a + n + 1 from by omega]
  rfl
theorem piecesB_ne (a : Nat) (l : List UInt8) : piecesB a l ≠ [] := by simp [piecesB, Nm.pieces]
theorem found_lt (p : ByteArray) (a n : Nat) (h : Lib.indexByte (p.data.toList.drop a) 47 = n) : a + n + 1 ≤ p.size := by
  have := (Nm.pc_some _ 0 n h).1
  rw [List.length_drop, Array.length_toList] at this
  have e : p.data.size = p.size := rfl
  omega

theorem slice_run (p : ByteArray) (a m : Nat) (h : a + m ≤ p.size) (wx : World) :
    (Instr.slice 9 (.string p) (some (.int .i64 a)) (some (.int .i64 ((a : Int) + (m : Int)))) none).run Tryd.prog wx = .ok (.string (p.extract a (a + m))) wx := by
  rw [run_slice_string (P := Tryd.prog) (w := wx) 9 p .i64 .i64 (a : Int) ((a : Int) + (m : Int)) Tryd.underlying9 (by omega) (by omega) (by omega)]
  rw [Int.toNat_natCast, show ((a : Int) + (m : Int)).toNat = a + m from by omega]
/-- strings.IndexByte at a byte. -/
theorem ibyte (s : ByteArray) (c : UInt8) (w : World) :
    Calls Tryd.prog 20 #[.string s, .int .u8 (c.toNat : Int)] w fun e w' => e = .returned (.int .i64 (Lib.indexByte s.data.toList c)) ∧ w = w' := by
  refine (Tryd.strings_IndexByte s c.toNat w).mono ?_
  rintro e w' ⟨rfl, rfl⟩
  exact ⟨by simp, rfl⟩

set_option maxRecDepth 100000 in
set_option maxHeartbeats 2000000 in
/-- **The closure that name.Each hands back: for every loop body that keeps the text's box.** -/
theorem each1_in (n : Nat) (hn : 1 ≤ n) (l Bn : Nat) (p : ByteArray) (hp : p.size ≤ 140737488355328) (J Jx : List (Nat × ByteArray) → World → Prop)
    (hY : ∀ pre x W, J pre W → pre.length < (piecesB 0 p.data.toList).length → YieldAt Fence.wide (n - 1) Tryd.prog l (pEnc x) W fun e W' =>
      (e = .returned (.bool true) ∧ J (pre ++ [x]) W' ∧ W'.cell? ⟨Bn, 0, none⟩ = W.cell? ⟨Bn, 0, none⟩) ∨ (e = .returned (.bool false) ∧ Jx (pre ++ [x]) W'))
    (W : World) (hBn : W.cell? ⟨Bn, 0, none⟩ = some (.string p)) (h0 : J [] W) :
    CallsIn Fence.wide n Tryd.prog 34 #[.func (.yield l) #[] #[], .pointer (some ⟨Bn, 0, none⟩)] W fun e W' => (∃ v, e = .returned v) ∧
      ((∃ ys, ys = piecesB 0 p.data.toList ∧ J ys W') ∨ (∃ pre, pre <+: piecesB 0 p.data.toList ∧ Jx pre W')) := by
  refine callsIn_of_wp Tryd.func34 rfl trivial ?_ rfl
  simp only [Tryd.ntmps34, List.size_toArray, List.length_cons, List.length_nil, Nat.reduceAdd, Nat.reduceSub, Array.replicate_succ, Array.replicate_zero, List.push_toArray, List.append_toArray, List.nil_append, List.cons_append]
  gi_wp2
  gi_loopw [3] (fun v wr => ∃ (pre : List (Nat × ByteArray)) (a : Nat), v = .int .i64 a ∧ a ≤ p.size ∧ Hid (piecesB 0 p.data.toList = pre ++ piecesB a (p.data.toList.drop a)) ∧ wr.cell? ⟨Bn, 0, none⟩ = some (.string p) ∧ J pre wr)
    (fun v _ => p.size + 1 - (intOf v).toNat)
  case atStart => exact ⟨[], 0, rfl, Nat.zero_le _, Lib.hid (by simp), hBn, h0⟩
  case round =>
    obtain ⟨pre, a, rfl, ha, hpre, hc, hJ⟩ := hrel
    have hlen : pre.length < (piecesB 0 p.data.toList).length := by
      rw [hpre.out, List.length_append]
      have := List.length_pos_iff.2 (piecesB_ne a (p.data.toList.drop a))
      omega
    have hcz : a ≤ p.size := ha
    by_cases hi : Lib.indexByte (p.data.toList.drop a) 47 = -1
    · have hpn := piecesB_none p a hi
      obtain ⟨fn, tmps, assign, body, hy, hR⟩ := hY pre (a, p.extract a p.size) wr hJ hlen
      have HR := Lib.hid hR
      clear hR
      have Hpn := Lib.hid hpn
      have Hi := Lib.hid hi
      clear hpn hi
      dsimp only [pEnc] at hy
      gi_wp2_with fail
      refine ⟨trivial, ?_⟩
      refine (callsIn_wide.2 (ibyte _ 47 _)).mono ?_
      rw [Lib.extract_to_end, Hi.out]
      rintro e w' ⟨rfl, rfl⟩
      gi_wp2_with fail
      refine HR.out.mono ?_
      rintro e W' (⟨rfl, hJ', hk⟩ | ⟨rfl, hJx'⟩)
      · gi_wp2_with fail
        refine bodyPost_ret (results_none rfl _ _ _) rfl ?_
        exact ⟨⟨_, rfl⟩, .inl ⟨_, rfl, by rw [hpre.out, Hpn.out]; exact hJ'⟩⟩
      · gi_wp2_with fail
        refine bodyPost_ret (results_none rfl _ _ _) rfl ?_
        exact ⟨⟨_, rfl⟩, .inr ⟨_, by rw [hpre.out, Hpn.out]; exact List.prefix_refl _, hJx'⟩⟩
    · obtain ⟨m, hm⟩ : ∃ m : Nat, Lib.indexByte (p.data.toList.drop a) 47 = m := ⟨(Lib.indexByte (p.data.toList.drop a) 47).toNat, by have := Lib.indexByte_ge (p.data.toList.drop a) 47; omega⟩
      have hpn := piecesB_some p a m hm
      have hml := found_lt p a m hm
      obtain ⟨fn, tmps, assign, body, hy, hR⟩ := hY pre (a, p.extract a (a + m)) wr hJ hlen
      have HR := Lib.hid hR
      have Hpn := Lib.hid hpn
      have Hm := Lib.hid hm
      clear hpn hm hi hR
      dsimp only [pEnc] at hy
      have hsl := slice_run p a m (by omega)
      gi_wp2_with fail
      refine ⟨trivial, ?_⟩
      refine (callsIn_wide.2 (ibyte _ 47 _)).mono ?_
      rw [Lib.extract_to_end, Hm.out]
      rintro e w' ⟨rfl, rfl⟩
      gi_wp2_with fail
      refine HR.out.mono ?_
      rintro e W' (⟨rfl, hJ', hk⟩ | ⟨rfl, hJx'⟩)
      · gi_wp2_with fail
        go_roundw
        case rel => exact ⟨pre ++ [(a, p.extract a (a + m))], a + m + 1, by go_num, by omega, Lib.hid (by rw [hpre.out, Hpn.out]; simp), hk.trans hc, hJ'⟩
        case measure => simp [intOf]; omega
      · gi_wp2_with fail
        refine bodyPost_ret (results_none rfl _ _ _) rfl ?_
        exact ⟨⟨_, rfl⟩, .inr ⟨_, by rw [hpre.out, Hpn.out]; exact ⟨_, List.append_assoc _ _ _⟩, hJx'⟩⟩
end Go.Proofs.YtnceocjgcdcpgaaDoor
