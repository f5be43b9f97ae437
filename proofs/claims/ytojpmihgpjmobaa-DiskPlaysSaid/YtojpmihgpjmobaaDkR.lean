/- No disk: the methods' answers; the law DiskNil. -/
import Derived.Test.YtojpmihgpjmobaaDkQ
namespace Go.Proofs.Ytojpmihgpjmobaa.X
open Go Go.RowKit Go.Maps Go.Shelf Go.Proofs.Ytojpmihgpjmobaa Go.Proofs.YtojpmihgpjmobaaW.PrintWords Go.Proofs.YtojpmihgpjmobaaW.PrintLast Go.Proofs.YtojpmihgpjmobaaW.PrintMore
set_option linter.unusedVariables false
set_option linter.unusedSimpArgs false

theorem restart_nil (W : World) (v : Value) : Calls Try.prog 16 #[.pointer none, v] W fun e w' => e = .returned (.tuple #[]) ∧ w' = W := by
  go_enter Try.func16, Try.ntmps16
  go_wp2
  (try simp only [Exit.inBlock, Exit.then])
  refine bodyPost_ret (results_none rfl _ _ _) rfl ?_
  exact ⟨rfl, rfl⟩
theorem sync_nil (W : World) : Calls Try.prog 12 #[.pointer none] W fun e w' => e = .returned (.int .i64 8) ∧ w' = W := by
  go_enter Try.func12, Try.ntmps12
  go_wp2_with fail
  refine (usable_nil _).mono ?_
  rintro e w' ⟨rfl, hq⟩
  obtain rfl := hq.symm
  go_wp2
  go_ret
  exact ⟨rfl, rfl⟩
theorem read_nil (W : World) (a n : Int) : Calls Try.prog 13 #[.pointer none, .int .i64 a, .int .i64 n] W fun e w' => e = .returned (.tuple #[.slice none 0 0, .int .i64 8]) ∧ w' = W := by
  go_enter Try.func13, Try.ntmps13
  go_wp2_with fail
  refine (usable_nil _).mono ?_
  rintro e w' ⟨rfl, hq⟩
  obtain rfl := hq.symm
  go_wp2
  go_ret2
  exact ⟨rfl, rfl⟩
theorem write_nil (W : World) (a : Int) (v : Value) : Calls Try.prog 11 #[.pointer none, .int .i64 a, v] W fun e w' => e = .returned (.int .i64 8) ∧ Below W.heap.size W w' := by
  go_enter Try.func11, Try.ntmps11
  go_wp2_with fail
  refine (usable_nil _).mono ?_
  rintro e w' ⟨rfl, hq⟩
  obtain rfl := hq.symm
  go_wp2
  go_ret
  exact ⟨rfl, (Below.refl _ _).alloc (Nat.le_refl _) _ |>.alloc (by simp) _⟩
theorem rot_nil (W : World) (a p b : Int) : Calls Try.prog 19 #[.pointer none, .int .i64 a, .int .i64 p, .int .u8 b] W fun e w' => e = .returned (.int .i64 8) ∧ w' = W := by
  go_enter Try.func19, Try.ntmps19
  go_wp2
  go_ret
  exact ⟨rfl, rfl⟩

/-- An act that was read. -/
structure SAct where
  f0 : Int
  f1 : Int
  f2 : Int
  f3 : List Int
  f4 : List Int
  f5 : Int
def kAct : Kd SAct := Kd.iso (Kd.pair (Kd.int .i64) (Kd.pair (Kd.int .i64) (Kd.pair (Kd.int .i64) (Kd.pair (Kd.slice 5 (Kd.int .u8)) (Kd.pair (Kd.slice 3 (Kd.int .i64)) (Kd.int .u8)))))) (fun x : SAct => (x.f0, x.f1, x.f2, x.f3, x.f4, x.f5))
def cellsAct (x : SAct) (A3 : Option Addr) (c3 : Nat) (A4 : Option Addr) (c4 : Nat) : Array Value := #[.int .i64 x.f0, .int .i64 x.f1, .int .i64 x.f2, .slice A3 x.f3.length c3, .slice A4 x.f4.length c4, .int .u8 x.f5]
theorem kAct_open {w : World} {x : SAct} {cs : List Value} (h : kAct.K w x cs) : ∃ A3 c3 A4 c4, cs = (cellsAct x A3 c3 A4 c4).toList ∧ (x.f3.length ≤ c3 ∧ (Kd.int .u8).C w A3 x.f3.length x.f3) ∧ x.f4.length ≤ c4 ∧ (Kd.int .i64).C w A4 x.f4.length x.f4 := by
  obtain ⟨_, _, rfl, rfl, ⟨_, _, rfl, rfl, ⟨_, _, rfl, rfl, ⟨_, _, rfl, ⟨A3, c3, rfl, l3, g3⟩, ⟨_, _, rfl, ⟨A4, c4, rfl, l4, g4⟩, rfl⟩⟩⟩⟩⟩ := h
  exact ⟨A3, c3, A4, c4, rfl, ⟨l3, g3⟩, l4, g4⟩
set_option maxRecDepth 100000 in
set_option maxHeartbeats 4000000 in
theorem diskNil_any (w : World) (x : SAct) (A3 : Option Addr) (c3 : Nat) (A4 : Option Addr) (c4 : Nat) : Calls Try.prog 7 #[.agg (cellsAct x A3 c3 A4 c4)] w fun e w' => e = .returned (.bool true) ∧ Below w.heap.size w w' := by
  unfold cellsAct
  go_enter Try.func7, Try.ntmps7
  go_wp2_with fail
  refine (fuse_nil _ _).mono ?_
  rintro e w1 ⟨rfl, hq⟩
  obtain rfl := hq.symm
  go_wp2_with fail
  refine (kill_nil _).mono ?_
  rintro e w1 ⟨rfl, hq⟩
  obtain rfl := hq.symm
  go_wp2_with fail
  refine (restart_nil _ _).mono ?_
  rintro e w1 ⟨rfl, hq⟩
  obtain rfl := hq.symm
  go_wp2_with fail
  refine (read_nil _ _ _).mono ?_
  rintro e w1 ⟨rfl, hq⟩
  obtain rfl := hq.symm
  go_wp2_with fail
  refine (write_nil _ _ _).mono ?_
  rintro e w1 ⟨rfl, hb⟩
  have g1 := (hb.cell (p := ⟨w.heap.size, 1, none⟩) (by simp)).trans ((blk_cell (blk_new w _) 1).trans rfl)
  have g2 := (hb.cell (p := ⟨w.heap.size, 2, none⟩) (by simp)).trans ((blk_cell (blk_new w _) 2).trans rfl)
  have g5 := (hb.cell (p := ⟨w.heap.size, 5, none⟩) (by simp)).trans ((blk_cell (blk_new w _) 5).trans rfl)
  go_wp2_with fail
  refine (sync_nil _).mono ?_
  rintro e w2 ⟨rfl, hq⟩
  obtain rfl := hq.symm
  go_wp2_with fail
  refine (size_nil _).mono ?_
  rintro e w2 ⟨rfl, hq⟩
  obtain rfl := hq.symm
  go_wp2_with fail
  refine (waiting_nil _).mono ?_
  rintro e w2 ⟨rfl, hq⟩
  obtain rfl := hq.symm
  go_wp2_with fail
  refine (dead_nil _).mono ?_
  rintro e w2 ⟨rfl, hq⟩
  obtain rfl := hq.symm
  go_wp2_with fail
  refine (rot_nil _ _ _ _).mono ?_
  rintro e w2 ⟨rfl, hq⟩
  obtain rfl := hq.symm
  go_wp2_with fail
  refine (wakes_any _).mono ?_
  rintro e w2 ⟨rfl, hb2⟩
  go_wp2
  go_ret
  have hb0 : Below w.heap.size w w1 := (((Below.refl _ _).alloc (Nat.le_refl _) _).trans (hb.mono (by simp)))
  exact ⟨rfl, hb0.trans (hb2.mono hb0.size)⟩
end Go.Proofs.Ytojpmihgpjmobaa.X
