/- slices.Chunk at bytes, by 64: its iterator, for every loop body that keeps its two boxes. -/
import Derived.RangeFuncNested
import Derived.RangeFuncBound
import Derived.RangeFuncCalls
import Derived.RangeFuncLeaves
import Derived.RangeFuncWrites
import Derived.RangeFuncFrom
import Derived.Shelf.Abstract
import Derived.Shelf.RegionOpen
import Derived.WalkKit
import Derived.OwnWalkIn
import Derived.TacticsInMore
import Derived.LoopNIn
import Derived.LoopIn
import Derived.Outline
import Derived.Deep.DeepMust
import Derived.Test.YtojpmihgpjmobaaDkH
namespace Go.Proofs.Ytojpmihgpjmobaa.X
open Go Go.RowKit Go.Maps Go.Shelf Go.Proofs.Ytojpmihgpjmobaa Go.Proofs.YtojpmihgpjmobaaW.PrintWords Go.Proofs.YtojpmihgpjmobaaW.PrintLast Go.Proofs.YtojpmihgpjmobaaW.PrintMore
attribute [local go_sem] Oper.semAt_some
set_option linter.unusedVariables false
set_option linter.unusedSimpArgs false

abbrev cEnc (ad : Addr) {m : Nat} (x : Fin m) : Array Value := #[.slice (some (ad.add (64 * x.val))) 64 64]
def Kp2 (Bs : Nat) (A B : World) : Prop := B.cell? ⟨Bs, 0, none⟩ = A.cell? ⟨Bs, 0, none⟩ ∧ B.cell? ⟨Bs + 1, 0, none⟩ = A.cell? ⟨Bs + 1, 0, none⟩
theorem finTake_snoc {m a : Nat} (h : a < m) : (List.finRange m).take a ++ [⟨a, h⟩] = (List.finRange m).take (a + 1) := by
  rw [List.take_succ_eq_append_getElem (by simpa using h)]
  simp
set_option maxRecDepth 100000 in
set_option maxHeartbeats 2000000 in
theorem chunk1_in (n : Nat) (hn : 1 ≤ n) (l Bs : Nat) (A : Option Addr) (ad : Addr) (m c : Nat) (hm : m ≤ 1099511627776) (hc : 64 * m ≤ c) (hA : 0 < m → A = some ad) (J Jx : List (Fin m) → World → Prop)
    (hJd : ∀ pre W, J pre W → J pre W.drew) (hY : ∀ pre x W, J pre W → pre.length < m → YieldAt Fence.wide (n - 1) Try.prog l (cEnc ad x) W fun e W' =>
      (e = .returned (.bool true) ∧ J (pre ++ [x]) W' ∧ Kp2 Bs W W') ∨ (e = .returned (.bool false) ∧ Jx (pre ++ [x]) W'))
    (W : World) (h1 : W.cell? ⟨Bs, 0, none⟩ = some (.slice A (64 * m) c)) (h2 : W.cell? ⟨Bs + 1, 0, none⟩ = some (.int .i64 64)) (h0 : J [] W) :
    CallsIn Fence.wide n Try.prog 40 #[.func (.yield l) #[] #[], .pointer (some ⟨Bs, 0, none⟩), .pointer (some ⟨Bs + 1, 0, none⟩)] W fun e W' => (∃ v, e = .returned v) ∧
      ((∃ ys, ys = List.finRange m ∧ J ys W') ∨ (∃ pre, pre <+: List.finRange m ∧ Jx pre W')) := by
  have mixed : Try.prog.follows Departure.mixedOrders = true := by kernel_rfl
  refine callsIn_of_wp Try.func40 rfl trivial ?_ rfl
  simp only [Try.ntmps40, List.size_toArray, List.length_cons, List.length_nil, Nat.reduceAdd, Nat.reduceSub, Array.replicate_succ, Array.replicate_zero, List.push_toArray, List.append_toArray, List.nil_append, List.cons_append]
  gi_wp2
  gi_loopw [4] (fun v wr => ∃ a : Nat, v = .int .i64 ((64 * a : Nat) : Int) ∧ a ≤ m ∧ wr.cell? ⟨Bs, 0, none⟩ = some (.slice A (64 * m) c) ∧ wr.cell? ⟨Bs + 1, 0, none⟩ = some (.int .i64 64) ∧ Aside0 (J ((List.finRange m).take a) wr))
    (fun v _ => 64 * m + 1 - (intOf v).toNat)
  case atStart => exact ⟨0, rfl, Nat.zero_le _, h1, h2, ⟨h0⟩⟩
  case round =>
    obtain ⟨a, rfl, ha, hc1, hc2, hJ⟩ := hrel
    by_cases hlt : a < m
    · have hA' := hA (by omega)
      subst hA'
      have w1 : IntKind.i64.wrap (64 * (a : Int) + 64) = 64 * (a : Int) + 64 := by rw [IntKind.wrap_i64]; omega
      have d1 : decide (64 * (a : Int) < 64 * (m : Int)) = true := decide_eq_true (by omega)
      have b0 : (0 : Int) ≤ 64 * (a : Int) := by omega
      have b1 : 64 * (a : Int) ≤ 64 * (m : Int) := by omega
      have b2 : 64 * (a : Int) ≤ 64 * (a : Int) + 64 := by omega
      have b3 : 64 * (a : Int) + 64 ≤ (c : Int) := by omega
      have t1 : (64 * (a : Int)).toNat = 64 * a := by omega
      have t2 : (64 * (a : Int) + 64).toNat = 64 * a + 64 := by omega
      have t3 : 64 * a + 64 - 64 * a = 64 := by omega
      have ne : ¬ c = 64 * a := by omega
      have ne2 : ¬ 64 * a + 64 = 64 * a := by omega
      gi_wp2_with fail
      have hmin : min (64 : Int) ((64 * m - 64 * a : Nat) : Int) = 64 := by omega
      gi_region_with_o (fail)
      all_goals
        obtain ⟨fn, tmps, assign, body, hy, hR⟩ := hY ((List.finRange m).take a) ⟨a, hlt⟩ wr.drew (hJd _ _ hJ.out) (by simp; omega)
        have HR := Lib.hid hR
        clear hR
        dsimp only [cEnc] at hy
        have hd1 : wr.drew.cell? ⟨Bs, 0, none⟩ = some (.slice (some ad) (64 * m) c) := hc1
        have hd2 : wr.drew.cell? ⟨Bs + 1, 0, none⟩ = some (.int .i64 64) := hc2
        gi_wp2_with fail
        refine HR.out.mono ?_
        rintro e W' (⟨rfl, hJ', hk⟩ | ⟨rfl, hJx'⟩)
        · have hk1 := hk.1.trans hd1
          have hk2 := hk.2.trans hd2
          rw [finTake_snoc hlt] at hJ'
          have HJ' := Aside0.mk hJ'
          clear hJ' hk hd1 hd2
          gi_wp2_with fail
          go_roundw
          case rel => exact ⟨a + 1, by go_num, by omega, hk1, hk2, HJ'⟩
          case measure => simp [intOf]; omega
        · rw [finTake_snoc hlt] at hJx'
          gi_wp2_with fail
          refine bodyPost_ret (results_none rfl _ _ _) rfl ?_
          exact ⟨⟨_, rfl⟩, .inr ⟨_, List.take_prefix _ _, hJx'⟩⟩
    · obtain rfl : a = m := by omega
      have hfin : (List.finRange a).take a = List.finRange a := List.take_of_length_le (by simp)
      rw [hfin] at hJ
      gi_wp2_with fail
      go_end0
      exact ⟨⟨_, rfl⟩, .inl ⟨_, rfl, hJ.out⟩⟩
end Go.Proofs.Ytojpmihgpjmobaa.X
