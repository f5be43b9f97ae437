/- Acts that are read; great. -/
import Derived.Test.YtojpmihgpjmobaaDkS
namespace Go.Proofs.Ytojpmihgpjmobaa.X
open Go Go.RowKit Go.Maps Go.Shelf Go.Proofs.Ytojpmihgpjmobaa Go.Proofs.YtojpmihgpjmobaaW.PrintWords Go.Proofs.YtojpmihgpjmobaaW.PrintLast Go.Proofs.YtojpmihgpjmobaaW.PrintMore
set_option linter.unusedVariables false
set_option linter.unusedSimpArgs false

/-- An act lies at a place: its numbers, its slices. -/
def ActAt (W : World) (ad : Addr) (x : SAct) (A3 : Option Addr) (c3 : Nat) (A4 : Option Addr) (c4 : Nat) : Prop :=
  (W.cell? ad = some (.int .i64 x.f0) ∧ W.cell? ⟨ad.block, ad.off + 1, none⟩ = some (.int .i64 x.f1) ∧ W.cell? ⟨ad.block, ad.off + 2, none⟩ = some (.int .i64 x.f2)) ∧ (W.cell? ⟨ad.block, ad.off + 3, none⟩ = some (.slice A3 x.f3.length c3) ∧ W.cell? ⟨ad.block, ad.off + 4, none⟩ = some (.slice A4 x.f4.length c4)) ∧ W.cell? ⟨ad.block, ad.off + 5, none⟩ = some (.int .u8 x.f5) ∧ x.f3.length ≤ c3 ∧ (Kd.int .u8).C W A3 x.f3.length x.f3 ∧ x.f4.length ≤ c4 ∧ (Kd.int .i64).C W A4 x.f4.length x.f4
def zAct : SAct := ⟨0, 0, 0, [], [], 0⟩
theorem act_at {w W : World} {A : Option Addr} {n : Nat} {xs : List SAct} (h : kAct.C w A n xs) (hb : Below w.heap.size w W) (i : Nat) (hi : i < n) : ∃ ad A3 c3 A4 c4, A = some ad ∧ ActAt W (ad.add (i * 6)) (xs.getD i zAct) A3 c3 A4 c4 ∧ ActAt w (ad.add (i * 6)) (xs.getD i zAct) A3 c3 A4 c4 := by
  obtain ⟨ad, c, e, _, hK, hc0⟩ := Kd.C_get h zAct (i : Int) (by omega) (by omega)
  rw [Int.toNat_natCast] at hK hc0
  obtain ⟨A3, c3, A4, c4, rfl, ⟨l3, g3⟩, l4, g4⟩ := kAct_open hK
  have hc : ∀ j u, (cellsAct (xs.getD i zAct) A3 c3 A4 c4).toList[j]? = some u → w.cell? (ad.add (i * 6 + j)) = some u := hc0
  have st : ∀ {a : Addr} {v : Value}, w.cell? a = some v → W.cell? a = some v := fun {a v} hv => (hb.cell (World.block_lt_of_cell? w _ hv)).trans hv
  have k0 : w.cell? (ad.add (i * 6)) = some (.int .i64 (xs.getD i zAct).f0) := hc 0 _ rfl
  have k1 : w.cell? ⟨(ad.add (i * 6)).block, (ad.add (i * 6)).off + 1, none⟩ = some (.int .i64 (xs.getD i zAct).f1) := by rw [← add_field _ _ 1 (by omega)]; exact hc 1 _ rfl
  have k2 : w.cell? ⟨(ad.add (i * 6)).block, (ad.add (i * 6)).off + 2, none⟩ = some (.int .i64 (xs.getD i zAct).f2) := by rw [← add_field _ _ 2 (by omega)]; exact hc 2 _ rfl
  have k3 : w.cell? ⟨(ad.add (i * 6)).block, (ad.add (i * 6)).off + 3, none⟩ = some (.slice A3 (xs.getD i zAct).f3.length c3) := by rw [← add_field _ _ 3 (by omega)]; exact hc 3 _ rfl
  have k4 : w.cell? ⟨(ad.add (i * 6)).block, (ad.add (i * 6)).off + 4, none⟩ = some (.slice A4 (xs.getD i zAct).f4.length c4) := by rw [← add_field _ _ 4 (by omega)]; exact hc 4 _ rfl
  have k5 : w.cell? ⟨(ad.add (i * 6)).block, (ad.add (i * 6)).off + 5, none⟩ = some (.int .u8 (xs.getD i zAct).f5) := by rw [← add_field _ _ 5 (by omega)]; exact hc 5 _ rfl
  exact ⟨ad, A3, c3, A4, c4, e, ⟨⟨st k0, st k1, st k2⟩, ⟨st k3, st k4⟩, st k5, l3, Kd.C_below g3 hb, l4, Kd.C_below g4 hb⟩, ⟨k0, k1, k2⟩, ⟨k3, k4⟩, k5, l3, g3, l4, g4⟩
set_option maxRecDepth 100000 in
set_option maxHeartbeats 4000000 in
theorem great_any (w W : World) (A : Option Addr) (c : Nat) (xs : List SAct) (hr : kAct.C w A xs.length xs) (hb : Below w.heap.size w W) (hm : xs.length ≤ 140737488355328) :
    Calls Try.prog 8 #[.slice A xs.length c] W fun e w' => (∃ b, e = .returned (.bool b)) ∧ w' = W := by
  have HR := Aside0.mk hr
  have HB := Aside0.mk hb
  clear hr hb
  go_enter Try.func8, Try.ntmps8
  go_wp2
  go_loopw [3, 4] (fun nv i wr => ∃ (k : Nat) (y : Int), k ≤ xs.length ∧ k ≤ 201 ∧ i = .int .i64 k ∧ nv = .int .i64 y ∧ Aside0 (wr = W)) (fun _ i _ => 201 - (intOf i).toNat)
  case atStart => exact ⟨0, 0, Nat.zero_le _, by decide, rfl, rfl, ⟨rfl⟩⟩
  case round =>
    obtain ⟨k, y, hk1, hk2, rfl, rfl, hq⟩ := hrel
    obtain rfl := hq.out
    clear hq
    by_cases hlt : k < xs.length ∧ k ≤ 200
    · obtain ⟨h1, h2⟩ := hlt
      obtain ⟨ad, A3, c3, A4, c4, rfl, ⟨⟨q0, q1, q2⟩, ⟨q3, q4⟩, q5, _⟩, _⟩ := act_at HR.out HB.out k h1
      go_wp2
      go_roundw
      case rel => exact ⟨k + 1, _, by omega, by omega, by go_num, rfl, ⟨trivial⟩⟩
      case measure => simp [intOf]; omega
    · have hc : (k < xs.length ∧ ¬ k ≤ 200) ∨ ¬ k < xs.length := by omega
      clear hlt
      have hl : xs.length ≤ 200 ∨ ¬ xs.length ≤ 200 := by omega
      rcases hc with ⟨h1, h2⟩ | h1 <;> rcases hl with h3 | h3
      all_goals
        have h4 : (200 : Int) < xs.length ↔ ¬ xs.length ≤ 200 := by omega
        first
        | omega
        | (go_wp2
           go_ret
           exact ⟨⟨_, rfl⟩, rfl⟩)
end Go.Proofs.Ytojpmihgpjmobaa.X
