/- Texts that the proof leans on, part 2. -/
import Derived.Test.YthpecpkncifngaaDoorZTreeBegins1
import Derived.Laws.EntriesVeiled
import Derived.Outline
import Derived.MapKept
import Derived.RangeFuncOwn
import Derived.WalkKit
import Derived.Below
import Derived.Shelf.Spec.SlicesInsertGrow
import Derived.Laws.CopyOwn
import Derived.DataElems
import Derived.Deep.LoopGhost
import Derived.Lib.TrimByte
import Derived.Deep.DeepCutAuto
set_option linter.unusedVariables false
set_option linter.unusedSimpArgs false
/- The contract of tree.May. -/
section
namespace Go.Proofs.YthpecpkncifngaaDoor.X
open Go.RowKit Go.Shelf Go.Proofs.YthpecpkncifngaaDoor Go.Proofs.YthpecpkncifngaaDoorW.PrintWords Go.Proofs.YthpecpkncifngaaDoorW.PrintLast Go.Proofs.YthpecpkncifngaaDoorW.PrintMore
def plainP (x : S26) : Int := if 65536 < x.f4.length then 2 else 0
theorem plain_any (x : S26) (A4 : Option Addr) (c4 : Nat) (w : World) :
    Calls Tryd.prog 74 #[.agg (cellsIt x A4 c4)] w fun e w' => e = .returned (.int .i64 (plainP x)) ∧ Below w.heap.size w w' := by
  unfold cellsIt
  by_cases h : 65536 < x.f4.length
  · have hd : decide (65536 < x.f4.length) = true := decide_eq_true h
    have hd' : decide ((65536 : Int) < (x.f4.length : Int)) = true := by simp; omega
    have H := Lib.hid h
    clear h
    go_enter Tryd.func74, Tryd.ntmps74
    go_wp2
    go_ret
    exact ⟨by unfold plainP; rw [if_pos H.out]; rfl, (Below.refl _ _).alloc (Nat.le_refl _) _⟩
  · have hd : decide (65536 < x.f4.length) = false := decide_eq_false h
    have hd' : decide ((65536 : Int) < (x.f4.length : Int)) = false := by simp; omega
    have H := Lib.hid h
    clear h
    go_enter Tryd.func74, Tryd.ntmps74
    go_wp2
    go_ret
    exact ⟨by unfold plainP; rw [if_neg H.out]; rfl, (Below.refl _ _).alloc (Nat.le_refl _) _⟩
def hardP (x : S26) : Int := ((Nm.check x.f5.data.toList).2 : Int)
theorem hard_any (x : S26) (A4 : Option Addr) (c4 : Nat) (w : World) :
    Calls Tryd.prog 75 #[.agg (cellsIt x A4 c4)] w fun e w' => e = .returned (.int .i64 (hardP x)) ∧ Below w.heap.size w w' := by
  unfold cellsIt
  go_enter Tryd.func75, Tryd.ntmps75
  go_wp2_with fail
  refine (check_any _ _).mono ?_
  rintro e w1 ⟨rfl, hb⟩
  go_wp2
  go_ret
  exact ⟨rfl, ((Below.refl _ w).alloc (Nat.le_refl _) _).trans (hb.mono (by simp))⟩
def softP (x : S26) : Int := ((Nm.lead x.f0.data.toList x.f5.data.toList).2 : Int)
theorem soft_any (x : S26) (A4 : Option Addr) (c4 : Nat) (w : World) :
    Calls Tryd.prog 76 #[.agg (cellsIt x A4 c4)] w fun e w' => e = .returned (.int .i64 (softP x)) ∧ Below w.heap.size w w' := by
  unfold cellsIt
  go_enter Tryd.func76, Tryd.ntmps76
  go_wp2_with fail
  refine (LeadW.lead_any _ _ _).mono ?_
  rintro e w1 ⟨rfl, hb⟩
  go_wp2
  go_ret
  exact ⟨rfl, ((Below.refl _ w).alloc (Nat.le_refl _) _).trans (hb.mono (by simp))⟩
def ofV (k : Int) : Value :=
  if k = 1 then .tuple #[.agg #[.int .i64 4095, .int .i64 1099511627776, .bool true, .bool false, .func (.func 74) #[] #[]], .bool true]
  else if k = 2 then .tuple #[.agg #[.int .i64 4095, .int .i64 1099511627776, .bool false, .bool false, .func (.func 74) #[] #[]], .bool true]
  else if k = 3 then .tuple #[.agg #[.int .i64 0, .int .i64 0, .bool false, .bool true, .func (.func 75) #[] #[]], .bool true]
  else if k = 4 then .tuple #[.agg #[.int .i64 0, .int .i64 1099511627776, .bool false, .bool true, .func (.func 76) #[] #[]], .bool true]
  else .tuple #[.agg #[.int .i64 0, .int .i64 0, .bool false, .bool false, .nilFunc], .bool false]
set_option maxHeartbeats 1000000 in
theorem of_any (k : Int) (w : World) :
    Calls Tryd.prog 41 #[.int .u8 k] w fun e w' => e = .returned (ofV k) ∧ Below w.heap.size w w' := by
  by_cases h1 : k = 1
  · subst h1
    go_enter Tryd.func41, Tryd.ntmps41
    go_wp2
    refine bodyPost_ret (v := ofV 1) (by simp [results, Tryd.results41, go_sem]; rfl) rfl ⟨rfl, ?_⟩
    exact ((Below.refl _ w).alloc (Nat.le_refl _) _)
  have d1 : (k == (1 : Int)) = false := by simpa using h1
  by_cases h2 : k = 2
  · subst h2
    go_enter Tryd.func41, Tryd.ntmps41
    go_wp2
    refine bodyPost_ret (v := ofV 2) (by simp [results, Tryd.results41, go_sem]; rfl) rfl ⟨rfl, ?_⟩
    exact ((Below.refl _ w).alloc (Nat.le_refl _) _)
  have d2 : (k == (2 : Int)) = false := by simpa using h2
  by_cases h3 : k = 3
  · subst h3
    go_enter Tryd.func41, Tryd.ntmps41
    go_wp2
    refine bodyPost_ret (v := ofV 3) (by simp [results, Tryd.results41, go_sem]; rfl) rfl ⟨rfl, ?_⟩
    exact ((Below.refl _ w).alloc (Nat.le_refl _) _)
  have d3 : (k == (3 : Int)) = false := by simpa using h3
  by_cases h4 : k = 4
  · subst h4
    go_enter Tryd.func41, Tryd.ntmps41
    go_wp2
    refine bodyPost_ret (v := ofV 4) (by simp [results, Tryd.results41, go_sem]; rfl) rfl ⟨rfl, ?_⟩
    exact ((Below.refl _ w).alloc (Nat.le_refl _) _)
  have d4 : (k == (4 : Int)) = false := by simpa using h4
  have e : ofV k = .tuple #[.agg #[.int .i64 0, .int .i64 0, .bool false, .bool false, .nilFunc], .bool false] := by unfold ofV; rw [if_neg h1, if_neg h2, if_neg h3, if_neg h4]
  rw [e]
  clear e h1 h2 h3 h4
  go_enter Tryd.func41, Tryd.ntmps41
  go_wp2
  refine bodyPost_ret (v := .tuple #[.agg #[.int .i64 0, .int .i64 0, .bool false, .bool false, .nilFunc], .bool false]) (by simp [results, Tryd.results41, go_sem]) rfl ⟨rfl, ?_⟩
  exact ((Below.refl _ w).alloc (Nat.le_refl _) _)
theorem blk_after {w w1 : World} {o : Obj} (hb : Below (w.alloc o).heap.size (w.alloc o) w1) : w1.heap[w.heap.size]? = some o := (hb.block _ (by simp)).trans (blk_new w _)
theorem box_it {w w1 : World} (x : S26) (A4 : Option Addr) (c4 : Nat) (hb : Below (w.alloc (.cells (cellsIt x A4 c4) 26)).heap.size (w.alloc (.cells (cellsIt x A4 c4) 26)) w1) :
    w1.cell? ⟨w.heap.size, 0, none⟩ = some (.string x.f0) ∧ w1.cell? ⟨w.heap.size, 1, none⟩ = some (.int .u8 x.f1) ∧ w1.cell? ⟨w.heap.size, 2, none⟩ = some (.int .i64 x.f2) ∧ w1.cell? ⟨w.heap.size, 3, none⟩ = some (.int .i64 x.f3) ∧ w1.cell? ⟨w.heap.size, 4, none⟩ = some (.slice A4 x.f4.length c4) ∧ w1.cell? ⟨w.heap.size, 5, none⟩ = some (.string x.f5) ∧ w.heap.size < w1.heap.size := by
  have hz := hb.size
  rw [World.size_alloc] at hz
  have st : ∀ j v, (cellsIt x A4 c4)[j]? = some v → w1.cell? ⟨w.heap.size, j, none⟩ = some v := fun j v hv => (blk_cell (blk_after hb) j).trans hv
  exact ⟨st 0 _ rfl, st 1 _ rfl, st 2 _ rfl, st 3 _ rfl, st 4 _ rfl, st 5 _ rfl, hz⟩
def mayT (x : S26) (M T : Int) (bo tq : Bool) (r : Int) : Int :=
  if x.f3 < 0 then 1 else if T < x.f3 then 1 else if x.f2 < 0 then 1 else if M < x.f2 then 1 else
  if 0 < x.f4.length ∧ bo = false then 110 else if x.f5.toList ≠ [] ∧ tq = false then 110 else r
set_option maxRecDepth 100000 in
set_option maxHeartbeats 4000000 in
theorem may_plain (x : S26) (A4 : Option Addr) (c4 : Nat) (w : World) (M T : Int) (bo tq : Bool) (hl : x.f4.length ≤ c4) (hr : (Kd.int .u8).C w A4 x.f4.length x.f4)
    (hof : ofV x.f1 = .tuple #[.agg #[.int .i64 M, .int .i64 T, .bool bo, .bool tq, .func (.func 74) #[] #[]], .bool true]) (hck : (Nm.check x.f0.data.toList).2 = 0) :
    Calls Tryd.prog 15 #[.agg (cellsIt x A4 c4)] w fun e w' => e = .returned (.int .i64 (mayT x M T bo tq (plainP x))) ∧ Below w.heap.size w w' := by
  have HO := Lib.hid hof
  have HK := Lib.hid hck
  have HB := Aside0.mk ((Below.refl _ w).alloc (Nat.le_refl _) (.cells (cellsIt x A4 c4) 26))
  clear hof hck
  unfold cellsIt
  go_enter Tryd.func15, Tryd.ntmps15
  go_wp2_with fail
  refine (check_any _ _).mono ?_
  rw [HK.out]
  rintro e w1 ⟨rfl, hb⟩
  obtain ⟨a0, a1, a2, a3, a4, a5, az⟩ := box_it x A4 c4 hb
  have HB1 := Aside0.mk (HB.out.trans (hb.mono HB.out.size))
  clear hb HB
  go_wp2_with fail
  refine (of_any _ _).mono ?_
  rw [HO.out]
  rintro e w2 ⟨rfl, hb⟩
  have st : ∀ {j : Nat} {v : Value}, w1.cell? ⟨w.heap.size, j, none⟩ = some v → w2.cell? ⟨w.heap.size, j, none⟩ = some v := fun {j v} hv => (hb.cell (p := ⟨w.heap.size, j, none⟩) az).trans hv
  replace a0 := st a0
  replace a1 := st a1
  replace a2 := st a2
  replace a3 := st a3
  replace a4 := st a4
  replace a5 := st a5
  have az2 := Nat.lt_of_lt_of_le az hb.size
  have HB2 := Aside0.mk (HB1.out.trans (hb.mono HB1.out.size))
  clear hb HB1 st az HO HK
  have fin : ∀ (v : Int) (w' : World), Below w2.heap.size w2 w' → v = mayT x M T bo tq (plainP x) → Ending.returned (.int .i64 v) = .returned (.int .i64 (mayT x M T bo tq (plainP x))) ∧ Below w.heap.size w w' := fun v w' h e => ⟨by rw [e], HB2.out.trans (h.mono HB2.out.size)⟩
  have FIN := Aside0.mk fin
  clear fin
  have hl4 : (0 : Int) ≤ x.f4.length := by omega
  rcases Bool.eq_false_or_eq_true (decide (x.f3 < 0)) with d1 | d1
  · go_wp2
    go_ret
    exact FIN.out _ _ ((Below.refl _ _).alloc (Nat.le_refl _) _) (by unfold mayT; rw [if_pos (of_decide_eq_true d1)])
  rcases Bool.eq_false_or_eq_true (decide (T < x.f3)) with d2 | d2
  · go_wp2
    go_ret
    exact FIN.out _ _ ((Below.refl _ _).alloc (Nat.le_refl _) _) (by unfold mayT; rw [if_neg (of_decide_eq_false d1), if_pos (of_decide_eq_true d2)])
  rcases Bool.eq_false_or_eq_true (decide (x.f2 < 0)) with d3 | d3
  · go_wp2
    go_ret
    exact FIN.out _ _ ((Below.refl _ _).alloc (Nat.le_refl _) _) (by unfold mayT; rw [if_neg (of_decide_eq_false d1), if_neg (of_decide_eq_false d2), if_pos (of_decide_eq_true d3)])
  rcases Bool.eq_false_or_eq_true (decide (M < x.f2)) with d4 | d4
  · go_wp2
    go_ret
    exact FIN.out _ _ ((Below.refl _ _).alloc (Nat.le_refl _) _) (by unfold mayT; rw [if_neg (of_decide_eq_false d1), if_neg (of_decide_eq_false d2), if_neg (of_decide_eq_false d3), if_pos (of_decide_eq_true d4)])
  have M4 : ∀ r, mayT x M T bo tq r = if 0 < x.f4.length ∧ bo = false then 110 else if x.f5.toList ≠ [] ∧ tq = false then 110 else r := fun r => by
    unfold mayT
    rw [if_neg (of_decide_eq_false d1), if_neg (of_decide_eq_false d2), if_neg (of_decide_eq_false d3), if_neg (of_decide_eq_false d4)]
  have HM := Aside0.mk M4
  clear M4
  have key : (0 < x.f4.length ∧ bo = false) ∨ ¬ (0 < x.f4.length ∧ bo = false) := Decidable.em _
  rcases key with k5 | k5
  · obtain ⟨k5, rfl⟩ := k5
    have d5 : decide ((0 : Int) < (x.f4.length : Int)) = true := decide_eq_true (by omega)
    have d5' : decide (0 < x.f4.length) = true := decide_eq_true (by omega)
    have d5n : x.f4 ≠ [] := fun h => by rw [h] at k5; exact Nat.lt_irrefl _ k5
    have K5 := Lib.hid k5
    clear k5
    go_wp2
    go_ret
    exact FIN.out _ _ ((Below.refl _ _).alloc (Nat.le_refl _) _) (by rw [HM.out, if_pos ⟨K5.out, by first | rfl | trivial⟩])
  have key : (x.f5.toList ≠ [] ∧ tq = false) ∨ ¬ (x.f5.toList ≠ [] ∧ tq = false) := Decidable.em _
  rcases key with k6 | k6
  · obtain ⟨k6, rfl⟩ := k6
    have K6 := Lib.hid k6
    have d6 : x.f5.toList.isEmpty = false := by simpa using k6
    have d6' : (!x.f5.toList.isEmpty) = true := by simpa using k6
    clear k6
    by_cases h5 : 0 < x.f4.length
    · obtain rfl : bo = true := by
        cases bo
        · exact absurd ⟨h5, rfl⟩ k5
        · rfl
      have d5 : decide ((0 : Int) < (x.f4.length : Int)) = true := decide_eq_true (by omega)
      have d5' : decide (0 < x.f4.length) = true := decide_eq_true (by omega)
      have d5n : x.f4 ≠ [] := fun h => by rw [h] at h5; exact Nat.lt_irrefl _ h5
      have K5 := Lib.hid k5
      clear k5 h5
      go_wp2
      go_ret
      exact FIN.out _ _ ((Below.refl _ _).alloc (Nat.le_refl _) _) (by rw [HM.out, if_neg K5.out, if_pos ⟨K6.out, by first | rfl | trivial⟩])
    · have d5 : decide ((0 : Int) < (x.f4.length : Int)) = false := decide_eq_false (by omega)
      have d5' : decide (0 < x.f4.length) = false := decide_eq_false (by omega)
      have K5 := Lib.hid k5
      clear k5 h5
      go_wp2
      go_ret
      exact FIN.out _ _ ((Below.refl _ _).alloc (Nat.le_refl _) _) (by rw [HM.out, if_neg K5.out, if_pos ⟨K6.out, by first | rfl | trivial⟩])
  have HF := Aside0.mk (show mayT x M T bo tq (plainP x) = plainP x by rw [HM.out, if_neg k5, if_neg k6])
  have FIN2 : ∀ (w' : World), Below w2.heap.size w2 w' → Ending.returned (.int .i64 (plainP x)) = .returned (.int .i64 (mayT x M T bo tq (plainP x))) ∧ Below w.heap.size w w' := fun w' h => FIN.out _ _ h HF.out.symm
  have FIN3 := Aside0.mk FIN2
  clear FIN2 HF HM FIN
  have E5 : (decide ((0 : Int) < (x.f4.length : Int)) = true ∧ decide (0 < x.f4.length) = true ∧ bo = true) ∨ (decide ((0 : Int) < (x.f4.length : Int)) = false ∧ decide (0 < x.f4.length) = false) := by
    by_cases h5 : 0 < x.f4.length
    · left
      refine ⟨decide_eq_true (by omega), decide_eq_true (by omega), ?_⟩
      cases bo
      · exact absurd ⟨h5, rfl⟩ k5
      · rfl
    · right
      exact ⟨decide_eq_false (by omega), decide_eq_false (by omega)⟩
  have E6 : (x.f5.toList.isEmpty = false ∧ tq = true) ∨ x.f5.toList.isEmpty = true := by
    by_cases h6 : x.f5.toList = []
    · right; simpa using h6
    · left
      refine ⟨by simpa using h6, ?_⟩
      cases tq
      · exact absurd ⟨h6, rfl⟩ k6
      · rfl
  clear k5 k6
  rcases E5 with ⟨d5, d5', rfl⟩ | ⟨d5, d5'⟩ <;> rcases E6 with ⟨d6, rfl⟩ | d6
  all_goals
    go_wp2_with fail
    refine (plain_any x A4 c4 _).mono ?_
    rintro e w3 ⟨rfl, hb⟩
    go_wp2
    go_ret
    exact FIN3.out _ (((Below.refl _ _).alloc (Nat.le_refl _) _).trans (hb.mono (by simp)))
set_option maxRecDepth 100000 in
set_option maxHeartbeats 4000000 in
theorem may_hard (x : S26) (A4 : Option Addr) (c4 : Nat) (w : World) (M T : Int) (bo tq : Bool) (hl : x.f4.length ≤ c4) (hr : (Kd.int .u8).C w A4 x.f4.length x.f4)
    (hof : ofV x.f1 = .tuple #[.agg #[.int .i64 M, .int .i64 T, .bool bo, .bool tq, .func (.func 75) #[] #[]], .bool true]) (hck : (Nm.check x.f0.data.toList).2 = 0) :
    Calls Tryd.prog 15 #[.agg (cellsIt x A4 c4)] w fun e w' => e = .returned (.int .i64 (mayT x M T bo tq (hardP x))) ∧ Below w.heap.size w w' := by
  have HO := Lib.hid hof
  have HK := Lib.hid hck
  have HB := Aside0.mk ((Below.refl _ w).alloc (Nat.le_refl _) (.cells (cellsIt x A4 c4) 26))
  clear hof hck
  unfold cellsIt
  go_enter Tryd.func15, Tryd.ntmps15
  go_wp2_with fail
  refine (check_any _ _).mono ?_
  rw [HK.out]
  rintro e w1 ⟨rfl, hb⟩
  obtain ⟨a0, a1, a2, a3, a4, a5, az⟩ := box_it x A4 c4 hb
  have HB1 := Aside0.mk (HB.out.trans (hb.mono HB.out.size))
  clear hb HB
  go_wp2_with fail
  refine (of_any _ _).mono ?_
  rw [HO.out]
  rintro e w2 ⟨rfl, hb⟩
  have st : ∀ {j : Nat} {v : Value}, w1.cell? ⟨w.heap.size, j, none⟩ = some v → w2.cell? ⟨w.heap.size, j, none⟩ = some v := fun {j v} hv => (hb.cell (p := ⟨w.heap.size, j, none⟩) az).trans hv
  replace a0 := st a0
  replace a1 := st a1
  replace a2 := st a2
  replace a3 := st a3
  replace a4 := st a4
  replace a5 := st a5
  have az2 := Nat.lt_of_lt_of_le az hb.size
  have HB2 := Aside0.mk (HB1.out.trans (hb.mono HB1.out.size))
  clear hb HB1 st az HO HK
  have fin : ∀ (v : Int) (w' : World), Below w2.heap.size w2 w' → v = mayT x M T bo tq (hardP x) → Ending.returned (.int .i64 v) = .returned (.int .i64 (mayT x M T bo tq (hardP x))) ∧ Below w.heap.size w w' := fun v w' h e => ⟨by rw [e], HB2.out.trans (h.mono HB2.out.size)⟩
  have FIN := Aside0.mk fin
  clear fin
  have hl4 : (0 : Int) ≤ x.f4.length := by omega
  rcases Bool.eq_false_or_eq_true (decide (x.f3 < 0)) with d1 | d1
  · go_wp2
    go_ret
    exact FIN.out _ _ ((Below.refl _ _).alloc (Nat.le_refl _) _) (by unfold mayT; rw [if_pos (of_decide_eq_true d1)])
  rcases Bool.eq_false_or_eq_true (decide (T < x.f3)) with d2 | d2
  · go_wp2
    go_ret
    exact FIN.out _ _ ((Below.refl _ _).alloc (Nat.le_refl _) _) (by unfold mayT; rw [if_neg (of_decide_eq_false d1), if_pos (of_decide_eq_true d2)])
  rcases Bool.eq_false_or_eq_true (decide (x.f2 < 0)) with d3 | d3
  · go_wp2
    go_ret
    exact FIN.out _ _ ((Below.refl _ _).alloc (Nat.le_refl _) _) (by unfold mayT; rw [if_neg (of_decide_eq_false d1), if_neg (of_decide_eq_false d2), if_pos (of_decide_eq_true d3)])
  rcases Bool.eq_false_or_eq_true (decide (M < x.f2)) with d4 | d4
  · go_wp2
    go_ret
    exact FIN.out _ _ ((Below.refl _ _).alloc (Nat.le_refl _) _) (by unfold mayT; rw [if_neg (of_decide_eq_false d1), if_neg (of_decide_eq_false d2), if_neg (of_decide_eq_false d3), if_pos (of_decide_eq_true d4)])
  have M4 : ∀ r, mayT x M T bo tq r = if 0 < x.f4.length ∧ bo = false then 110 else if x.f5.toList ≠ [] ∧ tq = false then 110 else r := fun r => by
    unfold mayT
    rw [if_neg (of_decide_eq_false d1), if_neg (of_decide_eq_false d2), if_neg (of_decide_eq_false d3), if_neg (of_decide_eq_false d4)]
  have HM := Aside0.mk M4
  clear M4
  have key : (0 < x.f4.length ∧ bo = false) ∨ ¬ (0 < x.f4.length ∧ bo = false) := Decidable.em _
  rcases key with k5 | k5
  · obtain ⟨k5, rfl⟩ := k5
    have d5 : decide ((0 : Int) < (x.f4.length : Int)) = true := decide_eq_true (by omega)
    have d5' : decide (0 < x.f4.length) = true := decide_eq_true (by omega)
    have d5n : x.f4 ≠ [] := fun h => by rw [h] at k5; exact Nat.lt_irrefl _ k5
    have K5 := Lib.hid k5
    clear k5
    go_wp2
    go_ret
    exact FIN.out _ _ ((Below.refl _ _).alloc (Nat.le_refl _) _) (by rw [HM.out, if_pos ⟨K5.out, by first | rfl | trivial⟩])
  have key : (x.f5.toList ≠ [] ∧ tq = false) ∨ ¬ (x.f5.toList ≠ [] ∧ tq = false) := Decidable.em _
  rcases key with k6 | k6
  · obtain ⟨k6, rfl⟩ := k6
    have K6 := Lib.hid k6
    have d6 : x.f5.toList.isEmpty = false := by simpa using k6
    have d6' : (!x.f5.toList.isEmpty) = true := by simpa using k6
    clear k6
    by_cases h5 : 0 < x.f4.length
    · obtain rfl : bo = true := by
        cases bo
        · exact absurd ⟨h5, rfl⟩ k5
        · rfl
      have d5 : decide ((0 : Int) < (x.f4.length : Int)) = true := decide_eq_true (by omega)
      have d5' : decide (0 < x.f4.length) = true := decide_eq_true (by omega)
      have d5n : x.f4 ≠ [] := fun h => by rw [h] at h5; exact Nat.lt_irrefl _ h5
      have K5 := Lib.hid k5
      clear k5 h5
      go_wp2
      go_ret
      exact FIN.out _ _ ((Below.refl _ _).alloc (Nat.le_refl _) _) (by rw [HM.out, if_neg K5.out, if_pos ⟨K6.out, by first | rfl | trivial⟩])
    · have d5 : decide ((0 : Int) < (x.f4.length : Int)) = false := decide_eq_false (by omega)
      have d5' : decide (0 < x.f4.length) = false := decide_eq_false (by omega)
      have K5 := Lib.hid k5
      clear k5 h5
      go_wp2
      go_ret
      exact FIN.out _ _ ((Below.refl _ _).alloc (Nat.le_refl _) _) (by rw [HM.out, if_neg K5.out, if_pos ⟨K6.out, by first | rfl | trivial⟩])
  have HF := Aside0.mk (show mayT x M T bo tq (hardP x) = hardP x by rw [HM.out, if_neg k5, if_neg k6])
  have FIN2 : ∀ (w' : World), Below w2.heap.size w2 w' → Ending.returned (.int .i64 (hardP x)) = .returned (.int .i64 (mayT x M T bo tq (hardP x))) ∧ Below w.heap.size w w' := fun w' h => FIN.out _ _ h HF.out.symm
  have FIN3 := Aside0.mk FIN2
  clear FIN2 HF HM FIN
  have E5 : (decide ((0 : Int) < (x.f4.length : Int)) = true ∧ decide (0 < x.f4.length) = true ∧ bo = true) ∨ (decide ((0 : Int) < (x.f4.length : Int)) = false ∧ decide (0 < x.f4.length) = false) := by
    by_cases h5 : 0 < x.f4.length
    · left
      refine ⟨decide_eq_true (by omega), decide_eq_true (by omega), ?_⟩
      cases bo
      · exact absurd ⟨h5, rfl⟩ k5
      · rfl
    · right
      exact ⟨decide_eq_false (by omega), decide_eq_false (by omega)⟩
  have E6 : (x.f5.toList.isEmpty = false ∧ tq = true) ∨ x.f5.toList.isEmpty = true := by
    by_cases h6 : x.f5.toList = []
    · right; simpa using h6
    · left
      refine ⟨by simpa using h6, ?_⟩
      cases tq
      · exact absurd ⟨h6, rfl⟩ k6
      · rfl
  clear k5 k6
  rcases E5 with ⟨d5, d5', rfl⟩ | ⟨d5, d5'⟩ <;> rcases E6 with ⟨d6, rfl⟩ | d6
  all_goals
    go_wp2_with fail
    refine (hard_any x A4 c4 _).mono ?_
    rintro e w3 ⟨rfl, hb⟩
    go_wp2
    go_ret
    exact FIN3.out _ (((Below.refl _ _).alloc (Nat.le_refl _) _).trans (hb.mono (by simp)))
set_option maxRecDepth 100000 in
set_option maxHeartbeats 4000000 in
theorem may_soft (x : S26) (A4 : Option Addr) (c4 : Nat) (w : World) (M T : Int) (bo tq : Bool) (hl : x.f4.length ≤ c4) (hr : (Kd.int .u8).C w A4 x.f4.length x.f4)
    (hof : ofV x.f1 = .tuple #[.agg #[.int .i64 M, .int .i64 T, .bool bo, .bool tq, .func (.func 76) #[] #[]], .bool true]) (hck : (Nm.check x.f0.data.toList).2 = 0) :
    Calls Tryd.prog 15 #[.agg (cellsIt x A4 c4)] w fun e w' => e = .returned (.int .i64 (mayT x M T bo tq (softP x))) ∧ Below w.heap.size w w' := by
  have HO := Lib.hid hof
  have HK := Lib.hid hck
  have HB := Aside0.mk ((Below.refl _ w).alloc (Nat.le_refl _) (.cells (cellsIt x A4 c4) 26))
  clear hof hck
  unfold cellsIt
  go_enter Tryd.func15, Tryd.ntmps15
  go_wp2_with fail
  refine (check_any _ _).mono ?_
  rw [HK.out]
  rintro e w1 ⟨rfl, hb⟩
  obtain ⟨a0, a1, a2, a3, a4, a5, az⟩ := box_it x A4 c4 hb
  have HB1 := Aside0.mk (HB.out.trans (hb.mono HB.out.size))
  clear hb HB
  go_wp2_with fail
  refine (of_any _ _).mono ?_
  rw [HO.out]
  rintro e w2 ⟨rfl, hb⟩
  have st : ∀ {j : Nat} {v : Value}, w1.cell? ⟨w.heap.size, j, none⟩ = some v → w2.cell? ⟨w.heap.size, j, none⟩ = some v := fun {j v} hv => (hb.cell (p := ⟨w.heap.size, j, none⟩) az).trans hv
  replace a0 := st a0
  replace a1 := st a1
  replace a2 := st a2
  replace a3 := st a3
  replace a4 := st a4
  replace a5 := st a5
  have az2 := Nat.lt_of_lt_of_le az hb.size
  have HB2 := Aside0.mk (HB1.out.trans (hb.mono HB1.out.size))
  clear hb HB1 st az HO HK
  have fin : ∀ (v : Int) (w' : World), Below w2.heap.size w2 w' → v = mayT x M T bo tq (softP x) → Ending.returned (.int .i64 v) = .returned (.int .i64 (mayT x M T bo tq (softP x))) ∧ Below w.heap.size w w' := fun v w' h e => ⟨by rw [e], HB2.out.trans (h.mono HB2.out.size)⟩
  have FIN := Aside0.mk fin
  clear fin
  have hl4 : (0 : Int) ≤ x.f4.length := by omega
  rcases Bool.eq_false_or_eq_true (decide (x.f3 < 0)) with d1 | d1
  · go_wp2
    go_ret
    exact FIN.out _ _ ((Below.refl _ _).alloc (Nat.le_refl _) _) (by unfold mayT; rw [if_pos (of_decide_eq_true d1)])
  rcases Bool.eq_false_or_eq_true (decide (T < x.f3)) with d2 | d2
  · go_wp2
    go_ret
    exact FIN.out _ _ ((Below.refl _ _).alloc (Nat.le_refl _) _) (by unfold mayT; rw [if_neg (of_decide_eq_false d1), if_pos (of_decide_eq_true d2)])
  rcases Bool.eq_false_or_eq_true (decide (x.f2 < 0)) with d3 | d3
  · go_wp2
    go_ret
    exact FIN.out _ _ ((Below.refl _ _).alloc (Nat.le_refl _) _) (by unfold mayT; rw [if_neg (of_decide_eq_false d1), if_neg (of_decide_eq_false d2), if_pos (of_decide_eq_true d3)])
  rcases Bool.eq_false_or_eq_true (decide (M < x.f2)) with d4 | d4
  · go_wp2
    go_ret
    exact FIN.out _ _ ((Below.refl _ _).alloc (Nat.le_refl _) _) (by unfold mayT; rw [if_neg (of_decide_eq_false d1), if_neg (of_decide_eq_false d2), if_neg (of_decide_eq_false d3), if_pos (of_decide_eq_true d4)])
  have M4 : ∀ r, mayT x M T bo tq r = if 0 < x.f4.length ∧ bo = false then 110 else if x.f5.toList ≠ [] ∧ tq = false then 110 else r := fun r => by
    unfold mayT
    rw [if_neg (of_decide_eq_false d1), if_neg (of_decide_eq_false d2), if_neg (of_decide_eq_false d3), if_neg (of_decide_eq_false d4)]
  have HM := Aside0.mk M4
  clear M4
  have key : (0 < x.f4.length ∧ bo = false) ∨ ¬ (0 < x.f4.length ∧ bo = false) := Decidable.em _
  rcases key with k5 | k5
  · obtain ⟨k5, rfl⟩ := k5
    have d5 : decide ((0 : Int) < (x.f4.length : Int)) = true := decide_eq_true (by omega)
    have d5' : decide (0 < x.f4.length) = true := decide_eq_true (by omega)
    have d5n : x.f4 ≠ [] := fun h => by rw [h] at k5; exact Nat.lt_irrefl _ k5
    have K5 := Lib.hid k5
    clear k5
    go_wp2
    go_ret
    exact FIN.out _ _ ((Below.refl _ _).alloc (Nat.le_refl _) _) (by rw [HM.out, if_pos ⟨K5.out, by first | rfl | trivial⟩])
  have key : (x.f5.toList ≠ [] ∧ tq = false) ∨ ¬ (x.f5.toList ≠ [] ∧ tq = false) := Decidable.em _
  rcases key with k6 | k6
  · obtain ⟨k6, rfl⟩ := k6
    have K6 := Lib.hid k6
    have d6 : x.f5.toList.isEmpty = false := by simpa using k6
    have d6' : (!x.f5.toList.isEmpty) = true := by simpa using k6
    clear k6
    by_cases h5 : 0 < x.f4.length
    · obtain rfl : bo = true := by
        cases bo
        · exact absurd ⟨h5, rfl⟩ k5
        · rfl
      have d5 : decide ((0 : Int) < (x.f4.length : Int)) = true := decide_eq_true (by omega)
      have d5' : decide (0 < x.f4.length) = true := decide_eq_true (by omega)
      have d5n : x.f4 ≠ [] := fun h => by rw [h] at h5; exact Nat.lt_irrefl _ h5
      have K5 := Lib.hid k5
      clear k5 h5
      go_wp2
      go_ret
      exact FIN.out _ _ ((Below.refl _ _).alloc (Nat.le_refl _) _) (by rw [HM.out, if_neg K5.out, if_pos ⟨K6.out, by first | rfl | trivial⟩])
    · have d5 : decide ((0 : Int) < (x.f4.length : Int)) = false := decide_eq_false (by omega)
      have d5' : decide (0 < x.f4.length) = false := decide_eq_false (by omega)
      have K5 := Lib.hid k5
      clear k5 h5
      go_wp2
      go_ret
      exact FIN.out _ _ ((Below.refl _ _).alloc (Nat.le_refl _) _) (by rw [HM.out, if_neg K5.out, if_pos ⟨K6.out, by first | rfl | trivial⟩])
  have HF := Aside0.mk (show mayT x M T bo tq (softP x) = softP x by rw [HM.out, if_neg k5, if_neg k6])
  have FIN2 : ∀ (w' : World), Below w2.heap.size w2 w' → Ending.returned (.int .i64 (softP x)) = .returned (.int .i64 (mayT x M T bo tq (softP x))) ∧ Below w.heap.size w w' := fun w' h => FIN.out _ _ h HF.out.symm
  have FIN3 := Aside0.mk FIN2
  clear FIN2 HF HM FIN
  have E5 : (decide ((0 : Int) < (x.f4.length : Int)) = true ∧ decide (0 < x.f4.length) = true ∧ bo = true) ∨ (decide ((0 : Int) < (x.f4.length : Int)) = false ∧ decide (0 < x.f4.length) = false) := by
    by_cases h5 : 0 < x.f4.length
    · left
      refine ⟨decide_eq_true (by omega), decide_eq_true (by omega), ?_⟩
      cases bo
      · exact absurd ⟨h5, rfl⟩ k5
      · rfl
    · right
      exact ⟨decide_eq_false (by omega), decide_eq_false (by omega)⟩
  have E6 : (x.f5.toList.isEmpty = false ∧ tq = true) ∨ x.f5.toList.isEmpty = true := by
    by_cases h6 : x.f5.toList = []
    · right; simpa using h6
    · left
      refine ⟨by simpa using h6, ?_⟩
      cases tq
      · exact absurd ⟨h6, rfl⟩ k6
      · rfl
  clear k5 k6
  rcases E5 with ⟨d5, d5', rfl⟩ | ⟨d5, d5'⟩ <;> rcases E6 with ⟨d6, rfl⟩ | d6
  all_goals
    go_wp2_with fail
    refine (soft_any x A4 c4 _).mono ?_
    rintro e w3 ⟨rfl, hb⟩
    go_wp2
    go_ret
    exact FIN3.out _ (((Below.refl _ _).alloc (Nat.le_refl _) _).trans (hb.mono (by simp)))
def mayP (x : S26) : Int :=
  if (Nm.check x.f0.data.toList).2 ≠ 0 then ((Nm.check x.f0.data.toList).2 : Int) else
  if x.f1 = 1 then mayT x 4095 1099511627776 true false (plainP x) else
  if x.f1 = 2 then mayT x 4095 1099511627776 false false (plainP x) else
  if x.f1 = 3 then mayT x 0 0 false true (hardP x) else
  if x.f1 = 4 then mayT x 0 1099511627776 false true (softP x) else 1
set_option maxRecDepth 100000 in
set_option maxHeartbeats 1000000 in
theorem may_any (x : S26) (A4 : Option Addr) (c4 : Nat) (w : World) (hl : x.f4.length ≤ c4) (hr : (Kd.int .u8).C w A4 x.f4.length x.f4) :
    Calls Tryd.prog 15 #[.agg (cellsIt x A4 c4)] w fun e w' => e = .returned (.int .i64 (mayP x)) ∧ Below w.heap.size w w' := by
  by_cases hc : (Nm.check x.f0.data.toList).2 = 0
  · unfold mayP
    rw [if_neg (by simp [hc])]
    by_cases h1 : x.f1 = 1
    · rw [if_pos h1]; exact may_plain x A4 c4 w _ _ _ _ hl hr (by rw [h1]; rfl) hc
    rw [if_neg h1]
    by_cases h2 : x.f1 = 2
    · rw [if_pos h2]; exact may_plain x A4 c4 w _ _ _ _ hl hr (by rw [h2]; rfl) hc
    rw [if_neg h2]
    by_cases h3 : x.f1 = 3
    · rw [if_pos h3]; exact may_hard x A4 c4 w _ _ _ _ hl hr (by rw [h3]; rfl) hc
    rw [if_neg h3]
    by_cases h4 : x.f1 = 4
    · rw [if_pos h4]; exact may_soft x A4 c4 w _ _ _ _ hl hr (by rw [h4]; rfl) hc
    rw [if_neg h4]
    have HO := Lib.hid (show ofV x.f1 = .tuple #[.agg #[.int .i64 0, .int .i64 0, .bool false, .bool false, .nilFunc], .bool false] by unfold ofV; rw [if_neg h1, if_neg h2, if_neg h3, if_neg h4])
    have HK := Lib.hid hc
    have HB := Aside0.mk ((Below.refl _ w).alloc (Nat.le_refl _) (.cells (cellsIt x A4 c4) 26))
    clear h1 h2 h3 h4 hc hr
    unfold cellsIt
    go_enter Tryd.func15, Tryd.ntmps15
    go_wp2_with fail
    refine (check_any _ _).mono ?_
    rw [HK.out]
    rintro e w1 ⟨rfl, hb⟩
    obtain ⟨a0, a1, a2, a3, a4, a5, az⟩ := box_it x A4 c4 hb
    have HB1 := Aside0.mk (HB.out.trans (hb.mono HB.out.size))
    clear hb HB
    go_wp2_with fail
    refine (of_any _ _).mono ?_
    rw [HO.out]
    rintro e w2 ⟨rfl, hb⟩
    have HB2 := Aside0.mk (HB1.out.trans (hb.mono HB1.out.size))
    clear hb HB1 az HO HK
    go_wp2
    go_ret
    exact ⟨rfl, HB2.out.trans (((Below.refl _ _).alloc (Nat.le_refl _) _).mono HB2.out.size)⟩
  · unfold mayP
    rw [if_pos (by simpa using hc)]
    have hne : (((Nm.check x.f0.data.toList).2 : Int) != 0) = true := by simp; omega
    have HB := Aside0.mk ((Below.refl _ w).alloc (Nat.le_refl _) (.cells (cellsIt x A4 c4) 26))
    clear hc hr
    unfold cellsIt
    go_enter Tryd.func15, Tryd.ntmps15
    go_wp2_with fail
    refine (check_any _ _).mono ?_
    rintro e w1 ⟨rfl, hb⟩
    have HB1 := Aside0.mk (HB.out.trans (hb.mono HB.out.size))
    clear hb HB
    go_wp2
    go_ret
    exact ⟨rfl, HB1.out⟩
end Go.Proofs.YthpecpkncifngaaDoor.X
end

/- A map as a list of keys and values: what a look-up, a store, a delete, a length make of it. No function of the program in sight. -/
section
namespace Go.Proofs.YthpecpkncifngaaDoor.Mp
open Go.MapKept Go.RowKit
section lists
variable {α : Type} [DecidableEq α]
def mget : List (α × Value) → α → Option Value
  | [], _ => none
  | p :: r, k => if p.1 = k then some p.2 else mget r k
def mput : List (α × Value) → α → Value → List (α × Value)
  | [], k, v => [(k, v)]
  | p :: r, k, v => if p.1 = k then (k, v) :: r else p :: mput r k v
theorem mget_put (l : List (α × Value)) (k t : α) (v : Value) : mget (mput l k v) t = if k = t then some v else mget l t := by
  induction l with
  | nil => simp [mput, mget]
  | cons p r ih =>
    simp only [mput]
    by_cases h : p.1 = k
    · rw [if_pos h]
      by_cases h2 : k = t
      · simp [mget, h2]
      · simp [mget, h2, h]
    · rw [if_neg h]
      simp only [mget, ih]
      by_cases h2 : k = t
      · subst h2; simp [h]
      · simp [h2]
theorem mput_none {l : List (α × Value)} {k : α} (h : mget l k = none) (v : Value) : mput l k v = l ++ [(k, v)] := by
  induction l with
  | nil => rfl
  | cons p r ih =>
    simp only [mget] at h
    split at h
    · cases h
    · rename_i hne
      simp only [mput, if_neg hne, ih h, List.cons_append]
end lists
structure Key (α : Type) (d : TypeDesc) where
  enc : α → Value
  is : ∀ a, IsKey d (enc a)
  inj : ∀ {a b}, enc a = enc b → a = b
def strKey : Key ByteArray .string := ⟨Value.string, fun _ => trivial, fun h => by injection h⟩
section
variable {α : Type} {d : TypeDesc} (K : Key α d)
def At (W : World) (B : Nat) (l : List (α × Value)) : Prop :=
  ∃ es clock, W.heap[B]? = some (.map es clock) ∧ Stamped es clock ∧ es.toList.map (fun e => (e.key, e.val)) = l.map (fun p => (K.enc p.1, p.2))
variable {K}
theorem At.move {W W' : World} {B : Nat} {l : List (α × Value)} (h : At K W B l) (e : W'.heap[B]? = W.heap[B]?) : At K W' B l := by
  obtain ⟨es, cl, h1, h2, h3⟩ := h
  exact ⟨es, cl, e.trans h1, h2, h3⟩
theorem At.lt {W : World} {B : Nat} {l : List (α × Value)} (h : At K W B l) : B < W.heap.size := by
  obtain ⟨es, cl, h1, _⟩ := h
  exact (Array.getElem?_eq_some_iff.1 h1).1
theorem At.below {w W : World} {B : Nat} {l : List (α × Value)} (h : At K w B l) (hb : Below w.heap.size w W) : At K W B l := h.move (hb.block B h.lt)
theorem at_made (w : World) : At K (w.alloc (.map #[] 0)) w.heap.size [] := ⟨#[], 0, (heap_alloc w _).1, stamped_empty 0, rfl⟩
variable [DecidableEq α]
theorem find_of : ∀ {es : List MapEntry} {l : List (α × Value)} (i : Nat) (k : α), es.map (fun e => (e.key, e.val)) = l.map (fun p => (K.enc p.1, p.2)) →
    (mget l k = none ∧ Instr.findNow d (K.enc k) es i = some none ∧ ∀ x ∈ es, x.key ≠ K.enc k) ∨
    ∃ j v e, mget l k = some v ∧ Instr.findNow d (K.enc k) es i = some (some (i + j, v)) ∧ es[j]? = some e ∧ e.key = K.enc k ∧ e.val = v
  | [], [], i, k, _ => .inl ⟨rfl, rfl, by simp⟩
  | [], _ :: _, _, _, h => by simp at h
  | _ :: _, [], _, _, h => by simp at h
  | e :: es, p :: l, i, k, h => by
    simp only [List.map_cons, List.cons.injEq, Prod.mk.injEq] at h
    obtain ⟨⟨h1, h2⟩, h3⟩ := h
    have hk : IsKey d e.key := by rw [h1]; exact K.is _
    obtain ⟨r, hr, hiff⟩ := sameNow_of_keys (K.is k) hk
    by_cases hp : p.1 = k
    · right
      have : r = true := hiff.2 (by rw [h1, hp])
      subst this
      exact ⟨0, p.2, e, by simp [mget, hp], by simp [Instr.findNow, hr, h2], rfl, by rw [h1, hp], h2⟩
    · have : r = false := by
        cases r with
        | false => rfl
        | true => exact absurd (K.inj ((hiff.1 rfl).trans h1)).symm hp
      subst this
      have hne : e.key ≠ K.enc k := fun q => hp (K.inj (h1.symm.trans q))
      rcases find_of (i + 1) k h3 with ⟨g1, g2, g3⟩ | ⟨j, v, e', g1, g2, g3, g4, g5⟩
      · left
        refine ⟨by simp [mget, hp, g1], by simp [Instr.findNow, hr, g2], ?_⟩
        intro x hx
        rcases List.mem_cons.1 hx with rfl | hx
        · exact hne
        · exact g3 x hx
      · right
        exact ⟨j + 1, v, e', by simp [mget, hp, g1], by simp [Instr.findNow, hr, g2]; omega, by simpa using g3, g4, g5⟩
variable {P : Program} {T kt et : TypeId}
theorem At.lookup {W : World} {B : Nat} {l : List (α × Value)} (h : At K W B l) (hT : P.underlying T = some (.map kt et)) (hd : P.underlying kt = some d) (k : α) {z : Value} (hz : ∀ w, (zeroValue et).run P w = .ok z w) (ok : Bool) :
    (Instr.lookup T (.map (some B)) (K.enc k) ok).run P W = .ok (if ok then .tuple #[(mget l k).getD z, .bool (mget l k).isSome] else (mget l k).getD z) W := by
  obtain ⟨es, cl, h1, h2, h3⟩ := h
  rcases find_of (K := K) 0 k h3 with ⟨g1, g2, _⟩ | ⟨j, v, e, g1, g2, _, _, _⟩
  · rw [g1]
    cases ok <;> simp [Instr.lookup, Sem.run_bind, run_underlying hT, MapKept.run_getObj_map h1, MapKept.run_checkKey hd (K.is k), MapKept.run_findKey hd g2, hz, Result.andThen]
  · rw [g1]
    cases ok <;> simp [Instr.lookup, Sem.run_bind, run_underlying hT, MapKept.run_getObj_map h1, MapKept.run_checkKey hd (K.is k), MapKept.run_findKey hd g2, Result.andThen]
theorem map_modify {es : List MapEntry} {l : List (α × Value)} (k : α) (v : Value) (f : MapEntry → MapEntry) (hf : ∀ e, (f e).key = K.enc k ∧ (f e).val = v) :
    ∀ (j : Nat), es.map (fun e => (e.key, e.val)) = l.map (fun p => (K.enc p.1, p.2)) → (∃ e, es[j]? = some e ∧ e.key = K.enc k) → (∀ i e, i < j → es[i]? = some e → e.key ≠ K.enc k) →
    (es.modify j f).map (fun e => (e.key, e.val)) = (mput l k v).map (fun p => (K.enc p.1, p.2)) := by
  induction es generalizing l with
  | nil => rintro j h ⟨e, he, _⟩ _; simp at he
  | cons x r ih =>
    intro j h hj hi
    cases l with
    | nil => simp at h
    | cons p l =>
      simp only [List.map_cons, List.cons.injEq, Prod.mk.injEq] at h
      obtain ⟨⟨h1, h2⟩, h3⟩ := h
      cases j with
      | zero =>
        obtain ⟨e, he, hk⟩ := hj
        simp at he
        subst he
        have hp : p.1 = k := K.inj (h1.symm.trans hk)
        simp [mput, hp, List.modify, hf, h3]
      | succ j =>
        have hp : p.1 ≠ k := fun e => hi 0 x (by omega) rfl (by rw [h1, e])
        simp only [mput, if_neg hp, List.modify_succ_cons, List.map_cons, List.cons.injEq, Prod.mk.injEq]
        refine ⟨⟨h1, h2⟩, ih j h3 ?_ ?_⟩
        · obtain ⟨e, he, hk⟩ := hj
          exact ⟨e, by simpa using he, hk⟩
        · intro i e hlt he
          exact hi (i + 1) e (by omega) (by simpa using he)
theorem uniq_of {es : Array MapEntry} {cl : Nat} (h : Stamped es cl) {i j : Nat} {e e' : MapEntry} (hi : es.toList[i]? = some e) (hj : es.toList[j]? = some e') (hk : e.key = e'.key) : i = j := by
  have hp := ((stamped_iff es cl).1 h).2.2
  rcases Nat.lt_trichotomy i j with hl | hl | hl
  · obtain ⟨hi', rfl⟩ := List.getElem?_eq_some_iff.1 hi
    obtain ⟨hj', rfl⟩ := List.getElem?_eq_some_iff.1 hj
    exact absurd hk (List.pairwise_iff_getElem.1 hp i j hi' hj' hl)
  · exact hl
  · obtain ⟨hi', rfl⟩ := List.getElem?_eq_some_iff.1 hi
    obtain ⟨hj', rfl⟩ := List.getElem?_eq_some_iff.1 hj
    exact absurd hk.symm (List.pairwise_iff_getElem.1 hp j i hj' hi' hl)
theorem At.update {W : World} {B : Nat} {l : List (α × Value)} (h : At K W B l) (hT : P.underlying T = some (.map kt et)) (hd : P.underlying kt = some d) (k : α) (v : Value) :
    ∃ o, o.isCells = false ∧ (Instr.mapUpdate T (.map (some B)) (K.enc k) v).run P W = .ok () (W.putObj B o) ∧ At K (W.putObj B o) B (mput l k v) := by
  obtain ⟨es, cl, h1, h2, h3⟩ := h
  have hlt : B < W.heap.size := (Array.getElem?_eq_some_iff.1 h1).1
  rcases find_of (K := K) 0 k h3 with ⟨g1, g2, g3⟩ | ⟨j, u, e, g1, g2, g3, g4, g5⟩
  · refine ⟨.map (es.push { key := K.enc k, val := v, born := cl }) (cl + 1), rfl, ?_, _, _, World.putObj_heap_same hlt, stamped_push h2 g3, ?_⟩
    · simp [Instr.mapUpdate, Sem.run_bind, run_underlying hT, MapKept.run_getObj_map h1, MapKept.run_checkKey hd (K.is k), MapKept.run_findKey hd g2, MapKept.run_setObj_map _ h1, Result.andThen, World.putObj]
    · simp [mput_none g1, h3]
  · have hj : es[0 + j]? = some e := by rw [Nat.zero_add]; rw [← Array.getElem?_toList]; exact g3
    refine ⟨.map (es.modify (0 + j) fun e => { e with key := K.enc k, val := v }) cl, rfl, ?_, _, _, World.putObj_heap_same hlt, stamped_modify h2 _ _ (fun _ _ => rfl) (fun e' _ he' => by rw [hj] at he'; cases he'; exact g4.symm), ?_⟩
    · have hst := fun (w : World) => MapKept.run_keyThatStays (P := P) (w := w) (K.is k)
      simp [Instr.mapUpdate, Sem.run_bind, run_underlying hT, MapKept.run_getObj_map h1, MapKept.run_checkKey hd (K.is k), MapKept.run_findKey hd g2, MapKept.run_setObj_map _ h1, Result.andThen, World.putObj, hj, g4, hst]
      simp only [Nat.zero_add] at hj
      simp [hj, g4, hst, MapKept.run_setObj_map _ h1, Result.andThen]
    · rw [Nat.zero_add, Array.toList_modify]
      refine map_modify k v _ (fun _ => ⟨rfl, rfl⟩) j h3 ⟨e, g3, g4⟩ ?_
      intro i e' hlt' he' hk'
      have := uniq_of h2 he' g3 (hk'.trans g4.symm)
      omega
end
end Go.Proofs.YthpecpkncifngaaDoor.Mp
end

-- PRINTED by print.py (a twelfth state) out of the translation. Not trusted: Lean checks it.
section
namespace Go.Proofs.YthpecpkncifngaaDoor.X
open Go.RowKit Go.Proofs.YthpecpkncifngaaDoorW.PrintWords Go.Proofs.YthpecpkncifngaaDoorW.PrintLast Go.Proofs.YthpecpkncifngaaDoorW.PrintMore
attribute [local go_sem] max2_int min2_int max_two min_two max_three min_three max_four min_four   -- for this text's walks alone
-- NOT PRINTED: function 22 (tabularyref11_With)
def tabularylaw11_small.f  : Option ((List (S26))) := some (([(⟨(⟨#[97]⟩ : ByteArray), 2, 0, 0, ([] : List Int), (⟨#[]⟩ : ByteArray)⟩ : S26), (⟨(⟨#[97, 47, 102]⟩ : ByteArray), 1, 0, 0, (([1, 2, 3] : List Int)), (⟨#[]⟩ : ByteArray)⟩ : S26), (⟨(⟨#[97, 47, 104]⟩ : ByteArray), 3, 0, 0, ([] : List Int), (⟨#[97, 47, 102]⟩ : ByteArray)⟩ : S26), (⟨(⟨#[97, 47, 115]⟩ : ByteArray), 4, 0, 0, ([] : List Int), (⟨#[102]⟩ : ByteArray)⟩ : S26), (⟨(⟨#[108]⟩ : ByteArray), 4, 0, 0, ([] : List Int), (⟨#[97]⟩ : ByteArray)⟩ : S26)] : List (S26)))
set_option maxHeartbeats 8000000 in
set_option maxRecDepth 100000 in
theorem tabularylaw11_small.calls  (r : List (S26)) (w : World) (h : tabularylaw11_small.f  = some r) :
    Calls Tryd.prog 34 #[] w fun e w' => ∃ v0_ : Value, e = .returned (v0_) ∧ Kd.N k26 26 w' w.heap.size (fun k_ => (w.heap.size ≤ k_)) v0_ r ∧ Below w.heap.size w w' := by
  have hu26 := Tryd.underlying26
  have HB := Aside0.mk (Below.refl w.heap.size w)
  have H : (some (([(⟨(⟨#[97]⟩ : ByteArray), 2, 0, 0, ([] : List Int), (⟨#[]⟩ : ByteArray)⟩ : S26), (⟨(⟨#[97, 47, 102]⟩ : ByteArray), 1, 0, 0, (([1, 2, 3] : List Int)), (⟨#[]⟩ : ByteArray)⟩ : S26), (⟨(⟨#[97, 47, 104]⟩ : ByteArray), 3, 0, 0, ([] : List Int), (⟨#[97, 47, 102]⟩ : ByteArray)⟩ : S26), (⟨(⟨#[97, 47, 115]⟩ : ByteArray), 4, 0, 0, ([] : List Int), (⟨#[102]⟩ : ByteArray)⟩ : S26), (⟨(⟨#[108]⟩ : ByteArray), 4, 0, 0, ([] : List Int), (⟨#[97]⟩ : ByteArray)⟩ : S26)] : List (S26)))) = some r := h
  clear h
  obtain ⟨y243, hy243⟩ : ∃ y_ : List Int, y_ = (([1, 2, 3] : List Int)) := ⟨_, rfl⟩
  replace H : (some (([(⟨(⟨#[97]⟩ : ByteArray), 2, 0, 0, ([] : List Int), (⟨#[]⟩ : ByteArray)⟩ : S26), (⟨(⟨#[97, 47, 102]⟩ : ByteArray), 1, 0, 0, y243, (⟨#[]⟩ : ByteArray)⟩ : S26), (⟨(⟨#[97, 47, 104]⟩ : ByteArray), 3, 0, 0, ([] : List Int), (⟨#[97, 47, 102]⟩ : ByteArray)⟩ : S26), (⟨(⟨#[97, 47, 115]⟩ : ByteArray), 4, 0, 0, ([] : List Int), (⟨#[102]⟩ : ByteArray)⟩ : S26), (⟨(⟨#[108]⟩ : ByteArray), 4, 0, 0, ([] : List Int), (⟨#[97]⟩ : ByteArray)⟩ : S26)] : List (S26)))) = some r := by first | (rw [hy243]; with_reducible exact H) | (have H2_ := (Option.bind_some _ _).symm.trans H; rw [hy243]; with_reducible exact H2_) | (have H2_ := (Option.bind_some _ _).symm.trans H; with_reducible exact H2_) | with_reducible exact H | (rw [hy243]; exact H) | exact H
  have Ny243 := Aside0.mk hy243
  clear hy243
  obtain ⟨y246, hy246⟩ : ∃ y_ : List (S26), y_ = (([(⟨(⟨#[97]⟩ : ByteArray), 2, 0, 0, ([] : List Int), (⟨#[]⟩ : ByteArray)⟩ : S26), (⟨(⟨#[97, 47, 102]⟩ : ByteArray), 1, 0, 0, y243, (⟨#[]⟩ : ByteArray)⟩ : S26), (⟨(⟨#[97, 47, 104]⟩ : ByteArray), 3, 0, 0, ([] : List Int), (⟨#[97, 47, 102]⟩ : ByteArray)⟩ : S26), (⟨(⟨#[97, 47, 115]⟩ : ByteArray), 4, 0, 0, ([] : List Int), (⟨#[102]⟩ : ByteArray)⟩ : S26), (⟨(⟨#[108]⟩ : ByteArray), 4, 0, 0, ([] : List Int), (⟨#[97]⟩ : ByteArray)⟩ : S26)] : List (S26))) := ⟨_, rfl⟩
  replace H : (some y246) = some r := by first | (rw [hy246]; with_reducible exact H) | (have H2_ := (Option.bind_some _ _).symm.trans H; rw [hy246]; with_reducible exact H2_) | (have H2_ := (Option.bind_some _ _).symm.trans H; with_reducible exact H2_) | with_reducible exact H | (rw [hy246]; exact H) | exact H
  have Ny246 := Aside0.mk hy246
  clear hy246
  obtain rfl := Option.some.inj H
  go_enter Tryd.func34, Tryd.ntmps34
  go_wp2_with (first | ((with_reducible refine gate_dst (N := 2) rfl ?_); refine Kd.R_lit (Kd.int .u8) _ 5 ?hg (N := 2) ?hd (xs := ([1, 2, 3] : List Int)) (inner := [.int .u8 1, .int .u8 2, .int .u8 3]) (ok := fun _ => True) (okp := fun _ => True) ?hr ?hp (fun _ hk => hk) trivial (Below.refl _ _) (Nat.le_refl _) (by simp) ?_; (case hd => rfl); (case hg => rfl); (case hr => first | (go_simp; done) | (go_simp; rfl)); (case hp => exact (Reps.one (show Kd.M (Kd.int .u8) _ _ _ 1 [.int .u8 1] from rfl) (Reps.one (show Kd.M (Kd.int .u8) _ _ _ 2 [.int .u8 2] from rfl) (Reps.one (show Kd.M (Kd.int .u8) _ _ _ 3 [.int .u8 3] from rfl) (Reps.none _ _))))); intro v244 w1 ho2 hb hg_ hnew_; clear hg_ hnew_; (first | rw [← Ny243.out] at ho2 | (simp only [Int.reduceToNat] at ho2; rw [← Ny243.out] at ho2)); have n0_ := Aside0.mk (Kd.R_lower (Kd.R_newM (M := fun k_ => (w.heap.size ≤ k_)) ho2 (below_size (by repeat (first | (with_reducible first | exact HB.out | apply below_alloc | apply pw_below_drewN | apply below_drew1) | exact HB.out))) (fun k_ h_ => h_)) (below_size (by repeat (first | (with_reducible first | exact HB.out | apply below_alloc | apply pw_below_drewN | apply below_drew1) | exact HB.out)))); have n1_ := Aside0.mk (below_step (by repeat (first | (with_reducible first | exact HB.out | apply below_alloc | apply pw_below_drewN | apply below_drew1) | exact HB.out)) hb); clear HB; have HO245 := n0_; have HB := n1_; clear n0_ n1_; clear hb ho2; obtain ⟨Ao3, co3, eo3⟩ := Kd.R_slice HO245.out; subst eo3) | ((with_reducible refine gate_dst (N := 7) rfl ?_); refine Kd.N_lit k26 _ 26 ?hg (N' := 7) ?hd (xs := ([(⟨(⟨#[97]⟩ : ByteArray), 2, 0, 0, ([] : List Int), (⟨#[]⟩ : ByteArray)⟩ : S26), (⟨(⟨#[97, 47, 102]⟩ : ByteArray), 1, 0, 0, y243, (⟨#[]⟩ : ByteArray)⟩ : S26), (⟨(⟨#[97, 47, 104]⟩ : ByteArray), 3, 0, 0, ([] : List Int), (⟨#[97, 47, 102]⟩ : ByteArray)⟩ : S26), (⟨(⟨#[97, 47, 115]⟩ : ByteArray), 4, 0, 0, ([] : List Int), (⟨#[102]⟩ : ByteArray)⟩ : S26), (⟨(⟨#[108]⟩ : ByteArray), 4, 0, 0, ([] : List Int), (⟨#[97]⟩ : ByteArray)⟩ : S26)] : List (S26))) (inner := [.string (⟨#[97]⟩ : ByteArray), .int .u8 2, .int .i64 0, .int .i64 0, .slice none 0 0, .string (⟨#[]⟩ : ByteArray), .string (⟨#[97, 47, 102]⟩ : ByteArray), .int .u8 1, .int .i64 0, .int .i64 0, .slice Ao3 y243.length co3, .string (⟨#[]⟩ : ByteArray), .string (⟨#[97, 47, 104]⟩ : ByteArray), .int .u8 3, .int .i64 0, .int .i64 0, .slice none 0 0, .string (⟨#[97, 47, 102]⟩ : ByteArray), .string (⟨#[97, 47, 115]⟩ : ByteArray), .int .u8 4, .int .i64 0, .int .i64 0, .slice none 0 0, .string (⟨#[102]⟩ : ByteArray), .string (⟨#[108]⟩ : ByteArray), .int .u8 4, .int .i64 0, .int .i64 0, .slice none 0 0, .string (⟨#[97]⟩ : ByteArray)]) (ok := (fun k_ => (w.heap.size ≤ k_))) (okp := (fun k_ => (w.heap.size ≤ k_))) ?hr ?hp (fun _ hk => hk) ((show ∀ k_, w1.heap.size ≤ k_ → (fun k_ => (w.heap.size ≤ k_)) k_ from fun k_ hk => (Nat.le_trans (below_size (by repeat (first | (with_reducible first | exact HB.out | apply below_alloc | apply pw_below_drewN | apply below_drew1) | exact HB.out))) hk)) _ (Nat.le_refl _)) (Below.refl _ _) (Nat.le_refl _) (by simp) ?_; (case hd => rfl); (case hg => rfl); (case hr => first | (go_simp; done) | (go_simp; rfl)); (case hp => exact (Reps.c6 (show Kd.FK k26 _ _ (⟨(⟨#[97]⟩ : ByteArray), 2, 0, 0, ([] : List Int), (⟨#[]⟩ : ByteArray)⟩ : S26) [.string (⟨#[97]⟩ : ByteArray), .int .u8 2, .int .i64 0, .int .i64 0, .slice none 0 0, .string (⟨#[]⟩ : ByteArray)] from (k26_mkF _ _ (⟨(⟨#[97]⟩ : ByteArray), 2, 0, 0, ([] : List Int), (⟨#[]⟩ : ByteArray)⟩ : S26) (Nat.le_refl _) (Kd.F_nil _ _ _))) (Reps.c6 (show Kd.FK k26 _ _ (⟨(⟨#[97, 47, 102]⟩ : ByteArray), 1, 0, 0, y243, (⟨#[]⟩ : ByteArray)⟩ : S26) [.string (⟨#[97, 47, 102]⟩ : ByteArray), .int .u8 1, .int .i64 0, .int .i64 0, .slice Ao3 y243.length co3, .string (⟨#[]⟩ : ByteArray)] from (k26_mkF _ _ (⟨(⟨#[97, 47, 102]⟩ : ByteArray), 1, 0, 0, y243, (⟨#[]⟩ : ByteArray)⟩ : S26) (Kd.R_reads' (Kd.R_mono (ok' := (fun k_ => (w.heap.size ≤ k_))) (HO245.out) (fun k_ hk => hk.1))).2.1 (Kd.R_F (Kd.R_mono (ok' := (fun k_ => (w.heap.size ≤ k_))) (HO245.out) (fun k_ hk => hk.1))))) (Reps.c6 (show Kd.FK k26 _ _ (⟨(⟨#[97, 47, 104]⟩ : ByteArray), 3, 0, 0, ([] : List Int), (⟨#[97, 47, 102]⟩ : ByteArray)⟩ : S26) [.string (⟨#[97, 47, 104]⟩ : ByteArray), .int .u8 3, .int .i64 0, .int .i64 0, .slice none 0 0, .string (⟨#[97, 47, 102]⟩ : ByteArray)] from (k26_mkF _ _ (⟨(⟨#[97, 47, 104]⟩ : ByteArray), 3, 0, 0, ([] : List Int), (⟨#[97, 47, 102]⟩ : ByteArray)⟩ : S26) (Nat.le_refl _) (Kd.F_nil _ _ _))) (Reps.c6 (show Kd.FK k26 _ _ (⟨(⟨#[97, 47, 115]⟩ : ByteArray), 4, 0, 0, ([] : List Int), (⟨#[102]⟩ : ByteArray)⟩ : S26) [.string (⟨#[97, 47, 115]⟩ : ByteArray), .int .u8 4, .int .i64 0, .int .i64 0, .slice none 0 0, .string (⟨#[102]⟩ : ByteArray)] from (k26_mkF _ _ (⟨(⟨#[97, 47, 115]⟩ : ByteArray), 4, 0, 0, ([] : List Int), (⟨#[102]⟩ : ByteArray)⟩ : S26) (Nat.le_refl _) (Kd.F_nil _ _ _))) (Reps.c6 (show Kd.FK k26 _ _ (⟨(⟨#[108]⟩ : ByteArray), 4, 0, 0, ([] : List Int), (⟨#[97]⟩ : ByteArray)⟩ : S26) [.string (⟨#[108]⟩ : ByteArray), .int .u8 4, .int .i64 0, .int .i64 0, .slice none 0 0, .string (⟨#[97]⟩ : ByteArray)] from (k26_mkF _ _ (⟨(⟨#[108]⟩ : ByteArray), 4, 0, 0, ([] : List Int), (⟨#[97]⟩ : ByteArray)⟩ : S26) (Nat.le_refl _) (Kd.F_nil _ _ _))) (Reps.none _ _))))))); intro v247 w4 ho5 hb hg_ hnew_; clear hg_ hnew_; (first | rw [← Ny246.out] at ho5 | (simp only [Int.reduceToNat] at ho5; rw [← Ny246.out] at ho5)); have n0_ := Aside0.mk (Kd.N_lower ho5 (below_size (by repeat (first | (with_reducible first | exact HB.out | apply below_alloc | apply pw_below_drewN | apply below_drew1) | exact HB.out)))); have n1_ := Aside0.mk (below_step (by repeat (first | (with_reducible first | exact HB.out | apply below_alloc | apply pw_below_drewN | apply below_drew1) | exact HB.out)) hb); clear HB; clear HO245; have HO248 := n0_; have HB := n1_; clear n0_ n1_; clear hb ho5))
  go_ret
  exact ⟨_, by first | rfl | (simp [errW_none, errW_some] <;> rfl) | (simp [*, errW_none, errW_some] <;> rfl), by (with_reducible repeat (first | apply Kd.N_alloc | apply Kd.N_drewN | apply Kd.N_drew)); exact HO248.out, by repeat (first | (with_reducible first | exact HB.out | apply below_alloc | apply pw_below_drewN | apply below_drew1) | exact HB.out)⟩
def strings_IndexByte.f (a0 : ByteArray) (a1 : Int) : Option Int := some (Lib.indexByte a0.data.toList a1.toNat.toUInt8)
theorem strings_IndexByte.calls (a0 : ByteArray) (a1 : Int) (r : Int) (w : World) (h : strings_IndexByte.f a0 a1 = some r) :
    Calls Tryd.prog 70 #[.string a0, .int .u8 a1] w fun e w' => e = .returned (.int .i64 r) ∧ Drawn0 w w' := by
  obtain rfl := Option.some.inj h
  refine (Tryd.strings_IndexByte a0 a1 w).mono ?_
  rintro e w' ⟨rfl, rfl⟩
  exact ⟨rfl, Drawn0.refl _⟩
def cmp_isNaN_string.f (a0 : ByteArray) : Option (Bool) := some (a0.toList != a0.toList)
set_option maxHeartbeats 8000000 in
set_option maxRecDepth 100000 in
theorem cmp_isNaN_string.calls (a0 : ByteArray) (r : Bool) (w : World) (h : cmp_isNaN_string.f a0 = some r) :
    Calls Tryd.prog 96 #[.string a0] w fun e w' => e = .returned (.bool r) ∧ Drawn0 w w' := by
  have H : (some (a0.toList != a0.toList)) = some r := h
  clear h
  obtain rfl := Option.some.inj H
  go_enter Tryd.func96, Tryd.ntmps96
  go_wp2
  go_ret
  exact ⟨by first | rfl | (simp; done) | (simp [*]; done), by repeat (first | exact Drawn0.refl _ | apply Drawn0.step)⟩
def cmp_Compare_string.f (a0 : ByteArray) (a1 : ByteArray) : Option (Int) := (cmp_isNaN_string.f a0).bind fun t271 => ((cmp_isNaN_string.f a1).bind fun t272 => (if t271 = true then (if t272 = true then (some 0) else (some (-1))) else (if t272 = true then (some 1) else (if (Op.bytesLess a0.toList a1.toList) = true then (some (-1)) else (if (Op.bytesLess a1.toList a0.toList) = true then (some 1) else (some 0))))))
set_option maxHeartbeats 8000000 in
set_option maxRecDepth 100000 in
theorem cmp_Compare_string.calls (a0 : ByteArray) (a1 : ByteArray) (r : Int) (w : World) (h : cmp_Compare_string.f a0 a1 = some r) :
    Calls Tryd.prog 71 #[.string a0, .string a1] w fun e w' => e = .returned (.int .i64 r) ∧ Drawn0 w w' := by
  have H : ((cmp_isNaN_string.f a0).bind fun t271 => ((cmp_isNaN_string.f a1).bind fun t272 => (if t271 = true then (if t272 = true then (some 0) else (some (-1))) else (if t272 = true then (some 1) else (if (Op.bytesLess a0.toList a1.toList) = true then (some (-1)) else (if (Op.bytesLess a1.toList a0.toList) = true then (some 1) else (some 0))))))) = some r := h
  clear h
  replace H := Option.bind_eq_some_iff.mp H
  obtain ⟨t271, A30, H⟩ := H
  replace H : ((cmp_isNaN_string.f a1).bind fun t272 => (if t271 = true then (if t272 = true then (some 0) else (some (-1))) else (if t272 = true then (some 1) else (if (Op.bytesLess a0.toList a1.toList) = true then (some (-1)) else (if (Op.bytesLess a1.toList a0.toList) = true then (some 1) else (some 0)))))) = some r := H
  have A3 := Aside0.mk A30
  clear A30
  replace H := Option.bind_eq_some_iff.mp H
  obtain ⟨t272, A40, H⟩ := H
  replace H : (if t271 = true then (if t272 = true then (some 0) else (some (-1))) else (if t272 = true then (some 1) else (if (Op.bytesLess a0.toList a1.toList) = true then (some (-1)) else (if (Op.bytesLess a1.toList a0.toList) = true then (some 1) else (some 0))))) = some r := H
  have A4 := Aside0.mk A40
  clear A40
  by_cases c5 : t271 = true
  · subst c5
    have H1 : (if t272 = true then (some 0) else (some (-1))) = some r := by rw [if_pos rfl] at H; exact H
    clear H
    have H := H1
    clear H1
    by_cases c6 : t272 = true
    · subst c6
      have H1 : (some 0) = some r := by rw [if_pos rfl] at H; exact H
      clear H
      have H := H1
      clear H1
      obtain rfl := Option.some.inj H
      go_enter Tryd.func71, Tryd.ntmps71
      go_wp2_with (first | ((with_reducible refine gate_callee (f := 96) rfl ?_); refine goesL_ (some 8) rfl rfl Tryd.func96 (by kernel_rfl) rfl #[.string a0] rfl (by (try simp only [List.map_toArray, List.map_cons, List.map_nil]); first | done | rfl | (simp only [List.length_drop, List.length_take]; rfl)) ?_; (with_reducible refine (cmp_isNaN_string.calls a0 true _ A3.out).mono ?_); rintro e w' ⟨rfl, ⟨nd, rfl⟩⟩; refine ⟨_, rfl, ?_⟩) | ((with_reducible refine gate_callee (f := 96) rfl ?_); refine goesL_ (some 10) rfl rfl Tryd.func96 (by kernel_rfl) rfl #[.string a1] rfl (by (try simp only [List.map_toArray, List.map_cons, List.map_nil]); first | done | rfl | (simp only [List.length_drop, List.length_take]; rfl)) ?_; (with_reducible refine (cmp_isNaN_string.calls a1 true _ A4.out).mono ?_); rintro e w' ⟨rfl, ⟨nd, rfl⟩⟩; refine ⟨_, rfl, ?_⟩))
      go_ret
      exact ⟨by first | rfl | (simp; done) | (simp [*]; done), by repeat (first | exact Drawn0.refl _ | apply Drawn0.step)⟩
    · replace c6 := Bool.eq_false_iff.mpr c6
      subst c6
      have H1 : (some (-1)) = some r := by rw [if_neg (show ¬ (false = true) by decide)] at H; exact H
      clear H
      have H := H1
      clear H1
      obtain rfl := Option.some.inj H
      go_enter Tryd.func71, Tryd.ntmps71
      go_wp2_with (first | ((with_reducible refine gate_callee (f := 96) rfl ?_); refine goesL_ (some 8) rfl rfl Tryd.func96 (by kernel_rfl) rfl #[.string a0] rfl (by (try simp only [List.map_toArray, List.map_cons, List.map_nil]); first | done | rfl | (simp only [List.length_drop, List.length_take]; rfl)) ?_; (with_reducible refine (cmp_isNaN_string.calls a0 true _ A3.out).mono ?_); rintro e w' ⟨rfl, ⟨nd, rfl⟩⟩; refine ⟨_, rfl, ?_⟩) | ((with_reducible refine gate_callee (f := 96) rfl ?_); refine goesL_ (some 10) rfl rfl Tryd.func96 (by kernel_rfl) rfl #[.string a1] rfl (by (try simp only [List.map_toArray, List.map_cons, List.map_nil]); first | done | rfl | (simp only [List.length_drop, List.length_take]; rfl)) ?_; (with_reducible refine (cmp_isNaN_string.calls a1 false _ A4.out).mono ?_); rintro e w' ⟨rfl, ⟨nd, rfl⟩⟩; refine ⟨_, rfl, ?_⟩))
      go_ret
      exact ⟨by first | rfl | (simp; done) | (simp [*]; done), by repeat (first | exact Drawn0.refl _ | apply Drawn0.step)⟩
  · replace c5 := Bool.eq_false_iff.mpr c5
    subst c5
    have H1 : (if t272 = true then (some 1) else (if (Op.bytesLess a0.toList a1.toList) = true then (some (-1)) else (if (Op.bytesLess a1.toList a0.toList) = true then (some 1) else (some 0)))) = some r := by rw [if_neg (show ¬ (false = true) by decide)] at H; exact H
    clear H
    have H := H1
    clear H1
    by_cases c7 : t272 = true
    · subst c7
      have H1 : (some 1) = some r := by rw [if_pos rfl] at H; exact H
      clear H
      have H := H1
      clear H1
      obtain rfl := Option.some.inj H
      go_enter Tryd.func71, Tryd.ntmps71
      go_wp2_with (first | ((with_reducible refine gate_callee (f := 96) rfl ?_); refine goesL_ (some 8) rfl rfl Tryd.func96 (by kernel_rfl) rfl #[.string a0] rfl (by (try simp only [List.map_toArray, List.map_cons, List.map_nil]); first | done | rfl | (simp only [List.length_drop, List.length_take]; rfl)) ?_; (with_reducible refine (cmp_isNaN_string.calls a0 false _ A3.out).mono ?_); rintro e w' ⟨rfl, ⟨nd, rfl⟩⟩; refine ⟨_, rfl, ?_⟩) | ((with_reducible refine gate_callee (f := 96) rfl ?_); refine goesL_ (some 10) rfl rfl Tryd.func96 (by kernel_rfl) rfl #[.string a1] rfl (by (try simp only [List.map_toArray, List.map_cons, List.map_nil]); first | done | rfl | (simp only [List.length_drop, List.length_take]; rfl)) ?_; (with_reducible refine (cmp_isNaN_string.calls a1 true _ A4.out).mono ?_); rintro e w' ⟨rfl, ⟨nd, rfl⟩⟩; refine ⟨_, rfl, ?_⟩))
      go_ret
      exact ⟨by first | rfl | (simp; done) | (simp [*]; done), by repeat (first | exact Drawn0.refl _ | apply Drawn0.step)⟩
    · replace c7 := Bool.eq_false_iff.mpr c7
      subst c7
      have H1 : (if (Op.bytesLess a0.toList a1.toList) = true then (some (-1)) else (if (Op.bytesLess a1.toList a0.toList) = true then (some 1) else (some 0))) = some r := by rw [if_neg (show ¬ (false = true) by decide)] at H; exact H
      clear H
      have H := H1
      clear H1
      by_cases c8 : (Op.bytesLess a0.toList a1.toList) = true
      · rw [if_pos c8] at H
        have c8b0 : (Op.bytesLess a0.toList a1.toList) = true := c8
        clear c8
        obtain rfl := Option.some.inj H
        go_enter Tryd.func71, Tryd.ntmps71
        go_wp2_with (first | ((with_reducible refine gate_callee (f := 96) rfl ?_); refine goesL_ (some 8) rfl rfl Tryd.func96 (by kernel_rfl) rfl #[.string a0] rfl (by (try simp only [List.map_toArray, List.map_cons, List.map_nil]); first | done | rfl | (simp only [List.length_drop, List.length_take]; rfl)) ?_; (with_reducible refine (cmp_isNaN_string.calls a0 false _ A3.out).mono ?_); rintro e w' ⟨rfl, ⟨nd, rfl⟩⟩; refine ⟨_, rfl, ?_⟩) | ((with_reducible refine gate_callee (f := 96) rfl ?_); refine goesL_ (some 10) rfl rfl Tryd.func96 (by kernel_rfl) rfl #[.string a1] rfl (by (try simp only [List.map_toArray, List.map_cons, List.map_nil]); first | done | rfl | (simp only [List.length_drop, List.length_take]; rfl)) ?_; (with_reducible refine (cmp_isNaN_string.calls a1 false _ A4.out).mono ?_); rintro e w' ⟨rfl, ⟨nd, rfl⟩⟩; refine ⟨_, rfl, ?_⟩))
        go_ret
        exact ⟨by first | rfl | (simp; done) | (simp [*]; done), by repeat (first | exact Drawn0.refl _ | apply Drawn0.step)⟩
      · rw [if_neg c8] at H
        have c8b0 : (Op.bytesLess a0.toList a1.toList) = false := by simpa using c8
        clear c8
        by_cases c9 : (Op.bytesLess a1.toList a0.toList) = true
        · rw [if_pos c9] at H
          have c9b0 : (Op.bytesLess a1.toList a0.toList) = true := c9
          clear c9
          obtain rfl := Option.some.inj H
          go_enter Tryd.func71, Tryd.ntmps71
          go_wp2_with (first | ((with_reducible refine gate_callee (f := 96) rfl ?_); refine goesL_ (some 8) rfl rfl Tryd.func96 (by kernel_rfl) rfl #[.string a0] rfl (by (try simp only [List.map_toArray, List.map_cons, List.map_nil]); first | done | rfl | (simp only [List.length_drop, List.length_take]; rfl)) ?_; (with_reducible refine (cmp_isNaN_string.calls a0 false _ A3.out).mono ?_); rintro e w' ⟨rfl, ⟨nd, rfl⟩⟩; refine ⟨_, rfl, ?_⟩) | ((with_reducible refine gate_callee (f := 96) rfl ?_); refine goesL_ (some 10) rfl rfl Tryd.func96 (by kernel_rfl) rfl #[.string a1] rfl (by (try simp only [List.map_toArray, List.map_cons, List.map_nil]); first | done | rfl | (simp only [List.length_drop, List.length_take]; rfl)) ?_; (with_reducible refine (cmp_isNaN_string.calls a1 false _ A4.out).mono ?_); rintro e w' ⟨rfl, ⟨nd, rfl⟩⟩; refine ⟨_, rfl, ?_⟩))
          go_ret
          exact ⟨by first | rfl | (simp; done) | (simp [*]; done), by repeat (first | exact Drawn0.refl _ | apply Drawn0.step)⟩
        · rw [if_neg c9] at H
          have c9b0 : (Op.bytesLess a1.toList a0.toList) = false := by simpa using c9
          clear c9
          obtain rfl := Option.some.inj H
          go_enter Tryd.func71, Tryd.ntmps71
          go_wp2_with (first | ((with_reducible refine gate_callee (f := 96) rfl ?_); refine goesL_ (some 8) rfl rfl Tryd.func96 (by kernel_rfl) rfl #[.string a0] rfl (by (try simp only [List.map_toArray, List.map_cons, List.map_nil]); first | done | rfl | (simp only [List.length_drop, List.length_take]; rfl)) ?_; (with_reducible refine (cmp_isNaN_string.calls a0 false _ A3.out).mono ?_); rintro e w' ⟨rfl, ⟨nd, rfl⟩⟩; refine ⟨_, rfl, ?_⟩) | ((with_reducible refine gate_callee (f := 96) rfl ?_); refine goesL_ (some 10) rfl rfl Tryd.func96 (by kernel_rfl) rfl #[.string a1] rfl (by (try simp only [List.map_toArray, List.map_cons, List.map_nil]); first | done | rfl | (simp only [List.length_drop, List.length_take]; rfl)) ?_; (with_reducible refine (cmp_isNaN_string.calls a1 false _ A4.out).mono ?_); rintro e w' ⟨rfl, ⟨nd, rfl⟩⟩; refine ⟨_, rfl, ?_⟩))
          go_ret
          exact ⟨by first | rfl | (simp; done) | (simp [*]; done), by repeat (first | exact Drawn0.refl _ | apply Drawn0.step)⟩
end Go.Proofs.YthpecpkncifngaaDoor.X
end

-- PRINTED by print.py (a twelfth state) out of the translation. Not trusted: Lean checks it.
section
namespace Go.Proofs.YthpecpkncifngaaDoor.X
open Go.RowKit Go.Proofs.YthpecpkncifngaaDoorW.PrintWords Go.Proofs.YthpecpkncifngaaDoorW.PrintLast Go.Proofs.YthpecpkncifngaaDoorW.PrintMore
attribute [local go_sem] max2_int min2_int max_two min_two max_three min_three max_four min_four   -- for this text's walks alone
mutual
def name_Compare.l0 : Nat → ByteArray → ByteArray → Option (Int)
  | 0, _, _ => none
  | k + 1, x0, x1 => (strings_IndexByte.f x0 47).bind fun t273 => ((strings_IndexByte.f x1 47).bind fun t274 => (if t273 ≥ 0 then (if 0 ≤ t273 then (if t273 ≤ (x0.size : Int) then (name_Compare.j1 k x0 x1 t273 t274 (x0.extract 0 (t273 : Int).toNat) x1) else (none)) else (none)) else (name_Compare.j1 k x0 x1 t273 t274 x0 x1)))
def name_Compare.j1 : Nat → ByteArray → ByteArray → Int → Int → ByteArray → ByteArray → Option (Int)
  | 0, _, _, _, _, _, _ => none
  | k + 1, x0, x1, x5, x6, x7, x8 => if x6 ≥ 0 then (if 0 ≤ x6 then (if x6 ≤ (x1.size : Int) then (name_Compare.j2 k x0 x1 x5 x6 x7 (x1.extract 0 (x6 : Int).toNat)) else (none)) else (none)) else (name_Compare.j2 k x0 x1 x5 x6 x7 x8)
def name_Compare.j2 : Nat → ByteArray → ByteArray → Int → Int → ByteArray → ByteArray → Option (Int)
  | 0, _, _, _, _, _, _ => none
  | k + 1, x0, x1, x5, x6, x7, x8 => (cmp_Compare_string.f x7 x8).bind fun t275 => (if t275 = 0 then (if x5 < 0 then (name_Compare.j3 k x0 x1 x5 x6 (decide (x6 < 0))) else (name_Compare.j3 k x0 x1 x5 x6 false)) else (some t275))
def name_Compare.j3 : Nat → ByteArray → ByteArray → Int → Int → Bool → Option (Int)
  | 0, _, _, _, _, _ => none
  | k + 1, x0, x1, x5, x6, x32 => if x32 = true then (some 0) else (if x5 < 0 then (some (-1)) else (if x6 < 0 then (some 1) else (if 0 ≤ (wrap64 (x5 + 1)) then (if (wrap64 (x5 + 1)) ≤ (x0.size : Int) then (if 0 ≤ (wrap64 (x6 + 1)) then (if (wrap64 (x6 + 1)) ≤ (x1.size : Int) then (name_Compare.l0 k (x0.extract ((wrap64 (x5 + 1)) : Int).toNat x0.size) (x1.extract ((wrap64 (x6 + 1)) : Int).toNat x1.size)) else (none)) else (none)) else (none)) else (none))))
end
def name_Compare.f (k : Nat) (a0 : ByteArray) (a1 : ByteArray) : Option (Int) := name_Compare.l0 k a0 a1
set_option maxHeartbeats 8000000 in
set_option maxRecDepth 100000 in
theorem name_Compare.calls (k : Nat) (a0 : ByteArray) (a1 : ByteArray) (r : Int) (w : World) (h : name_Compare.f k a0 a1 = some r) :
    Calls Tryd.prog 36 #[.string a0, .string a1] w fun e w' => e = .returned (.int .i64 r) ∧ Drawn0 w w' := by
  have H : (name_Compare.l0 k a0 a1) = some r := h
  clear h
  have H' := Aside0.mk H
  clear H
  go_enter Tryd.func36, Tryd.ntmps36
  go_wp2
  repeat (go_quiet (fail); try go_wp2)
  go_loopg [0, 1] k (fun kq v0 v1 w' => ∃ (x0_1 : ByteArray) (x1_1 : ByteArray), v0 = .string x0_1 ∧ v1 = .string x1_1 ∧ Aside0 (name_Compare.l0 kq x0_1 x1_1 = some r) ∧ Aside0 (kq ≤ k) ∧ Drawn0 w w')
  case atStart => exact ⟨(a0), (a1), (by first | rfl | (simp; done) | (simp [*]; done)), (by first | rfl | (simp; done) | (simp [*]; done)), H', ⟨Nat.le_refl _⟩, by repeat (first | exact Drawn0.refl _ | apply Drawn0.step)⟩
  case round =>
    clear H'
    try clear p2
    obtain ⟨x0_1, x1_1, rfl, rfl, HA, HK1, ⟨m1, rfl⟩⟩ := hrel
    cases gk with
    | zero => exact absurd HA.out (by simp [name_Compare.l0])
    | succ k1 =>
      have H := HA.out
      clear HA
      simp only [name_Compare.l0] at H
      replace H := Option.bind_eq_some_iff.mp H
      obtain ⟨t273, A30, H⟩ := H
      replace H : ((strings_IndexByte.f x1_1 47).bind fun t274 => (if t273 ≥ 0 then (if 0 ≤ t273 then (if t273 ≤ (x0_1.size : Int) then (name_Compare.j1 k1 x0_1 x1_1 t273 t274 (x0_1.extract 0 (t273 : Int).toNat) x1_1) else (none)) else (none)) else (name_Compare.j1 k1 x0_1 x1_1 t273 t274 x0_1 x1_1))) = some r := H
      have A3 := Aside0.mk A30
      clear A30
      replace H := Option.bind_eq_some_iff.mp H
      obtain ⟨t274, A40, H⟩ := H
      replace H : (if t273 ≥ 0 then (if 0 ≤ t273 then (if t273 ≤ (x0_1.size : Int) then (name_Compare.j1 k1 x0_1 x1_1 t273 t274 (x0_1.extract 0 (t273 : Int).toNat) x1_1) else (none)) else (none)) else (name_Compare.j1 k1 x0_1 x1_1 t273 t274 x0_1 x1_1)) = some r := H
      have A4 := Aside0.mk A40
      clear A40
      have HC5 := Aside0.mk H
      clear H
      go_upto_if 17 with (first | (go_at_call 70; (with_reducible refine (strings_IndexByte.calls x0_1 47 t273 _ A3.out).mono ?_); rintro e w' ⟨rfl, ⟨nd, rfl⟩⟩; (try first | exact ⟨rfl, _, World.drewN_drewN _ _ _⟩ | exact ⟨rfl, _, Eq.trans (World.drewN_drewN _ _ _) (congrArg (World.drewN _) (Nat.add_assoc _ _ _))⟩)) | (go_at_call 70; (with_reducible refine (strings_IndexByte.calls x1_1 47 t274 _ A4.out).mono ?_); rintro e w' ⟨rfl, ⟨nd, rfl⟩⟩; (try first | exact ⟨rfl, _, World.drewN_drewN _ _ _⟩ | exact ⟨rfl, _, Eq.trans (World.drewN_drewN _ _ _) (congrArg (World.drewN _) (Nat.add_assoc _ _ _))⟩)))
      repeat (go_quiet (first | (go_at_call 70; (with_reducible refine (strings_IndexByte.calls x0_1 47 t273 _ A3.out).mono ?_); rintro e w' ⟨rfl, ⟨nd, rfl⟩⟩; (try first | exact ⟨rfl, _, World.drewN_drewN _ _ _⟩ | exact ⟨rfl, _, Eq.trans (World.drewN_drewN _ _ _) (congrArg (World.drewN _) (Nat.add_assoc _ _ _))⟩)) | (go_at_call 70; (with_reducible refine (strings_IndexByte.calls x1_1 47 t274 _ A4.out).mono ?_); rintro e w' ⟨rfl, ⟨nd, rfl⟩⟩; (try first | exact ⟨rfl, _, World.drewN_drewN _ _ _⟩ | exact ⟨rfl, _, Eq.trans (World.drewN_drewN _ _ _) (congrArg (World.drewN _) (Nat.add_assoc _ _ _))⟩))); go_upto_if 17 with (first | (go_at_call 70; (with_reducible refine (strings_IndexByte.calls x0_1 47 t273 _ A3.out).mono ?_); rintro e w' ⟨rfl, ⟨nd, rfl⟩⟩; (try first | exact ⟨rfl, _, World.drewN_drewN _ _ _⟩ | exact ⟨rfl, _, Eq.trans (World.drewN_drewN _ _ _) (congrArg (World.drewN _) (Nat.add_assoc _ _ _))⟩)) | (go_at_call 70; (with_reducible refine (strings_IndexByte.calls x1_1 47 t274 _ A4.out).mono ?_); rintro e w' ⟨rfl, ⟨nd, rfl⟩⟩; (try first | exact ⟨rfl, _, World.drewN_drewN _ _ _⟩ | exact ⟨rfl, _, Eq.trans (World.drewN_drewN _ _ _) (congrArg (World.drewN _) (Nat.add_assoc _ _ _))⟩))))
      (try simp only [Act.put, List.setIfInBounds_toArray, List.set_cons_zero, List.set_cons_succ])
      go_cut [7] (fun v7 wc => ∃ (kq : Nat) (x7_4 : ByteArray), v7 = .string x7_4 ∧ Aside0 (name_Compare.j1 kq x0_1 x1_1 t273 t274 x7_4 x1_1 = some r) ∧ Aside0 (kq ≤ k1) ∧ Drawn0 w wc)
      case first =>
        have H := HC5.out
        clear HC5
        by_cases c6 : t273 ≥ 0
        · rw [if_pos c6] at H
          have c6b0 : decide (0 ≤ t273) = true := decide_eq_true c6
          clear c6
          (first | rw [c6b0] | (simp only [i64_w, i32_w]; rw [c6b0]) | skip)
          by_cases c7 : 0 ≤ t273
          · rw [if_pos c7] at H
            have c7b0 := eq_true c7
            have c7b1 : decide (0 ≤ t273) = true := decide_eq_true c7
            clear c7
            by_cases c8 : t273 ≤ (x0_1.size : Int)
            · rw [if_pos c8] at H
              have c8b0 := eq_true c8
              have c8b1 : decide (t273 ≤ (x0_1.size : Int)) = true := decide_eq_true c8
              clear c8
              have H' := Aside0.mk H
              clear H
              go_wp2
              repeat (go_quiet (fail); try go_wp2)
              go_meet
              case rel => exact ⟨_, (x0_1.extract 0 (t273 : Int).toNat), (by first | rfl | (simp; done) | (simp [*]; done)), H', ⟨by have := HK1.out; first | omega | exact Nat.le_refl _⟩, by repeat (first | exact Drawn0.refl _ | apply Drawn0.step)⟩
            · rw [if_neg c8] at H
              exact absurd H (by simp)
          · rw [if_neg c7] at H
            exact absurd H (by simp)
        · rw [if_neg c6] at H
          have c6b0 : decide (0 ≤ t273) = false := decide_eq_false c6
          clear c6
          (first | rw [c6b0] | (simp only [i64_w, i32_w]; rw [c6b0]) | skip)
          have H' := Aside0.mk H
          clear H
          go_wp2
          repeat (go_quiet (fail); try go_wp2)
          go_meet
          case rel => exact ⟨_, (x0_1), (by first | rfl | (simp; done) | (simp [*]; done)), H', ⟨by have := HK1.out; first | omega | exact Nat.le_refl _⟩, by repeat (first | exact Drawn0.refl _ | apply Drawn0.step)⟩
      case rest =>
        clear HC5
        try clear p2
        try clear c3
        try clear c6
        try clear c6b0
        try clear c7
        try clear c7b0
        try clear c7b1
        try clear c8
        try clear c8b0
        try clear c8b1
        try clear p2
        obtain ⟨kq, x7_4, rfl, HA, HJ4, ⟨mc4, rfl⟩⟩ := hcut
        cases kq with
        | zero => exact absurd HA.out (by simp [name_Compare.j1])
        | succ kj4 =>
          have H := HA.out
          clear HA
          simp only [name_Compare.j1] at H
          have HC9 := Aside0.mk H
          clear H
          go_upto_if 22 with (fail)
          repeat (go_quiet (fail); go_upto_if 22 with (fail))
          go_cut [8] (fun v8 wc => ∃ (kq : Nat) (x8_8 : ByteArray), v8 = .string x8_8 ∧ Aside0 (name_Compare.j2 kq x0_1 x1_1 t273 t274 x7_4 x8_8 = some r) ∧ Aside0 (kq ≤ kj4) ∧ Drawn0 w wc)
          case first =>
            have H := HC9.out
            clear HC9
            by_cases c10 : t274 ≥ 0
            · rw [if_pos c10] at H
              have c10b0 : decide (0 ≤ t274) = true := decide_eq_true c10
              clear c10
              (first | rw [c10b0] | (simp only [i64_w, i32_w]; rw [c10b0]) | skip)
              by_cases c11 : 0 ≤ t274
              · rw [if_pos c11] at H
                have c11b0 := eq_true c11
                have c11b1 : decide (0 ≤ t274) = true := decide_eq_true c11
                clear c11
                by_cases c12 : t274 ≤ (x1_1.size : Int)
                · rw [if_pos c12] at H
                  have c12b0 := eq_true c12
                  have c12b1 : decide (t274 ≤ (x1_1.size : Int)) = true := decide_eq_true c12
                  clear c12
                  have H' := Aside0.mk H
                  clear H
                  go_wp2
                  repeat (go_quiet (fail); try go_wp2)
                  go_meet
                  case rel => exact ⟨_, (x1_1.extract 0 (t274 : Int).toNat), (by first | rfl | (simp; done) | (simp [*]; done)), H', ⟨by have := HK1.out; have := HJ4.out; first | omega | exact Nat.le_refl _⟩, by repeat (first | exact Drawn0.refl _ | apply Drawn0.step)⟩
                · rw [if_neg c12] at H
                  exact absurd H (by simp)
              · rw [if_neg c11] at H
                exact absurd H (by simp)
            · rw [if_neg c10] at H
              have c10b0 : decide (0 ≤ t274) = false := decide_eq_false c10
              clear c10
              (first | rw [c10b0] | (simp only [i64_w, i32_w]; rw [c10b0]) | skip)
              have H' := Aside0.mk H
              clear H
              go_wp2
              repeat (go_quiet (fail); try go_wp2)
              go_meet
              case rel => exact ⟨_, (x1_1), (by first | rfl | (simp; done) | (simp [*]; done)), H', ⟨by have := HK1.out; have := HJ4.out; first | omega | exact Nat.le_refl _⟩, by repeat (first | exact Drawn0.refl _ | apply Drawn0.step)⟩
          case rest =>
            clear HC9
            try clear c1
            try clear p2
            try clear c3
            try clear c4
            try clear c6
            try clear c6b0
            try clear c7
            try clear c7b0
            try clear c7b1
            try clear c8
            try clear c8b0
            try clear c8b1
            try clear c10
            try clear c10b0
            try clear c11
            try clear c11b0
            try clear c11b1
            try clear c12
            try clear c12b0
            try clear c12b1
            try clear p2
            obtain ⟨kq, x8_8, rfl, HA, HJ8, ⟨mc8, rfl⟩⟩ := hcut
            cases kq with
            | zero => exact absurd HA.out (by simp [name_Compare.j2])
            | succ kj8 =>
              have H := HA.out
              clear HA
              simp only [name_Compare.j2] at H
              replace H := Option.bind_eq_some_iff.mp H
              obtain ⟨t275, A130, H⟩ := H
              replace H : (if t275 = 0 then (if t273 < 0 then (name_Compare.j3 kj8 x0_1 x1_1 t273 t274 (decide (t274 < 0))) else (name_Compare.j3 kj8 x0_1 x1_1 t273 t274 false)) else (some t275)) = some r := H
              have A13 := Aside0.mk A130
              clear A130
              by_cases c14 : t275 = 0
              · rw [if_pos c14] at H
                have c14b0 : (t275 == 0) = true := beq_iff_eq.mpr c14
                have c14b1 : (t275 != 0) = false := bne_eq_false_iff_eq.mpr c14
                clear c14
                have HC15 := Aside0.mk H
                clear H
                go_upto_region 10 with (first | (go_at_call 71; (with_reducible refine (cmp_Compare_string.calls x7_4 x8_8 t275 _ A13.out).mono ?_); rintro e w' ⟨rfl, ⟨nd, rfl⟩⟩; (try first | exact ⟨rfl, _, World.drewN_drewN _ _ _⟩ | exact ⟨rfl, _, Eq.trans (World.drewN_drewN _ _ _) (congrArg (World.drewN _) (Nat.add_assoc _ _ _))⟩)))
                repeat (go_quiet (first | (go_at_call 71; (with_reducible refine (cmp_Compare_string.calls x7_4 x8_8 t275 _ A13.out).mono ?_); rintro e w' ⟨rfl, ⟨nd, rfl⟩⟩; (try first | exact ⟨rfl, _, World.drewN_drewN _ _ _⟩ | exact ⟨rfl, _, Eq.trans (World.drewN_drewN _ _ _) (congrArg (World.drewN _) (Nat.add_assoc _ _ _))⟩))); go_upto_region 10 with (first | (go_at_call 71; (with_reducible refine (cmp_Compare_string.calls x7_4 x8_8 t275 _ A13.out).mono ?_); rintro e w' ⟨rfl, ⟨nd, rfl⟩⟩; (try first | exact ⟨rfl, _, World.drewN_drewN _ _ _⟩ | exact ⟨rfl, _, Eq.trans (World.drewN_drewN _ _ _) (congrArg (World.drewN _) (Nat.add_assoc _ _ _))⟩))))
                (try simp only [Act.put, List.setIfInBounds_toArray, List.set_cons_zero, List.set_cons_succ])
                go_cut [32] (fun v32 wc => ∃ (kq : Nat) (x32_14 : Bool), v32 = .bool x32_14 ∧ Aside0 (name_Compare.j3 kq x0_1 x1_1 t273 t274 x32_14 = some r) ∧ Aside0 (kq ≤ kj8) ∧ Drawn0 w wc)
                case first =>
                  have H := HC15.out
                  clear HC15
                  by_cases c16 : t273 < 0
                  · rw [if_pos c16] at H
                    have c16b0 : decide (t273 < 0) = true := decide_eq_true c16
                    clear c16
                    (first | rw [c16b0] | (simp only [i64_w, i32_w]; rw [c16b0]) | skip)
                    have H' := Aside0.mk H
                    clear H
                    go_wp2
                    repeat (go_quiet (fail); try go_wp2)
                    go_meet
                    case rel => exact ⟨_, (decide (t274 < 0)), (by first | rfl | (simp; done) | (simp [*]; done)), H', ⟨by have := HK1.out; have := HJ4.out; have := HJ8.out; first | omega | exact Nat.le_refl _⟩, by repeat (first | exact Drawn0.refl _ | apply Drawn0.step)⟩
                  · rw [if_neg c16] at H
                    have c16b0 : decide (t273 < 0) = false := decide_eq_false c16
                    clear c16
                    (first | rw [c16b0] | (simp only [i64_w, i32_w]; rw [c16b0]) | skip)
                    have H' := Aside0.mk H
                    clear H
                    go_wp2
                    repeat (go_quiet (fail); try go_wp2)
                    go_meet
                    case rel => exact ⟨_, (false), (by first | rfl | (simp; done) | (simp [*]; done)), H', ⟨by have := HK1.out; have := HJ4.out; have := HJ8.out; first | omega | exact Nat.le_refl _⟩, by repeat (first | exact Drawn0.refl _ | apply Drawn0.step)⟩
                case rest =>
                  clear HC15
                  try clear c1
                  try clear p2
                  try clear c3
                  try clear c4
                  try clear c6
                  try clear c6b0
                  try clear c7
                  try clear c7b0
                  try clear c7b1
                  try clear c8
                  try clear c8b0
                  try clear c8b1
                  try clear c10
                  try clear c10b0
                  try clear c11
                  try clear c11b0
                  try clear c11b1
                  try clear c12
                  try clear c12b0
                  try clear c12b1
                  try clear c14
                  try clear c14b0
                  try clear c14b1
                  try clear c16
                  try clear c16b0
                  try clear p2
                  obtain ⟨kq, x32_14, rfl, HA, HJ14, ⟨mc14, rfl⟩⟩ := hcut
                  cases kq with
                  | zero => exact absurd HA.out (by simp [name_Compare.j3])
                  | succ kj14 =>
                    have H := HA.out
                    clear HA
                    simp only [name_Compare.j3] at H
                    by_cases c17 : x32_14 = true
                    · subst c17
                      have H1 : (some 0) = some r := by rw [if_pos rfl] at H; exact H
                      clear H
                      have H := H1
                      clear H1
                      obtain rfl := Option.some.inj H
                      go_wp2
                      repeat (go_quiet (fail); try go_wp2)
                      go_ret
                      exact ⟨by first | rfl | (simp; done) | (simp [*]; done), by repeat (first | exact Drawn0.refl _ | apply Drawn0.step)⟩
                    · replace c17 := Bool.eq_false_iff.mpr c17
                      subst c17
                      have H1 : (if t273 < 0 then (some (-1)) else (if t274 < 0 then (some 1) else (if 0 ≤ (wrap64 (t273 + 1)) then (if (wrap64 (t273 + 1)) ≤ (x0_1.size : Int) then (if 0 ≤ (wrap64 (t274 + 1)) then (if (wrap64 (t274 + 1)) ≤ (x1_1.size : Int) then (name_Compare.l0 kj14 (x0_1.extract ((wrap64 (t273 + 1)) : Int).toNat x0_1.size) (x1_1.extract ((wrap64 (t274 + 1)) : Int).toNat x1_1.size)) else (none)) else (none)) else (none)) else (none)))) = some r := by rw [if_neg (show ¬ (false = true) by decide)] at H; exact H
                      clear H
                      have H := H1
                      clear H1
                      by_cases c18 : t273 < 0
                      · rw [if_pos c18] at H
                        have c18b0 : decide (t273 < 0) = true := decide_eq_true c18
                        clear c18
                        obtain rfl := Option.some.inj H
                        go_wp2
                        repeat (go_quiet (fail); try go_wp2)
                        go_ret
                        exact ⟨by first | rfl | (simp; done) | (simp [*]; done), by repeat (first | exact Drawn0.refl _ | apply Drawn0.step)⟩
                      · rw [if_neg c18] at H
                        have c18b0 : decide (t273 < 0) = false := decide_eq_false c18
                        clear c18
                        by_cases c19 : t274 < 0
                        · rw [if_pos c19] at H
                          have c19b0 : decide (t274 < 0) = true := decide_eq_true c19
                          clear c19
                          obtain rfl := Option.some.inj H
                          go_wp2
                          repeat (go_quiet (fail); try go_wp2)
                          go_ret
                          exact ⟨by first | rfl | (simp; done) | (simp [*]; done), by repeat (first | exact Drawn0.refl _ | apply Drawn0.step)⟩
                        · rw [if_neg c19] at H
                          have c19b0 : decide (t274 < 0) = false := decide_eq_false c19
                          clear c19
                          obtain ⟨ji20, hji20⟩ : ∃ j_ : Int, (wrap64 (t273 + 1)) = j_ := ⟨_, rfl⟩
                          replace H : (if 0 ≤ (ji20) then (if (ji20) ≤ (x0_1.size : Int) then (if 0 ≤ (wrap64 (t274 + 1)) then (if (wrap64 (t274 + 1)) ≤ (x1_1.size : Int) then (name_Compare.l0 kj14 (x0_1.extract ((ji20) : Int).toNat x0_1.size) (x1_1.extract ((wrap64 (t274 + 1)) : Int).toNat x1_1.size)) else (none)) else (none)) else (none)) else (none)) = some r := by first | (rw [hji20] at H; exact H) | (simp only [hji20] at H ⊢; exact H)
                          have hji20w : (IntKind.i64.wrap (t273 + 1)) = ji20 := (i64_w _).trans hji20
                          by_cases c21 : 0 ≤ (ji20)
                          · rw [if_pos c21] at H
                            have c21b0 := eq_true c21
                            have c21b1 : decide (0 ≤ (ji20)) = true := decide_eq_true c21
                            clear c21
                            by_cases c22 : (ji20) ≤ (x0_1.size : Int)
                            · rw [if_pos c22] at H
                              have c22b0 := eq_true c22
                              have c22b1 : decide ((ji20) ≤ (x0_1.size : Int)) = true := decide_eq_true c22
                              clear c22
                              obtain ⟨ji23, hji23⟩ : ∃ j_ : Int, (wrap64 (t274 + 1)) = j_ := ⟨_, rfl⟩
                              replace H : (if 0 ≤ (ji23) then (if (ji23) ≤ (x1_1.size : Int) then (name_Compare.l0 kj14 (x0_1.extract ((ji20) : Int).toNat x0_1.size) (x1_1.extract ((ji23) : Int).toNat x1_1.size)) else (none)) else (none)) = some r := by first | (rw [hji23] at H; exact H) | (simp only [hji23] at H ⊢; exact H)
                              have hji23w : (IntKind.i64.wrap (t274 + 1)) = ji23 := (i64_w _).trans hji23
                              by_cases c24 : 0 ≤ (ji23)
                              · rw [if_pos c24] at H
                                have c24b0 := eq_true c24
                                have c24b1 : decide (0 ≤ (ji23)) = true := decide_eq_true c24
                                clear c24
                                by_cases c25 : (ji23) ≤ (x1_1.size : Int)
                                · rw [if_pos c25] at H
                                  have c25b0 := eq_true c25
                                  have c25b1 : decide ((ji23) ≤ (x1_1.size : Int)) = true := decide_eq_true c25
                                  clear c25
                                  have H' := Aside0.mk H
                                  clear H
                                  go_wp2
                                  repeat (go_quiet (fail); try go_wp2)
                                  go_roundg kj14
                                  case measure => have := HK1.out; have := HJ4.out; have := HJ8.out; have := HJ14.out; omega
                                  case rel => exact ⟨(x0_1.extract ((ji20) : Int).toNat x0_1.size), (x1_1.extract ((ji23) : Int).toNat x1_1.size), (by first | rfl | (simp; done) | (simp only [← hji20] <;> (first | rfl | simp)) | (simp [*]; done)), (by first | rfl | (simp; done) | (simp only [← hji23] <;> (first | rfl | simp)) | (simp [*]; done)), H', ⟨by have := HK1.out; have := HJ4.out; have := HJ8.out; have := HJ14.out; omega⟩, by repeat (first | exact Drawn0.refl _ | apply Drawn0.step)⟩
                                · rw [if_neg c25] at H
                                  exact absurd H (by simp)
                              · rw [if_neg c24] at H
                                exact absurd H (by simp)
                            · rw [if_neg c22] at H
                              exact absurd H (by simp)
                          · rw [if_neg c21] at H
                            exact absurd H (by simp)
              · rw [if_neg c14] at H
                have c14b0 : (t275 == 0) = false := beq_eq_false_iff_ne.mpr c14
                have c14b1 : (t275 != 0) = true := bne_iff_ne.mpr c14
                obtain rfl := Option.some.inj H
                go_wp2_with (first | (go_at_call 71; (with_reducible refine (cmp_Compare_string.calls x7_4 x8_8 t275 _ A13.out).mono ?_); rintro e w' ⟨rfl, ⟨nd, rfl⟩⟩; (try first | exact ⟨rfl, _, World.drewN_drewN _ _ _⟩ | exact ⟨rfl, _, Eq.trans (World.drewN_drewN _ _ _) (congrArg (World.drewN _) (Nat.add_assoc _ _ _))⟩)))
                repeat (go_quiet (first | (go_at_call 71; (with_reducible refine (cmp_Compare_string.calls x7_4 x8_8 t275 _ A13.out).mono ?_); rintro e w' ⟨rfl, ⟨nd, rfl⟩⟩; (try first | exact ⟨rfl, _, World.drewN_drewN _ _ _⟩ | exact ⟨rfl, _, Eq.trans (World.drewN_drewN _ _ _) (congrArg (World.drewN _) (Nat.add_assoc _ _ _))⟩))); try go_wp2_with (first | (go_at_call 71; (with_reducible refine (cmp_Compare_string.calls x7_4 x8_8 t275 _ A13.out).mono ?_); rintro e w' ⟨rfl, ⟨nd, rfl⟩⟩; (try first | exact ⟨rfl, _, World.drewN_drewN _ _ _⟩ | exact ⟨rfl, _, Eq.trans (World.drewN_drewN _ _ _) (congrArg (World.drewN _) (Nat.add_assoc _ _ _))⟩))))
                go_ret
                exact ⟨by first | rfl | (simp; done) | (simp [*]; done), by repeat (first | exact Drawn0.refl _ | apply Drawn0.step)⟩
def bytealg_LastIndexByteString.l0 : Nat → ByteArray → Int → Int → Option (Int)
  | 0, _, _, _ => none
  | k + 1, x0, x1, x5 => if x5 ≥ 0 then (if 0 ≤ x5 then (if x5 < (x0.size : Int) then (if (bt x0 x5) = x1 then (some x5) else (bytealg_LastIndexByteString.l0 k x0 x1 (wrap64 (x5 - 1)))) else (none)) else (none)) else (some (-1))
def bytealg_LastIndexByteString.f (k : Nat) (a0 : ByteArray) (a1 : Int) : Option (Int) := bytealg_LastIndexByteString.l0 k a0 a1 (wrap64 ((a0.size : Int) - 1))
theorem bytealg_LastIndexByteString.mono_l : ∀ k, (∀ y0 y1 y2, LeO (bytealg_LastIndexByteString.l0 k y0 y1 y2) (bytealg_LastIndexByteString.l0 (k + 1) y0 y1 y2))
  | 0 => fun _ _ _ r h => by simp [bytealg_LastIndexByteString.l0] at h
  | k + 1 => by
    have ih0 := bytealg_LastIndexByteString.mono_l k
    · intro y0 y1 y2
      unfold bytealg_LastIndexByteString.l0
      repeat' first
      | (with_reducible exact ih0 _ _ _)
      | (with_reducible exact LeO.refl _)
      | (with_reducible exact LeO.none _)
      | (with_reducible refine LeO.ite ?_ ?_)
      | (with_reducible refine LeO.bind ?_ (fun _ => ?_))
      | exact ih0 _ _ _
      | exact LeO.none _
      | refine LeO.ite ?_ ?_
      | refine LeO.bind ?_ (fun _ => ?_)
theorem bytealg_LastIndexByteString.mono : ∀ a0 a1 k, LeO (bytealg_LastIndexByteString.f k a0 a1) (bytealg_LastIndexByteString.f (k + 1) a0 a1) := by
  intro a0 a1 k
  have ih0 := bytealg_LastIndexByteString.mono_l k
  unfold bytealg_LastIndexByteString.f
  repeat' first
      | (with_reducible exact ih0 _ _ _)
      | (with_reducible exact LeO.refl _)
      | (with_reducible exact LeO.none _)
      | (with_reducible refine LeO.ite ?_ ?_)
      | (with_reducible refine LeO.bind ?_ (fun _ => ?_))
      | exact ih0 _ _ _
      | exact LeO.none _
      | refine LeO.ite ?_ ?_
      | refine LeO.bind ?_ (fun _ => ?_)
set_option maxHeartbeats 8000000 in
set_option maxRecDepth 100000 in
theorem bytealg_LastIndexByteString.calls (k : Nat) (a0 : ByteArray) (a1 : Int) (r : Int) (w : World) (h : bytealg_LastIndexByteString.f k a0 a1 = some r) :
    Calls Tryd.prog 93 #[.string a0, .int .u8 a1] w fun e w' => e = .returned (.int .i64 r) ∧ Drawn0 w w' := by
  have H : (bytealg_LastIndexByteString.l0 k a0 a1 (wrap64 ((a0.size : Int) - 1))) = some r := h
  clear h
  have H' := Aside0.mk H
  clear H
  go_enter Tryd.func93, Tryd.ntmps93
  go_wp2
  go_loopg [5] k (fun kq v5 w' => ∃ (x5_1 : Int), v5 = .int .i64 x5_1 ∧ Aside0 (bytealg_LastIndexByteString.l0 kq a0 a1 x5_1 = some r) ∧ Aside0 (kq ≤ k) ∧ Drawn0 w w')
  case atStart => exact ⟨(wrap64 ((a0.size : Int) - 1)), (by first | rfl | (simp; done) | (simp [*]; done)), H', ⟨Nat.le_refl _⟩, by repeat (first | exact Drawn0.refl _ | apply Drawn0.step)⟩
  case round =>
    clear H'
    try clear p2
    obtain ⟨x5_1, rfl, HA, HK1, ⟨m1, rfl⟩⟩ := hrel
    cases gk with
    | zero => exact absurd HA.out (by simp [bytealg_LastIndexByteString.l0])
    | succ k1 =>
      have H := HA.out
      clear HA
      simp only [bytealg_LastIndexByteString.l0] at H
      by_cases c3 : x5_1 ≥ 0
      · rw [if_pos c3] at H
        have c3b0 : decide (0 ≤ x5_1) = true := decide_eq_true c3
        clear c3
        by_cases c4 : 0 ≤ x5_1
        · rw [if_pos c4] at H
          have c4b0 : decide (0 ≤ x5_1) = true := decide_eq_true c4
          clear c4
          by_cases c5 : x5_1 < (a0.size : Int)
          · rw [if_pos c5] at H
            have c5b0 : decide (x5_1 < (a0.size : Int)) = true := decide_eq_true c5
            clear c5
            by_cases c7 : (bt a0 x5_1) = a1
            · rw [if_pos c7] at H
              have c7b0 : ((bt a0 x5_1) == a1) = true := beq_iff_eq.mpr c7
              have c7b1 : ((bt a0 x5_1) != a1) = false := bne_eq_false_iff_eq.mpr c7
              clear c7
              obtain rfl := Option.some.inj H
              have p6 : 0 ≤ (x5_1 : Int) := of_decide_eq_true (by first | (with_reducible assumption) | assumption)
              have q6 : x5_1 < (a0.size : Int) := of_decide_eq_true (by first | (with_reducible assumption) | assumption)
              have hx6 := bt_at a0 x5_1
              replace p6 := eq_true p6
              replace q6 := eq_true q6
              go_wp2
              go_ret
              exact ⟨by first | rfl | (simp; done) | (simp [*]; done), by repeat (first | exact Drawn0.refl _ | apply Drawn0.step)⟩
            · rw [if_neg c7] at H
              have c7b0 : ((bt a0 x5_1) == a1) = false := beq_eq_false_iff_ne.mpr c7
              have c7b1 : ((bt a0 x5_1) != a1) = true := bne_iff_ne.mpr c7
              have H' := Aside0.mk H
              clear H
              have p6 : 0 ≤ (x5_1 : Int) := of_decide_eq_true (by first | (with_reducible assumption) | assumption)
              have q6 : x5_1 < (a0.size : Int) := of_decide_eq_true (by first | (with_reducible assumption) | assumption)
              have hx6 := bt_at a0 x5_1
              replace p6 := eq_true p6
              replace q6 := eq_true q6
              go_wp2
              go_roundg k1
              case measure => have := HK1.out; omega
              case rel => exact ⟨(wrap64 (x5_1 - 1)), (by first | rfl | (simp; done) | (simp [*]; done)), H', ⟨by have := HK1.out; omega⟩, by repeat (first | exact Drawn0.refl _ | apply Drawn0.step)⟩
          · rw [if_neg c5] at H
            exact absurd H (by simp)
        · rw [if_neg c4] at H
          exact absurd H (by simp)
      · rw [if_neg c3] at H
        have c3b0 : decide (0 ≤ x5_1) = false := decide_eq_false c3
        clear c3
        obtain rfl := Option.some.inj H
        go_wp2
        go_ret
        exact ⟨by first | rfl | (simp; done) | (simp [*]; done), by repeat (first | exact Drawn0.refl _ | apply Drawn0.step)⟩
def strings_LastIndexByte.f (k : Nat) (a0 : ByteArray) (a1 : Int) : Option (Int) := (bytealg_LastIndexByteString.f k a0 a1).bind fun t276 => (some t276)
theorem strings_LastIndexByte.mono : ∀ a0 a1 k, LeO (strings_LastIndexByte.f k a0 a1) (strings_LastIndexByte.f (k + 1) a0 a1) := by
  intro a0 a1 k
  unfold strings_LastIndexByte.f
  repeat' first
      | (with_reducible exact bytealg_LastIndexByteString.mono _ _ _)
      | (with_reducible exact LeO.refl _)
      | (with_reducible exact LeO.none _)
      | (with_reducible refine LeO.ite ?_ ?_)
      | (with_reducible refine LeO.bind ?_ (fun _ => ?_))
      | exact bytealg_LastIndexByteString.mono _ _ _
      | exact LeO.none _
      | refine LeO.ite ?_ ?_
      | refine LeO.bind ?_ (fun _ => ?_)
set_option maxHeartbeats 8000000 in
set_option maxRecDepth 100000 in
theorem strings_LastIndexByte.calls (k : Nat) (a0 : ByteArray) (a1 : Int) (r : Int) (w : World) (h : strings_LastIndexByte.f k a0 a1 = some r) :
    Calls Tryd.prog 65 #[.string a0, .int .u8 a1] w fun e w' => e = .returned (.int .i64 r) ∧ Drawn0 w w' := by
  have H : ((bytealg_LastIndexByteString.f k a0 a1).bind fun t276 => (some t276)) = some r := h
  clear h
  replace H := Option.bind_eq_some_iff.mp H
  obtain ⟨t276, A30, H⟩ := H
  replace H : (some t276) = some r := H
  have A3 := Aside0.mk A30
  clear A30
  obtain rfl := Option.some.inj H
  go_enter Tryd.func65, Tryd.ntmps65
  go_wp2_with (first | ((with_reducible refine gate_callee (f := 93) rfl ?_); refine goesL_ (some 7) rfl rfl Tryd.func93 (by kernel_rfl) rfl #[.string a0, .int .u8 a1] rfl (by (try simp only [List.map_toArray, List.map_cons, List.map_nil]); first | done | rfl | (simp only [List.length_drop, List.length_take]; rfl)) ?_; (with_reducible refine (bytealg_LastIndexByteString.calls k a0 a1 t276 _ A3.out).mono ?_); rintro e w' ⟨rfl, ⟨nd, rfl⟩⟩; refine ⟨_, rfl, ?_⟩))
  go_ret
  exact ⟨by first | rfl | (simp; done) | (simp [*]; done), by repeat (first | exact Drawn0.refl _ | apply Drawn0.step)⟩
def name_Up.f (k : Nat) (a0 : ByteArray) : Option (ByteArray) := (strings_LastIndexByte.f k a0 47).bind fun t277 => (if 0 ≤ (mx 0 t277) then (if (mx 0 t277) ≤ (a0.size : Int) then (some (a0.extract 0 ((mx 0 t277) : Int).toNat)) else (none)) else (none))
theorem name_Up.mono : ∀ a0 k, LeO (name_Up.f k a0) (name_Up.f (k + 1) a0) := by
  intro a0 k
  unfold name_Up.f
  repeat' first
      | (with_reducible exact strings_LastIndexByte.mono _ _ _)
      | (with_reducible exact LeO.refl _)
      | (with_reducible exact LeO.none _)
      | (with_reducible refine LeO.ite ?_ ?_)
      | (with_reducible refine LeO.bind ?_ (fun _ => ?_))
      | exact strings_LastIndexByte.mono _ _ _
      | exact LeO.none _
      | refine LeO.ite ?_ ?_
      | refine LeO.bind ?_ (fun _ => ?_)
set_option maxHeartbeats 8000000 in
set_option maxRecDepth 100000 in
theorem name_Up.calls (k : Nat) (a0 : ByteArray) (r : ByteArray) (w : World) (h : name_Up.f k a0 = some r) :
    Calls Tryd.prog 27 #[.string a0] w fun e w' => e = .returned (.string r) ∧ Below w.heap.size w w' := by
  have HB := Aside0.mk (Below.refl w.heap.size w)
  have H : ((strings_LastIndexByte.f k a0 47).bind fun t277 => (if 0 ≤ (mx 0 t277) then (if (mx 0 t277) ≤ (a0.size : Int) then (some (a0.extract 0 ((mx 0 t277) : Int).toNat)) else (none)) else (none))) = some r := h
  clear h
  replace H := Option.bind_eq_some_iff.mp H
  obtain ⟨t277, A20, H⟩ := H
  replace H : (if 0 ≤ (mx 0 t277) then (if (mx 0 t277) ≤ (a0.size : Int) then (some (a0.extract 0 ((mx 0 t277) : Int).toNat)) else (none)) else (none)) = some r := H
  have A2 := Aside0.mk A20
  clear A20
  obtain ⟨ji3, hji3⟩ : ∃ j_ : Int, (mx 0 t277) = j_ := ⟨_, rfl⟩
  replace H : (if 0 ≤ (ji3) then (if (ji3) ≤ (a0.size : Int) then (some (a0.extract 0 ((ji3) : Int).toNat)) else (none)) else (none)) = some r := by first | (rw [hji3] at H; exact H) | (simp only [hji3] at H ⊢; exact H)
  (try rw [hji3] at A2)
  (try (have hji3l : 0 ≤ ji3 := by (rw [← hji3]; unfold mx; (repeat' split) <;> omega)))
  (try (have hji3m : 0 ≤ ji3 := by omega))
  have hji3_ : (if 0 < t277 then t277 else 0) = ji3 := hji3
  by_cases c4 : 0 ≤ (ji3)
  · rw [if_pos c4] at H
    have c4b0 := eq_true c4
    have c4b1 : decide (0 ≤ (ji3)) = true := decide_eq_true c4
    clear c4
    by_cases c5 : (ji3) ≤ (a0.size : Int)
    · rw [if_pos c5] at H
      have c5b0 := eq_true c5
      have c5b1 : decide ((ji3) ≤ (a0.size : Int)) = true := decide_eq_true c5
      clear c5
      obtain rfl := Option.some.inj H
      go_enter Tryd.func27, Tryd.ntmps27
      go_wp2_with (first | ((with_reducible refine gate_callee (f := 65) rfl ?_); refine goesL_ (some 5) rfl rfl Tryd.func65 (by kernel_rfl) rfl #[.string a0, .int .u8 47] rfl (by (try simp only [List.map_toArray, List.map_cons, List.map_nil]); first | done | rfl | (simp only [List.length_drop, List.length_take]; rfl)) ?_; (with_reducible refine (strings_LastIndexByte.calls k a0 47 t277 _ A2.out).mono ?_); rintro e w' ⟨rfl, ⟨nd, rfl⟩⟩; refine ⟨_, rfl, ?_⟩))
      go_ret
      exact ⟨by first | rfl | (simp [errW_none, errW_some] <;> rfl) | (simp only [← hji3]; first | rfl | (simp [errW_none, errW_some] <;> rfl)) | (simp [*, errW_none, errW_some] <;> rfl), by repeat (first | (with_reducible first | exact HB.out | apply below_alloc | apply pw_below_drewN | apply below_drew1) | exact HB.out)⟩
    · rw [if_neg c5] at H
      exact absurd H (by simp)
  · rw [if_neg c4] at H
    exact absurd H (by simp)
def name_Check.f (a0 : ByteArray) : Option (Int × Int) := some (((Nm.check a0.data.toList).1 : Int), ((Nm.check a0.data.toList).2 : Int))
theorem name_Check.calls (a0 : ByteArray) (r1 : Int) (r2 : Int) (w : World) (h : name_Check.f a0 = some (r1, r2)) :
    Calls Tryd.prog 40 #[.string a0] w fun e w' => e = .returned (.tuple #[.int .i64 r1, .int .i64 r2]) ∧ Below w.heap.size w w' := by
  obtain ⟨rfl, rfl⟩ := Prod.mk.inj (Option.some.inj h)
  exact check_any a0 w
end Go.Proofs.YthpecpkncifngaaDoor.X
end

-- PRINTED by print.py (a twelfth state) out of the translation. Not trusted: Lean checks it.
section
namespace Go.Proofs.YthpecpkncifngaaDoor.X
open Go.RowKit Go.Proofs.YthpecpkncifngaaDoorW.PrintWords Go.Proofs.YthpecpkncifngaaDoorW.PrintLast Go.Proofs.YthpecpkncifngaaDoorW.PrintMore
attribute [local go_sem] max2_int min2_int max_two min_two max_three min_three max_four min_four   -- for this text's walks alone
def stringslite_HasPrefix.f (a0 : ByteArray) (a1 : ByteArray) : Option (Bool) := if (a0.size : Int) ≥ (a1.size : Int) then (if 0 ≤ (a1.size : Int) then (if (a1.size : Int) ≤ (a0.size : Int) then (some ((a0.extract 0 ((a1.size : Int) : Int).toNat).toList == a1.toList)) else (none)) else (none)) else (some false)
set_option maxHeartbeats 8000000 in
set_option maxRecDepth 100000 in
theorem stringslite_HasPrefix.calls (a0 : ByteArray) (a1 : ByteArray) (r : Bool) (w : World) (h : stringslite_HasPrefix.f a0 a1 = some r) :
    Calls Tryd.prog 98 #[.string a0, .string a1] w fun e w' => e = .returned (.bool r) ∧ Drawn0 w w' := by
  have H : (if (a0.size : Int) ≥ (a1.size : Int) then (if 0 ≤ (a1.size : Int) then (if (a1.size : Int) ≤ (a0.size : Int) then (some ((a0.extract 0 ((a1.size : Int) : Int).toNat).toList == a1.toList)) else (none)) else (none)) else (some false)) = some r := h
  clear h
  by_cases c3 : (a0.size : Int) ≥ (a1.size : Int)
  · rw [if_pos c3] at H
    have c3b0 : decide ((a1.size : Int) ≤ (a0.size : Int)) = true := decide_eq_true c3
    have c3b1 : decide (a1.size ≤ a0.size) = true := decide_eq_true (Int.ofNat_le.mp c3)
    clear c3
    by_cases c4 : 0 ≤ (a1.size : Int)
    · rw [if_pos c4] at H
      have c4b0 := eq_true c4
      have c4b1 : decide (0 ≤ (a1.size : Int)) = true := decide_eq_true c4
      clear c4
      by_cases c5 : (a1.size : Int) ≤ (a0.size : Int)
      · rw [if_pos c5] at H
        have c5b0 := eq_true c5
        have c5b1 : decide ((a1.size : Int) ≤ (a0.size : Int)) = true := decide_eq_true c5
        clear c5
        obtain rfl := Option.some.inj H
        go_enter Tryd.func98, Tryd.ntmps98
        go_wp2
        go_ret
        exact ⟨by first | rfl | (simp; done) | (simp [*]; done), by repeat (first | exact Drawn0.refl _ | apply Drawn0.step)⟩
      · rw [if_neg c5] at H
        exact absurd H (by simp)
    · rw [if_neg c4] at H
      exact absurd H (by simp)
  · rw [if_neg c3] at H
    have c3b0 : decide ((a1.size : Int) ≤ (a0.size : Int)) = false := decide_eq_false c3
    have c3b1 : decide (a1.size ≤ a0.size) = false := decide_eq_false (fun h => c3 (Int.ofNat_le.mpr h))
    clear c3
    obtain rfl := Option.some.inj H
    go_enter Tryd.func98, Tryd.ntmps98
    go_wp2
    go_ret
    exact ⟨by first | rfl | (simp; done) | (simp [*]; done), by repeat (first | exact Drawn0.refl _ | apply Drawn0.step)⟩
def strings_HasPrefix.f (a0 : ByteArray) (a1 : ByteArray) : Option (Bool) := (stringslite_HasPrefix.f a0 a1).bind fun t290 => (some t290)
set_option maxHeartbeats 8000000 in
set_option maxRecDepth 100000 in
theorem strings_HasPrefix.calls (a0 : ByteArray) (a1 : ByteArray) (r : Bool) (w : World) (h : strings_HasPrefix.f a0 a1 = some r) :
    Calls Tryd.prog 79 #[.string a0, .string a1] w fun e w' => e = .returned (.bool r) ∧ Drawn0 w w' := by
  have H : ((stringslite_HasPrefix.f a0 a1).bind fun t290 => (some t290)) = some r := h
  clear h
  replace H := Option.bind_eq_some_iff.mp H
  obtain ⟨t290, A30, H⟩ := H
  replace H : (some t290) = some r := H
  have A3 := Aside0.mk A30
  clear A30
  obtain rfl := Option.some.inj H
  go_enter Tryd.func79, Tryd.ntmps79
  go_wp2_with (first | ((with_reducible refine gate_callee (f := 98) rfl ?_); refine goesL_ (some 7) rfl rfl Tryd.func98 (by kernel_rfl) rfl #[.string a0, .string a1] rfl (by (try simp only [List.map_toArray, List.map_cons, List.map_nil]); first | done | rfl | (simp only [List.length_drop, List.length_take]; rfl)) ?_; (with_reducible refine (stringslite_HasPrefix.calls a0 a1 t290 _ A3.out).mono ?_); rintro e w' ⟨rfl, ⟨nd, rfl⟩⟩; refine ⟨_, rfl, ?_⟩))
  go_ret
  exact ⟨by first | rfl | (simp; done) | (simp [*]; done), by repeat (first | exact Drawn0.refl _ | apply Drawn0.step)⟩
def name_Beneath.f (a0 : ByteArray) (a1 : ByteArray) : Option (Bool) := (name_Check.f a1).bind fun bt291 => (if bt291.2 = 0 then (if a0.toList = ([] : List UInt8) then (some true) else ((strings_HasPrefix.f a1 a0).bind fun t293 => (if t293 = true then (if (a1.size : Int) > (a0.size : Int) then (if 0 ≤ (a0.size : Int) then (if (a0.size : Int) < (a1.size : Int) then (some ((bt a1 (a0.size : Int)) == 47)) else (none)) else (none)) else (some false)) else (some false)))) else (some false))
set_option maxHeartbeats 8000000 in
set_option maxRecDepth 100000 in
theorem name_Beneath.calls (a0 : ByteArray) (a1 : ByteArray) (r : Bool) (w : World) (h : name_Beneath.f a0 a1 = some r) :
    Calls Tryd.prog 48 #[.string a0, .string a1] w fun e w' => e = .returned (.bool r) ∧ Below w.heap.size w w' := by
  have HB := Aside0.mk (Below.refl w.heap.size w)
  have H : ((name_Check.f a1).bind fun bt291 => (if bt291.2 = 0 then (if a0.toList = ([] : List UInt8) then (some true) else ((strings_HasPrefix.f a1 a0).bind fun t293 => (if t293 = true then (if (a1.size : Int) > (a0.size : Int) then (if 0 ≤ (a0.size : Int) then (if (a0.size : Int) < (a1.size : Int) then (some ((bt a1 (a0.size : Int)) == 47)) else (none)) else (none)) else (some false)) else (some false)))) else (some false))) = some r := h
  clear h
  replace H := Option.bind_eq_some_iff.mp H
  obtain ⟨⟨t291, t292⟩, A30, H⟩ := H
  replace H : (if t292 = 0 then (if a0.toList = ([] : List UInt8) then (some true) else ((strings_HasPrefix.f a1 a0).bind fun t293 => (if t293 = true then (if (a1.size : Int) > (a0.size : Int) then (if 0 ≤ (a0.size : Int) then (if (a0.size : Int) < (a1.size : Int) then (some ((bt a1 (a0.size : Int)) == 47)) else (none)) else (none)) else (some false)) else (some false)))) else (some false)) = some r := H
  have A3 := Aside0.mk A30
  clear A30
  by_cases c4 : t292 = 0
  · rw [if_pos c4] at H
    have c4b0 : (t292 == 0) = true := beq_iff_eq.mpr c4
    have c4b1 : (t292 != 0) = false := bne_eq_false_iff_eq.mpr c4
    clear c4
    by_cases c5 : a0.toList = ([] : List UInt8)
    · rw [if_pos c5] at H
      have c5b0 : (a0.toList == ([] : List UInt8)) = true := beq_iff_eq.mpr c5
      have c5b1 : (a0.toList != ([] : List UInt8)) = false := bne_eq_false_iff_eq.mpr c5
      clear c5
      obtain rfl := Option.some.inj H
      go_enter Tryd.func48, Tryd.ntmps48
      go_wp2_with (first | ((with_reducible refine gate_callee (f := 40) rfl ?_); refine goesL_ (some 9) rfl rfl Tryd.func40 (by kernel_rfl) rfl #[.string a1] rfl (by (try simp only [List.map_toArray, List.map_cons, List.map_nil]); first | done | rfl | (simp only [List.length_drop, List.length_take]; rfl)) ?_; (with_reducible refine (name_Check.calls a1 t291 t292 _ A3.out).mono ?_); rintro e w6 ⟨rfl, hb⟩; refine ⟨_, rfl, ?_⟩; have n0_ := Aside0.mk (below_step (by repeat (first | (with_reducible first | exact HB.out | apply below_alloc | apply pw_below_drewN | apply below_drew1) | exact HB.out)) hb); clear HB; have HB := n0_; clear n0_; (try clear hb); (try clear hb2); (try clear hk); (try clear hi)))
      go_ret
      exact ⟨by first | rfl | (simp [errW_none, errW_some] <;> rfl) | (simp [*, errW_none, errW_some] <;> rfl), by repeat (first | (with_reducible first | exact HB.out | apply below_alloc | apply pw_below_drewN | apply below_drew1) | exact HB.out)⟩
    · rw [if_neg c5] at H
      have c5b0 : (a0.toList == ([] : List UInt8)) = false := beq_eq_false_iff_ne.mpr c5
      have c5b1 : (a0.toList != ([] : List UInt8)) = true := bne_iff_ne.mpr c5
      replace H := Option.bind_eq_some_iff.mp H
      obtain ⟨t293, A70, H⟩ := H
      replace H : (if t293 = true then (if (a1.size : Int) > (a0.size : Int) then (if 0 ≤ (a0.size : Int) then (if (a0.size : Int) < (a1.size : Int) then (some ((bt a1 (a0.size : Int)) == 47)) else (none)) else (none)) else (some false)) else (some false)) = some r := H
      have A7 := Aside0.mk A70
      clear A70
      by_cases c8 : t293 = true
      · subst c8
        have H1 : (if (a1.size : Int) > (a0.size : Int) then (if 0 ≤ (a0.size : Int) then (if (a0.size : Int) < (a1.size : Int) then (some ((bt a1 (a0.size : Int)) == 47)) else (none)) else (none)) else (some false)) = some r := by rw [if_pos rfl] at H; exact H
        clear H
        have H := H1
        clear H1
        by_cases c9 : (a1.size : Int) > (a0.size : Int)
        · rw [if_pos c9] at H
          have c9b0 : decide ((a0.size : Int) < (a1.size : Int)) = true := decide_eq_true c9
          have c9b1 : decide (a0.size < a1.size) = true := decide_eq_true (Int.ofNat_lt.mp c9)
          clear c9
          by_cases c10 : 0 ≤ (a0.size : Int)
          · rw [if_pos c10] at H
            have c10b0 : decide (0 ≤ (a0.size : Int)) = true := decide_eq_true c10
            have c10b1 : decide (0 ≤ a0.size) = true := decide_eq_true (by omega)
            clear c10
            by_cases c11 : (a0.size : Int) < (a1.size : Int)
            · rw [if_pos c11] at H
              have c11b0 : decide ((a0.size : Int) < (a1.size : Int)) = true := decide_eq_true c11
              have c11b1 : decide (a0.size < a1.size) = true := decide_eq_true (Int.ofNat_lt.mp c11)
              clear c11
              obtain rfl := Option.some.inj H
              go_enter Tryd.func48, Tryd.ntmps48
              go_wp2_with (first | ((with_reducible refine gate_callee (f := 40) rfl ?_); refine goesL_ (some 9) rfl rfl Tryd.func40 (by kernel_rfl) rfl #[.string a1] rfl (by (try simp only [List.map_toArray, List.map_cons, List.map_nil]); first | done | rfl | (simp only [List.length_drop, List.length_take]; rfl)) ?_; (with_reducible refine (name_Check.calls a1 t291 t292 _ A3.out).mono ?_); rintro e w13 ⟨rfl, hb⟩; refine ⟨_, rfl, ?_⟩; have n0_ := Aside0.mk (below_step (by repeat (first | (with_reducible first | exact HB.out | apply below_alloc | apply pw_below_drewN | apply below_drew1) | exact HB.out)) hb); clear HB; have HB := n0_; clear n0_; (try clear hb); (try clear hb2); (try clear hk); (try clear hi)) | ((with_reducible refine gate_callee (f := 79) rfl ?_); refine goesL_ (some 18) rfl rfl Tryd.func79 (by kernel_rfl) rfl #[.string a1, .string a0] rfl (by (try simp only [List.map_toArray, List.map_cons, List.map_nil]); first | done | rfl | (simp only [List.length_drop, List.length_take]; rfl)) ?_; (with_reducible refine (strings_HasPrefix.calls a1 a0 true _ A7.out).mono ?_); rintro e w' ⟨rfl, ⟨nd, rfl⟩⟩; refine ⟨_, rfl, ?_⟩; have p12 : 0 ≤ ((a0.size : Int) : Int) := of_decide_eq_true (by first | (with_reducible assumption) | assumption); have q12 : (a0.size : Int) < (a1.size : Int) := of_decide_eq_true (by first | (with_reducible assumption) | assumption); have hx12 := bt_atN a1 a0.size; replace p12 := eq_true p12; replace q12 := eq_true q12))
              go_ret
              exact ⟨by first | rfl | (simp [errW_none, errW_some] <;> rfl) | (simp [*, errW_none, errW_some] <;> rfl), by repeat (first | (with_reducible first | exact HB.out | apply below_alloc | apply pw_below_drewN | apply below_drew1) | exact HB.out)⟩
            · rw [if_neg c11] at H
              exact absurd H (by simp)
          · rw [if_neg c10] at H
            exact absurd H (by simp)
        · rw [if_neg c9] at H
          have c9b0 : decide ((a0.size : Int) < (a1.size : Int)) = false := decide_eq_false c9
          have c9b1 : decide (a0.size < a1.size) = false := decide_eq_false (fun h => c9 (Int.ofNat_lt.mpr h))
          clear c9
          obtain rfl := Option.some.inj H
          go_enter Tryd.func48, Tryd.ntmps48
          go_wp2_with (first | ((with_reducible refine gate_callee (f := 40) rfl ?_); refine goesL_ (some 9) rfl rfl Tryd.func40 (by kernel_rfl) rfl #[.string a1] rfl (by (try simp only [List.map_toArray, List.map_cons, List.map_nil]); first | done | rfl | (simp only [List.length_drop, List.length_take]; rfl)) ?_; (with_reducible refine (name_Check.calls a1 t291 t292 _ A3.out).mono ?_); rintro e w14 ⟨rfl, hb⟩; refine ⟨_, rfl, ?_⟩; have n0_ := Aside0.mk (below_step (by repeat (first | (with_reducible first | exact HB.out | apply below_alloc | apply pw_below_drewN | apply below_drew1) | exact HB.out)) hb); clear HB; have HB := n0_; clear n0_; (try clear hb); (try clear hb2); (try clear hk); (try clear hi)) | ((with_reducible refine gate_callee (f := 79) rfl ?_); refine goesL_ (some 18) rfl rfl Tryd.func79 (by kernel_rfl) rfl #[.string a1, .string a0] rfl (by (try simp only [List.map_toArray, List.map_cons, List.map_nil]); first | done | rfl | (simp only [List.length_drop, List.length_take]; rfl)) ?_; (with_reducible refine (strings_HasPrefix.calls a1 a0 true _ A7.out).mono ?_); rintro e w' ⟨rfl, ⟨nd, rfl⟩⟩; refine ⟨_, rfl, ?_⟩))
          go_ret
          exact ⟨by first | rfl | (simp [errW_none, errW_some] <;> rfl) | (simp [*, errW_none, errW_some] <;> rfl), by repeat (first | (with_reducible first | exact HB.out | apply below_alloc | apply pw_below_drewN | apply below_drew1) | exact HB.out)⟩
      · replace c8 := Bool.eq_false_iff.mpr c8
        subst c8
        have H1 : (some false) = some r := by rw [if_neg (show ¬ (false = true) by decide)] at H; exact H
        clear H
        have H := H1
        clear H1
        obtain rfl := Option.some.inj H
        go_enter Tryd.func48, Tryd.ntmps48
        go_wp2_with (first | ((with_reducible refine gate_callee (f := 40) rfl ?_); refine goesL_ (some 9) rfl rfl Tryd.func40 (by kernel_rfl) rfl #[.string a1] rfl (by (try simp only [List.map_toArray, List.map_cons, List.map_nil]); first | done | rfl | (simp only [List.length_drop, List.length_take]; rfl)) ?_; (with_reducible refine (name_Check.calls a1 t291 t292 _ A3.out).mono ?_); rintro e w15 ⟨rfl, hb⟩; refine ⟨_, rfl, ?_⟩; have n0_ := Aside0.mk (below_step (by repeat (first | (with_reducible first | exact HB.out | apply below_alloc | apply pw_below_drewN | apply below_drew1) | exact HB.out)) hb); clear HB; have HB := n0_; clear n0_; (try clear hb); (try clear hb2); (try clear hk); (try clear hi)) | ((with_reducible refine gate_callee (f := 79) rfl ?_); refine goesL_ (some 18) rfl rfl Tryd.func79 (by kernel_rfl) rfl #[.string a1, .string a0] rfl (by (try simp only [List.map_toArray, List.map_cons, List.map_nil]); first | done | rfl | (simp only [List.length_drop, List.length_take]; rfl)) ?_; (with_reducible refine (strings_HasPrefix.calls a1 a0 false _ A7.out).mono ?_); rintro e w' ⟨rfl, ⟨nd, rfl⟩⟩; refine ⟨_, rfl, ?_⟩))
        go_ret
        exact ⟨by first | rfl | (simp [errW_none, errW_some] <;> rfl) | (simp [*, errW_none, errW_some] <;> rfl), by repeat (first | (with_reducible first | exact HB.out | apply below_alloc | apply pw_below_drewN | apply below_drew1) | exact HB.out)⟩
  · rw [if_neg c4] at H
    have c4b0 : (t292 == 0) = false := beq_eq_false_iff_ne.mpr c4
    have c4b1 : (t292 != 0) = true := bne_iff_ne.mpr c4
    obtain rfl := Option.some.inj H
    go_enter Tryd.func48, Tryd.ntmps48
    go_wp2_with (first | ((with_reducible refine gate_callee (f := 40) rfl ?_); refine goesL_ (some 9) rfl rfl Tryd.func40 (by kernel_rfl) rfl #[.string a1] rfl (by (try simp only [List.map_toArray, List.map_cons, List.map_nil]); first | done | rfl | (simp only [List.length_drop, List.length_take]; rfl)) ?_; (with_reducible refine (name_Check.calls a1 t291 t292 _ A3.out).mono ?_); rintro e w16 ⟨rfl, hb⟩; refine ⟨_, rfl, ?_⟩; have n0_ := Aside0.mk (below_step (by repeat (first | (with_reducible first | exact HB.out | apply below_alloc | apply pw_below_drewN | apply below_drew1) | exact HB.out)) hb); clear HB; have HB := n0_; clear n0_; (try clear hb); (try clear hb2); (try clear hk); (try clear hi)))
    go_ret
    exact ⟨by first | rfl | (simp [errW_none, errW_some] <;> rfl) | (simp [*, errW_none, errW_some] <;> rfl), by repeat (first | (with_reducible first | exact HB.out | apply below_alloc | apply pw_below_drewN | apply below_drew1) | exact HB.out)⟩
end Go.Proofs.YthpecpkncifngaaDoor.X
end

/- The reference's functions on pieces, told by plain words (no program in sight). -/
section
namespace Go.Proofs.YthpecpkncifngaaDoor.Pure
open Go.RowKit Go.Proofs.YthpecpkncifngaaDoor.X Go.Proofs.YthpecpkncifngaaDoorW.PrintWords Go.Proofs.YthpecpkncifngaaDoorW.PrintLast Go.Proofs.YthpecpkncifngaaDoorW.PrintMore
open Go.Proofs.YthpecpkncifngaaDoor
theorem len_eq (p : ByteArray) : p.data.toList.length = p.size := by rw [Array.length_toList]; rfl
theorem drop_at (p : ByteArray) (i : Nat) (h : i < p.size) : ∃ c : UInt8, p.data.toList.drop i = c :: p.data.toList.drop (i + 1) ∧ bt p (i : Int) = (c.toNat : Int) ∧ p.data.toList[i]? = some c := by
  have hl : i < p.data.toList.length := by rw [len_eq]; exact h
  refine ⟨p.data.toList[i], List.drop_eq_getElem_cons hl, ?_, List.getElem?_eq_getElem hl⟩
  unfold bt
  have h2 : ((i : Int)).toNat < p.size := by omega
  rw [dif_pos h2]
  rfl
theorem toNat_eq (c d : UInt8) : ((c.toNat : Int) = (d.toNat : Int)) ↔ c = d := by
  constructor
  · intro h
    exact UInt8.toNat_inj.1 (by omega)
  · rintro rfl; rfl
theorem wrap_succ {n : Nat} (h : n < 9223372036854775807) : wrap64 ((n : Int) + 1) = ((n + 1 : Nat) : Int) := by unfold wrap64; omega
theorem toList_eq (p : ByteArray) : p.toList = p.data.toList := Lib.toList_data p
theorem bytes_size (l : List UInt8) : (bytesOfL l).size = l.length := by simp [bytesOfL, ByteArray.size]
end Go.Proofs.YthpecpkncifngaaDoor.Pure
end

/- NameChecks, NameSplits, NameCompares, NameBeneath: the pure statements. -/
section
namespace Go.Proofs.YthpecpkncifngaaDoor.Pure
open Go.RowKit Go.Proofs.YthpecpkncifngaaDoor.X Go.Proofs.YthpecpkncifngaaDoorW.PrintWords Go.Proofs.YthpecpkncifngaaDoorW.PrintLast Go.Proofs.YthpecpkncifngaaDoorW.PrintMore
open Go.Proofs.YthpecpkncifngaaDoor
theorem lastb_l0 (p : ByteArray) (hp : p.size ≤ 1099511627776) (c : UInt8) : ∀ n : Nat, n ≤ p.size →
    Ev (fun k => bytealg_LastIndexByteString.l0 k p (c.toNat : Int) ((n : Int) - 1)) (Nm.lastIdx c (p.data.toList.take n))
  | 0, _ => by
    refine Ev.step (fun k => ?_) (Ev.now _)
    simp only [bytealg_LastIndexByteString.l0]
    rw [if_neg (by omega)]; rfl
  | n + 1, h => by
    obtain ⟨d, _, hb, hd⟩ := drop_at p n (by omega)
    have e : p.data.toList.take (n + 1) = p.data.toList.take n ++ [d] := by rw [List.take_add_one, hd]; rfl
    rw [e, Nm.lastIdx_snoc]
    have hl : (p.data.toList.take n).length = n := by rw [List.length_take, len_eq]; omega
    rw [hl, show (((n + 1 : Nat) : Int) - 1) = (n : Int) from by omega]
    by_cases hc : d = c
    · refine Ev.step (fun k => ?_) (Ev.now _)
      simp only [bytealg_LastIndexByteString.l0]
      rw [if_pos (by omega), if_pos (by omega), if_pos (by omega), if_pos (by rw [hb, hc]), if_pos hc]
    · have s : ∀ k, bytealg_LastIndexByteString.l0 (k + 1) p (c.toNat : Int) (n : Int) = bytealg_LastIndexByteString.l0 k p (c.toNat : Int) ((n : Int) - 1) := fun k => by
        simp only [bytealg_LastIndexByteString.l0]
        rw [if_pos (by omega), if_pos (by omega), if_pos (by omega), if_neg (by rw [hb]; exact fun e => hc ((toNat_eq d c).1 e)), show wrap64 ((n : Int) - 1) = (n : Int) - 1 from by unfold wrap64; omega]
      rw [if_neg hc]
      exact Ev.step s (lastb_l0 p hp c n (by omega))
theorem lastb_ev (p : ByteArray) (hp : p.size ≤ 1099511627776) : Ev (fun k => strings_LastIndexByte.f k p 47) (Nm.lastIdx 47 p.data.toList) := by
  have := lastb_l0 p hp 47 p.size (by omega)
  rw [List.take_of_length_le (by rw [len_eq]; omega)] at this
  have s : ∀ k, strings_LastIndexByte.f k p 47 = (bytealg_LastIndexByteString.l0 k p 47 ((p.size : Int) - 1)).bind fun t => some t := fun k => by
    simp only [strings_LastIndexByte.f, bytealg_LastIndexByteString.f]
    rw [show wrap64 ((p.size : Int) - 1) = (p.size : Int) - 1 from by unfold wrap64; omega]
  exact Ev.congr s (Ev.bind this (Ev.now _))
def upB (p : ByteArray) : ByteArray := p.extract 0 (Nm.lastIdx 47 p.data.toList).toNat
theorem mx0 (a : Int) (h : -1 ≤ a) : mx 0 a = ((a.toNat : Nat) : Int) := by unfold mx; split <;> omega
theorem up_ev (p : ByteArray) (hp : p.size ≤ 1099511627776) : Ev (fun k => name_Up.f k p) (upB p) := by
  have h1 := Nm.lastIdx_ge 47 p.data.toList
  have h2 := Nm.lastIdx_lt 47 p.data.toList
  rw [len_eq] at h2
  have s : ∀ k, name_Up.f k p = (strings_LastIndexByte.f k p 47).bind fun t => if 0 ≤ mx 0 t then (if mx 0 t ≤ (p.size : Int) then some (p.extract 0 ((mx 0 t : Int)).toNat) else none) else none := fun k => by simp only [name_Up.f]
  refine Ev.congr s (Ev.bind (lastb_ev p hp) (Ev.congr (fun k => ?_) (Ev.now _)))
  rw [mx0 _ h1, if_pos (by omega), if_pos (by omega), Int.toNat_natCast]
  rfl
theorem ncheck (p : ByteArray) : name_Check.f p = some (((Nm.check p.data.toList).1 : Int), ((Nm.check p.data.toList).2 : Int)) := rfl
end Go.Proofs.YthpecpkncifngaaDoor.Pure
end

/- NameBeneath, NameCompares: the pure statements. -/
section
namespace Go.Proofs.YthpecpkncifngaaDoor.Pure
open Go.RowKit Go.Proofs.YthpecpkncifngaaDoor.X Go.Proofs.YthpecpkncifngaaDoorW.PrintWords Go.Proofs.YthpecpkncifngaaDoorW.PrintLast Go.Proofs.YthpecpkncifngaaDoorW.PrintMore
open Go.Proofs.YthpecpkncifngaaDoor
noncomputable def ben (a p : List UInt8) : Bool := @ite Bool ((Nm.check p).2 = 0 ∧ (a = [] ∨ ∃ b, p = a ++ 47 :: b)) (Classical.propDecidable _) true false
theorem ben_true {a p : List UInt8} (h : (Nm.check p).2 = 0 ∧ (a = [] ∨ ∃ b, p = a ++ 47 :: b)) : ben a p = true := by unfold ben; exact if_pos h
theorem ben_false {a p : List UInt8} (h : ¬ ((Nm.check p).2 = 0 ∧ (a = [] ∨ ∃ b, p = a ++ 47 :: b))) : ben a p = false := by unfold ben; exact if_neg h
theorem prefix_iff (a p : ByteArray) : (a.size < p.size ∧ p.data.toList.take a.size = a.data.toList ∧ p.data.toList[a.size]? = some 47) ↔ ∃ b, p.data.toList = a.data.toList ++ 47 :: b := by
  have hl := len_eq a
  have hp := len_eq p
  constructor
  · rintro ⟨h1, h2, h3⟩
    refine ⟨p.data.toList.drop (a.size + 1), ?_⟩
    obtain ⟨h4, h5⟩ := List.getElem?_eq_some_iff.1 h3
    have := List.drop_eq_getElem_cons h4
    rw [h5] at this
    rw [← this, ← h2]
    exact (List.take_append_drop _ _).symm
  · rintro ⟨b, h⟩
    have hlen := congrArg List.length h
    rw [List.length_append, List.length_cons] at hlen
    refine ⟨by omega, ?_, ?_⟩
    · rw [h, ← hl, List.take_left]
    · rw [h, ← hl, List.getElem?_append_right (Nat.le_refl _)]
      simp
theorem nbeneath (a p : ByteArray) : name_Beneath.f a p = some (ben a.data.toList p.data.toList) := by
  have hl := len_eq a
  have hlp := len_eq p
  simp only [name_Beneath.f, ncheck, Option.bind_some, strings_HasPrefix.f, stringslite_HasPrefix.f, toList_eq]
  by_cases h1 : (Nm.check p.data.toList).2 = 0
  · rw [if_pos (by simp [h1])]
    by_cases h2 : a.data.toList = []
    · rw [if_pos h2, ben_true ⟨h1, .inl h2⟩]
    · rw [if_neg h2]
      by_cases h3 : p.size < a.size
      · rw [if_neg (by omega)]
        simp only [Option.bind_some, Bool.false_eq_true, if_false]
        rw [ben_false]
        rintro ⟨_, h5 | h5⟩
        · exact h2 h5
        · have := ((prefix_iff a p).2 h5).1; omega
      · rw [if_pos (by omega), if_pos (by omega), if_pos (by omega)]
        simp only [Option.bind_some, Int.toNat_natCast, Lib.extract_data, List.drop_zero, Nat.sub_zero, beq_iff_eq]
        by_cases h4 : p.data.toList.take a.size = a.data.toList
        · rw [if_pos h4]
          by_cases h5 : a.size < p.size
          · rw [if_pos (by omega), if_pos (by omega), if_pos (by omega)]
            obtain ⟨c, _, hb, hc⟩ := drop_at p a.size h5
            rw [hb]
            by_cases h6 : c = 47
            · rw [ben_true ⟨h1, .inr ((prefix_iff a p).1 ⟨h5, h4, by rw [hc, h6]⟩)⟩, h6]; rfl
            · rw [ben_false]
              · have : ¬ ((c.toNat : Int) = 47) := fun e => h6 ((toNat_eq c 47).1 e)
                simpa using this
              · rintro ⟨_, h7 | h7⟩
                · exact h2 h7
                · have := ((prefix_iff a p).2 h7).2.2
                  rw [hc] at this
                  exact h6 (Option.some.inj this)
          · rw [if_neg (by omega), ben_false]
            rintro ⟨_, h7 | h7⟩
            · exact h2 h7
            · have := ((prefix_iff a p).2 h7).1; omega
        · rw [if_neg h4, ben_false]
          rintro ⟨_, h7 | h7⟩
          · exact h2 h7
          · exact h4 ((prefix_iff a p).2 h7).2.1
  · rw [if_neg (by simp; omega), ben_false (fun h => h1 h.1)]
theorem cmp_ev (a b : ByteArray) : cmp_Compare_string.f a b = some (if Op.bytesLess a.data.toList b.data.toList = true then -1 else if Op.bytesLess b.data.toList a.data.toList = true then 1 else 0) := by
  have n : ∀ x : ByteArray, cmp_isNaN_string.f x = some false := fun x => by simp [cmp_isNaN_string.f]
  simp only [cmp_Compare_string.f, n, Option.bind_some, Bool.false_eq_true, if_false, toList_eq]
  split
  · rfl
  · split <;> rfl
theorem ib (p : ByteArray) : strings_IndexByte.f p 47 = some (Lib.indexByte p.data.toList 47) := rfl
theorem texts_none {l : List UInt8} (h : Lib.indexByte l 47 = -1) : Nm.texts l = [l] := by simp [Nm.texts, Nm.pieces_none l 0 h]
theorem texts_some {l : List UInt8} {n : Nat} (h : Lib.indexByte l 47 = n) : Nm.texts l = l.take n :: Nm.texts (l.drop (n + 1)) := by
  rw [Nm.texts, Nm.pieces_some l 0 n h, List.map_cons, Nm.pieces_texts]
theorem cmp_cases (x y : List UInt8) : (Op.bytesLess x y = true) ∨ (Op.bytesLess x y = false ∧ Op.bytesLess y x = true) ∨ (Op.bytesLess x y = false ∧ Op.bytesLess y x = false) := by
  cases Op.bytesLess x y <;> cases Op.bytesLess y x <;> simp
theorem ncompare_j2 (a b X Y : ByteArray) (i j r : Int) (A B : List (List UInt8))
    (h : ∀ c : Bool, c = (if i < 0 then decide (j < 0) else false) → Ev (fun k => name_Compare.j3 k a b i j c) (Nm.cmpL A B))
    (hr : r = Nm.cmpL (X.data.toList :: A) (Y.data.toList :: B)) : Ev (fun k => name_Compare.j2 k a b i j X Y) r := by
  subst hr
  have s : ∀ k, name_Compare.j2 (k + 1) a b i j X Y = if (if Op.bytesLess X.data.toList Y.data.toList = true then (-1 : Int) else if Op.bytesLess Y.data.toList X.data.toList = true then 1 else 0) = 0 then name_Compare.j3 k a b i j (if i < 0 then decide (j < 0) else false) else some (if Op.bytesLess X.data.toList Y.data.toList = true then (-1 : Int) else if Op.bytesLess Y.data.toList X.data.toList = true then 1 else 0) := fun k => by
    simp only [name_Compare.j2]
    rw [cmp_ev, Option.bind_some]
    by_cases hi : i < 0
    · simp only [hi, if_true]
    · simp only [hi, if_false]
  rcases cmp_cases X.data.toList Y.data.toList with h1 | ⟨h1, h2⟩ | ⟨h1, h2⟩
  · simp only [h1, if_true] at s
    simp only [Nm.cmpL, h1, if_true]
    exact Ev.step s (Ev.congr (fun k => by rw [if_neg (by decide)]) (Ev.now _))
  · simp only [h1, h2, Bool.false_eq_true, if_false, if_true] at s
    simp only [Nm.cmpL, h1, h2, Bool.false_eq_true, if_false, if_true]
    exact Ev.step s (Ev.congr (fun k => by rw [if_neg (by decide)]) (Ev.now _))
  · simp only [h1, h2, Bool.false_eq_true, if_false, if_true] at s
    simp only [Nm.cmpL, h1, h2, Bool.false_eq_true, if_false]
    exact Ev.step s (h _ rfl)
theorem ncompare_j1 (a b X : ByteArray) (i r : Int) (A B : List (List UInt8)) (Y : List UInt8) (hB : Nm.texts b.data.toList = Y :: B)
    (h : ∀ c : Bool, c = (if i < 0 then decide (Lib.indexByte b.data.toList 47 < 0) else false) → Ev (fun k => name_Compare.j3 k a b i (Lib.indexByte b.data.toList 47) c) (Nm.cmpL A B))
    (hr : r = Nm.cmpL (X.data.toList :: A) (Y :: B)) : Ev (fun k => name_Compare.j1 k a b i (Lib.indexByte b.data.toList 47) X b) r := by
  by_cases hj : Lib.indexByte b.data.toList 47 = -1
  · rw [texts_none hj] at hB
    injection hB with h1 h2
    subst h1
    have s : ∀ k, name_Compare.j1 (k + 1) a b i (Lib.indexByte b.data.toList 47) X b = name_Compare.j2 k a b i (Lib.indexByte b.data.toList 47) X b := fun k => by
      simp only [name_Compare.j1]
      rw [if_neg (by omega)]
    exact Ev.step s (ncompare_j2 a b X b i _ r A B h hr)
  · have := Lib.indexByte_ge b.data.toList 47
    obtain ⟨n, hn⟩ : ∃ n : Nat, Lib.indexByte b.data.toList 47 = n := ⟨(Lib.indexByte b.data.toList 47).toNat, by omega⟩
    rw [texts_some hn] at hB
    injection hB with h1 h2
    subst h1
    have hlt := (Nm.pc_some _ 0 n hn).1
    rw [len_eq] at hlt
    have s : ∀ k, name_Compare.j1 (k + 1) a b i (Lib.indexByte b.data.toList 47) X b = name_Compare.j2 k a b i (Lib.indexByte b.data.toList 47) X (b.extract 0 n) := fun k => by
      simp only [name_Compare.j1]
      rw [if_pos (by omega), if_pos (by omega), if_pos (by omega), hn, Int.toNat_natCast]
    refine Ev.step s (ncompare_j2 a b X (b.extract 0 n) i _ r A B h ?_)
    rw [hr, Lib.extract_data]
    simp
theorem ncompare_one (a b : ByteArray) (hai : Lib.indexByte a.data.toList 47 = -1) :
    Ev (fun k => name_Compare.l0 k a b) (Nm.cmpL (Nm.texts a.data.toList) (Nm.texts b.data.toList)) := by
  have s : ∀ k, name_Compare.l0 (k + 1) a b = name_Compare.j1 k a b (-1) (Lib.indexByte b.data.toList 47) a b := fun k => by
    simp only [name_Compare.l0]
    rw [ib, ib, Option.bind_some, Option.bind_some, hai, if_neg (by omega)]
  refine Ev.step s ?_
  obtain ⟨Y, B, hB⟩ : ∃ Y B, Nm.texts b.data.toList = Y :: B := ⟨_, _, rfl⟩
  refine ncompare_j1 a b a (-1) _ [] B Y hB ?_ (by rw [texts_none hai, hB])
  rintro c rfl
  rw [if_pos (by omega)]
  by_cases hj : Lib.indexByte b.data.toList 47 = -1
  · rw [texts_none hj] at hB
    injection hB with h1 h2
    subst h2
    refine Ev.step (fun k => ?_) (Ev.now _)
    simp only [name_Compare.j3, hj]
    rw [if_pos (by decide)]
    rfl
  · have := Lib.indexByte_ge b.data.toList 47
    obtain ⟨m, hm⟩ : ∃ m : Nat, Lib.indexByte b.data.toList 47 = m := ⟨(Lib.indexByte b.data.toList 47).toNat, by omega⟩
    rw [texts_some hm] at hB
    injection hB with h1 h2
    subst h2
    obtain ⟨Z, C, hC⟩ : ∃ Z C, Nm.texts (b.data.toList.drop (m + 1)) = Z :: C := ⟨_, _, rfl⟩
    rw [hC]
    refine Ev.step (fun k => ?_) (Ev.now _)
    simp only [name_Compare.j3, hm]
    rw [if_neg (by simp), if_pos (by omega)]
    rfl
theorem ncompare_l0 (d : Nat) : ∀ (a b : ByteArray), a.size ≤ d → a.size ≤ 140737488355328 → b.size ≤ 140737488355328 →
    Ev (fun k => name_Compare.l0 k a b) (Nm.cmpL (Nm.texts a.data.toList) (Nm.texts b.data.toList)) := by
  induction d with
  | zero =>
    intro a b h0 ha hb
    have hai : Lib.indexByte a.data.toList 47 = -1 := by
      have e : a.data.toList = [] := List.eq_nil_of_length_eq_zero (by rw [len_eq]; omega)
      rw [e]; rfl
    exact ncompare_one a b hai
  | succ d ih =>
    intro a b h0 ha hb
    by_cases hai : Lib.indexByte a.data.toList 47 = -1
    · exact ncompare_one a b hai
    · have := Lib.indexByte_ge a.data.toList 47
      obtain ⟨n, hn⟩ : ∃ n : Nat, Lib.indexByte a.data.toList 47 = n := ⟨(Lib.indexByte a.data.toList 47).toNat, by omega⟩
      have hlt := (Nm.pc_some _ 0 n hn).1
      rw [len_eq] at hlt
      have s : ∀ k, name_Compare.l0 (k + 1) a b = name_Compare.j1 k a b (n : Int) (Lib.indexByte b.data.toList 47) (a.extract 0 n) b := fun k => by
        simp only [name_Compare.l0]
        rw [ib, ib, Option.bind_some, Option.bind_some, hn, if_pos (by omega), if_pos (by omega), if_pos (by omega), Int.toNat_natCast]
      refine Ev.step s ?_
      obtain ⟨Y, B, hB⟩ : ∃ Y B, Nm.texts b.data.toList = Y :: B := ⟨_, _, rfl⟩
      refine ncompare_j1 a b (a.extract 0 n) n _ (Nm.texts (a.data.toList.drop (n + 1))) B Y hB ?_ (by rw [texts_some hn, hB, Lib.extract_data]; simp)
      rintro c rfl
      rw [if_neg (by omega)]
      obtain ⟨Z, C, hC⟩ : ∃ Z C, Nm.texts (a.data.toList.drop (n + 1)) = Z :: C := ⟨_, _, rfl⟩
      by_cases hj : Lib.indexByte b.data.toList 47 = -1
      · rw [texts_none hj] at hB
        injection hB with h1 h2
        subst h2
        rw [hC]
        refine Ev.step (fun k => ?_) (Ev.now _)
        simp only [name_Compare.j3, Bool.false_eq_true, if_false]
        rw [if_neg (by omega), if_pos (by omega)]
        rfl
      · have := Lib.indexByte_ge b.data.toList 47
        obtain ⟨m, hm⟩ : ∃ m : Nat, Lib.indexByte b.data.toList 47 = m := ⟨(Lib.indexByte b.data.toList 47).toNat, by omega⟩
        have hlt2 := (Nm.pc_some _ 0 m hm).1
        rw [len_eq] at hlt2
        rw [texts_some hm] at hB
        injection hB with h1 h2
        subst h2
        have s2 : ∀ k, name_Compare.j3 (k + 1) a b (n : Int) (Lib.indexByte b.data.toList 47) false = name_Compare.l0 k (a.extract (n + 1) a.size) (b.extract (m + 1) b.size) := fun k => by
          simp only [name_Compare.j3, Bool.false_eq_true, if_false]
          rw [if_neg (by omega), if_neg (by omega), hm, wrap_succ (by omega), wrap_succ (by omega), if_pos (by omega), if_pos (by omega), if_pos (by omega), if_pos (by omega), Int.toNat_natCast, Int.toNat_natCast]
        refine Ev.step s2 ?_
        have e1 : (a.extract (n + 1) a.size).data.toList = a.data.toList.drop (n + 1) := Lib.extract_to_end a (n + 1)
        have e2 : (b.extract (m + 1) b.size).data.toList = b.data.toList.drop (m + 1) := Lib.extract_to_end b (m + 1)
        have l1 : (a.extract (n + 1) a.size).size = a.size - (n + 1) := by rw [← len_eq, e1, List.length_drop, len_eq]
        have l2 : (b.extract (m + 1) b.size).size = b.size - (m + 1) := by rw [← len_eq, e2, List.length_drop, len_eq]
        have := ih (a.extract (n + 1) a.size) (b.extract (m + 1) b.size) (by omega) (by omega) (by omega)
        rw [e1, e2] at this
        exact this
end Go.Proofs.YthpecpkncifngaaDoor.Pure
end

/- The contract of tree.Check. -/
section
namespace Go.Proofs.YthpecpkncifngaaDoor.X
open Go.RowKit Go.Shelf Go.Proofs.YthpecpkncifngaaDoor Go.Proofs.YthpecpkncifngaaDoorW.PrintWords Go.Proofs.YthpecpkncifngaaDoorW.PrintLast Go.Proofs.YthpecpkncifngaaDoorW.PrintMore Go.Proofs.YthpecpkncifngaaDoor.Pure
theorem Ev.some_ {α : Type} {g : Nat → Option α} {r : α} (h : Ev g r) : ∃ k, g k = some r := h.imp fun K hK => hK K (Nat.le_refl _)
theorem compare_any (a b : ByteArray) (w : World) (ha : a.size ≤ 140737488355328) (hb : b.size ≤ 140737488355328) :
    Calls Tryd.prog 36 #[.string a, .string b] w fun e w' => e = .returned (.int .i64 (Nm.cmpL (Nm.texts a.data.toList) (Nm.texts b.data.toList))) ∧ ∃ n, w' = w.drewN n := by
  obtain ⟨k, hk⟩ := Ev.some_ (ncompare_l0 a.size a b (Nat.le_refl _) ha hb)
  refine (name_Compare.calls k a b _ w hk).mono ?_
  rintro e w' ⟨rfl, h⟩
  exact ⟨rfl, h.out⟩
theorem up_any (p : ByteArray) (w : World) (hp : p.size ≤ 1099511627776) :
    Calls Tryd.prog 27 #[.string p] w fun e w' => e = .returned (.string (upB p)) ∧ Below w.heap.size w w' := by
  obtain ⟨k, hk⟩ := Ev.some_ (up_ev p hp)
  exact name_Up.calls k p _ w hk
def kd (xs : List S26) : Nat → ByteArray → Int
  | 0, _ => 0
  | k + 1, s => if (rd_T26 xs k).f0 = s then (rd_T26 xs k).f1 else kd xs k s
def kinds (xs : List S26) : Nat → List (ByteArray × Value)
  | 0 => []
  | k + 1 => Mp.mput (kinds xs k) (rd_T26 xs k).f0 (.int .u8 (rd_T26 xs k).f1)
theorem kinds_get (xs : List S26) (k : Nat) (s : ByteArray) : (Mp.mget (kinds xs k) s).getD (.int .u8 0) = .int .u8 (kd xs k s) := by
  induction k with
  | zero => rfl
  | succ k ih =>
    simp only [kinds, Mp.mget_put, kd]
    split
    · rfl
    · exact ih
def cmpA (xs : List S26) (k : Nat) : Int := Nm.cmpL (Nm.texts (rd_T26 xs (k - 1 : Nat)).f0.data.toList) (Nm.texts (rd_T26 xs k).f0.data.toList)
def stepP (xs : List S26) (k : Nat) : Int :=
  if mayP (rd_T26 xs k) ≠ 0 then mayP (rd_T26 xs k) else
  if 0 < k ∧ 0 ≤ cmpA xs k then 111 else
  if (upB (rd_T26 xs k).f0).toList ≠ [] ∧ kd xs k (upB (rd_T26 xs k).f0) ≠ 2 then 112 else
  if (rd_T26 xs k).f1 = 3 ∧ kd xs k (rd_T26 xs k).f5 ≠ 1 then 113 else 0
def chkP (xs : List S26) : Nat → Int × Int
  | k => if h : k < xs.length then (if stepP xs k = 0 then chkP xs (k + 1) else ((k : Int), stepP xs k)) else (0, 0)
termination_by k => xs.length - k
theorem chkP_go {xs : List S26} {k : Nat} (h : k < xs.length) (hs : stepP xs k = 0) : chkP xs k = chkP xs (k + 1) := by rw [chkP, dif_pos h, if_pos hs]
theorem chkP_stop {xs : List S26} {k : Nat} {e : Int} (h : k < xs.length) (hs : stepP xs k = e) (h0 : e ≠ 0) : chkP xs k = ((k : Int), e) := by rw [chkP, dif_pos h, if_neg (by rw [hs]; exact h0), hs]
theorem chkP_end {xs : List S26} {k : Nat} (h : xs.length ≤ k) : chkP xs k = (0, 0) := by rw [chkP, dif_neg (by omega)]
def checkP (xs : List S26) : Int × Int := if 256 < xs.length then (256, 3) else chkP xs 0
theorem may_size {x : S26} (h : mayP x = 0) : x.f0.size ≤ 400 := by
  unfold mayP at h
  split at h
  · rename_i hne
    omega
  · rename_i hne
    have hl := Pure.len_eq x.f0
    unfold Nm.check at hne
    by_cases h4 : 400 < x.f0.data.toList.length
    · rw [if_pos h4] at hne; simp at hne
    · omega
section
variable {xs : List S26} {k : Nat}
theorem step1 (h : mayP (rd_T26 xs k) ≠ 0) : stepP xs k = mayP (rd_T26 xs k) := by rw [stepP, if_pos h]
theorem step2 (h : mayP (rd_T26 xs k) = 0) (h2 : 0 < k ∧ 0 ≤ cmpA xs k) : stepP xs k = 111 := by rw [stepP, if_neg (by simp [h]), if_pos h2]
theorem step3 (h : mayP (rd_T26 xs k) = 0) (h2 : ¬ (0 < k ∧ 0 ≤ cmpA xs k)) (h3 : (upB (rd_T26 xs k).f0).toList ≠ [] ∧ kd xs k (upB (rd_T26 xs k).f0) ≠ 2) : stepP xs k = 112 := by rw [stepP, if_neg (by simp [h]), if_neg h2, if_pos h3]
theorem step4 (h : mayP (rd_T26 xs k) = 0) (h2 : ¬ (0 < k ∧ 0 ≤ cmpA xs k)) (h3 : ¬ ((upB (rd_T26 xs k).f0).toList ≠ [] ∧ kd xs k (upB (rd_T26 xs k).f0) ≠ 2)) (h4 : (rd_T26 xs k).f1 = 3 ∧ kd xs k (rd_T26 xs k).f5 ≠ 1) : stepP xs k = 113 := by rw [stepP, if_neg (by simp [h]), if_neg h2, if_neg h3, if_pos h4]
theorem step5 (h : mayP (rd_T26 xs k) = 0) (h2 : ¬ (0 < k ∧ 0 ≤ cmpA xs k)) (h3 : ¬ ((upB (rd_T26 xs k).f0).toList ≠ [] ∧ kd xs k (upB (rd_T26 xs k).f0) ≠ 2)) (h4 : ¬ ((rd_T26 xs k).f1 = 3 ∧ kd xs k (rd_T26 xs k).f5 ≠ 1)) : stepP xs k = 0 := by rw [stepP, if_neg (by simp [h]), if_neg h2, if_neg h3, if_neg h4]
end
theorem zero23 (w : World) : (zeroValue 23).run Tryd.prog w = .ok (.int .u8 0) w := by kernel_rfl
set_option maxRecDepth 100000 in
set_option maxHeartbeats 4000000 in
theorem check_list (A : Option Addr) (c : Nat) (xs : List S26) (w : World) (hr : Kd.C k26 w A xs.length xs) (hm : xs.length ≤ 256) :
    Calls Tryd.prog 13 #[.slice A xs.length c] w fun e w' => e = .returned (.tuple #[.int .i64 (chkP xs 0).1, .int .i64 (chkP xs 0).2]) ∧ Below w.heap.size w w' := by
  have hmm := @run_makeMap Tryd.prog
  have HR := Aside0.mk hr
  have hd : decide ((256 : Int) < (xs.length : Int)) = false := decide_eq_false (by omega)
  have hd' : decide (256 < xs.length) = false := decide_eq_false (by omega)
  clear hr
  go_enter Tryd.func13, Tryd.ntmps13
  go_wp2
  clear hd hd'
  go_loopw [15] (fun i wr => ∃ k : Nat, k ≤ xs.length ∧ i = .int .i64 k ∧ Hid (chkP xs 0 = chkP xs k) ∧ Aside0 (Below w.heap.size w wr) ∧ Aside0 (Mp.At Mp.strKey wr w.heap.size (kinds xs k)) ∧ Aside0 (0 < k → mayP (rd_T26 xs (k - 1 : Nat)) = 0)) (fun i _ => xs.length - (intOf i).toNat)
  case atStart => exact ⟨0, Nat.zero_le _, rfl, Lib.hid rfl, ⟨(Below.refl _ _).alloc (Nat.le_refl _) _⟩, ⟨Mp.at_made w⟩, ⟨fun h => absurd h (Nat.lt_irrefl 0)⟩⟩
  case round =>
    obtain ⟨k, hk, rfl, hi, hB, hM, hP⟩ := hrel
    by_cases hlt : k < xs.length
    · obtain ⟨ad, A4, c4, rfl, h0, h1, h2, h3, h4, h5, hl, hr4⟩ := at_it HR.out hB.out k hlt
      have HR4 := Aside0.mk hr4
      clear hr4
      go_wp2_with fail
      refine (may_any (rd_T26 xs k) A4 c4 _ hl (Kd.C_below HR4.out ((Below.refl _ _).alloc (Nat.le_refl _) _))).mono ?_
      rintro e w1 ⟨rfl, hb⟩
      obtain ⟨a0, a1, a2, a3, a4, a5, az⟩ := box_it (rd_T26 xs k) A4 c4 hb
      have HB1 := Aside0.mk (hB.out.trans (((Below.refl _ wr).alloc (Nat.le_refl _) _).trans (hb.mono (by simp)) |>.mono hB.out.size))
      have HM1 := Aside0.mk (hM.out.below (((Below.refl _ wr).alloc (Nat.le_refl _) _).trans (hb.mono (by simp))))
      clear hb h0 h1 h2 h3 h4 h5
      by_cases hmay : mayP (rd_T26 xs k) = 0
      case neg =>
        have hne : (mayP (rd_T26 xs k) != 0) = true := by simpa using hmay
        have HI := Lib.hid (hi.out.trans (chkP_stop hlt (step1 hmay) hmay))
        clear hi hmay
        go_wp2
        go_ret2
        exact ⟨by rw [HI.out]; rfl, HB1.out⟩
      have hne : (mayP (rd_T26 xs k) != 0) = false := by simpa using hmay
      have HMay := Lib.hid hmay
      have HSz := Lib.hid (may_size hmay)
      clear hmay
      by_cases hk0 : 0 < k
      · have d0 : decide ((0 : Int) < (k : Int)) = true := decide_eq_true (by omega)
        obtain ⟨ad', A4', c4', ea, p0, -⟩ := at_it HR.out HB1.out (k - 1) (by omega)
        cases ea
        have HPs := Lib.hid (may_size (hP.out hk0))
        by_cases hcm : 0 ≤ cmpA xs k
        · have d1 : decide (0 ≤ Nm.cmpL (Nm.texts (rd_T26 xs (k - 1 : Nat)).f0.data.toList) (Nm.texts (rd_T26 xs k).f0.data.toList)) = true := decide_eq_true hcm
          have HI := Lib.hid (hi.out.trans (chkP_stop hlt (step2 HMay.out ⟨hk0, hcm⟩) (by decide)))
          clear hi hcm
          go_wp2
          go_quiet (exact Calls.quiet_of (compare_any _ _ _ (by have := HPs.out; omega) (by have := HSz.out; omega)))
          go_wp2
          go_ret2
          exact ⟨by rw [HI.out]; rfl, pw_below_drewN HB1.out _⟩
        · have H2 := Lib.hid (show ¬ (0 < k ∧ 0 ≤ cmpA xs k) from fun h => hcm h.2)
          have d1 : decide (0 ≤ Nm.cmpL (Nm.texts (rd_T26 xs (k - 1 : Nat)).f0.data.toList) (Nm.texts (rd_T26 xs k).f0.data.toList)) = false := decide_eq_false hcm
          clear hcm
          go_wp2
          go_quiet (exact Calls.quiet_of (compare_any _ _ _ (by have := HPs.out; omega) (by have := HSz.out; omega)))
          go_wp2_with fail
          refine (up_any _ _ (by have := HSz.out; omega)).mono ?_
          rintro e w2 ⟨rfl, hb⟩
          have st : ∀ {j : Nat} {v : Value}, w1.cell? ⟨wr.heap.size, j, none⟩ = some v → w2.cell? ⟨wr.heap.size, j, none⟩ = some v := fun {j v} hv => (hb.cell (p := ⟨wr.heap.size, j, none⟩) az).trans hv
          have b0 := st a0
          have b1 := st a1
          have b5 := st a5
          have HB2 := Aside0.mk ((pw_below_drewN HB1.out nq).trans (hb.mono HB1.out.size))
          have HM2 := Aside0.mk ((HM1.out.move (W' := w1.drewN nq) rfl).below hb)
          clear hb st a0 a1 a2 a3 a4 a5 HB1 HM1
          have hrun1 : (Instr.lookup 63 (.map (some w.heap.size)) (.string (upB (rd_T26 xs k).f0)) false).run Tryd.prog w2 = .ok (.int .u8 (kd xs k (upB (rd_T26 xs k).f0))) w2 := by
            rw [← kinds_get]; exact HM2.out.lookup (K := Mp.strKey) Tryd.underlying63 Tryd.underlying9 _ zero23 false
          have hrun2 : (Instr.lookup 63 (.map (some w.heap.size)) (.string (rd_T26 xs k).f5) false).run Tryd.prog w2 = .ok (.int .u8 (kd xs k (rd_T26 xs k).f5)) w2 := by
            rw [← kinds_get]; exact HM2.out.lookup (K := Mp.strKey) Tryd.underlying63 Tryd.underlying9 _ zero23 false
          obtain ⟨o, ho, hrun3, hM3⟩ := HM2.out.update (K := Mp.strKey) Tryd.underlying63 Tryd.underlying9 (rd_T26 xs k).f0 (.int .u8 (rd_T26 xs k).f1)
          have HM3 := Aside0.mk hM3
          have hrun4 : (Instr.mapUpdate 63 (.map (some w.heap.size)) (.string (rd_T26 xs k).f0) (.int .u8 (rd_T26 xs k).f1)).run Tryd.prog w2 = .ok () (w2.putObj w.heap.size o) := hrun3
          clear hM3 hrun3
          by_cases k3 : (upB (rd_T26 xs k).f0).toList ≠ [] ∧ kd xs k (upB (rd_T26 xs k).f0) ≠ 2
          · have HI := Lib.hid (hi.out.trans (chkP_stop hlt (step3 HMay.out H2.out k3) (by decide)))
            have e1 : (upB (rd_T26 xs k).f0).toList.isEmpty = false := by simpa using k3.1
            have e2 : (kd xs k (upB (rd_T26 xs k).f0) != 2) = true := by simpa using k3.2
            clear hi k3
            go_wp2
            go_ret2
            exact ⟨by rw [HI.out]; rfl, HB2.out⟩
          have H3 := Lib.hid k3
          have E3 : ((upB (rd_T26 xs k).f0).toList.isEmpty = false ∧ (kd xs k (upB (rd_T26 xs k).f0) != 2) = false) ∨ (upB (rd_T26 xs k).f0).toList.isEmpty = true := by
            by_cases q : (upB (rd_T26 xs k).f0).toList = []
            · right; simpa using q
            · left; exact ⟨by simpa using q, by simpa using fun h => k3 ⟨q, h⟩⟩
          clear k3
          by_cases k4 : (rd_T26 xs k).f1 = 3 ∧ kd xs k (rd_T26 xs k).f5 ≠ 1
          · have HI := Lib.hid (hi.out.trans (chkP_stop hlt (step4 HMay.out H2.out H3.out k4) (by decide)))
            have e3 : ((rd_T26 xs k).f1 == 3) = true := by simpa using k4.1
            have e4 : (kd xs k (rd_T26 xs k).f5 != 1) = true := by simpa using k4.2
            clear hi k4
            rcases E3 with ⟨e1, e2⟩ | e1
            all_goals
              go_wp2
              go_ret2
              exact ⟨by rw [HI.out]; rfl, HB2.out⟩
          have HI := Lib.hid (hi.out.trans (chkP_go hlt (step5 HMay.out H2.out H3.out k4)))
          have E4 : ((rd_T26 xs k).f1 == 3) = false ∨ (((rd_T26 xs k).f1 == 3) = true ∧ (kd xs k (rd_T26 xs k).f5 != 1) = false) := by
            by_cases q : (rd_T26 xs k).f1 = 3
            · right; exact ⟨by simpa using q, by simpa using fun h => k4 ⟨q, h⟩⟩
            · left; simpa using q
          clear hi k4
          rcases E3 with ⟨e1, e2⟩ | e1 <;> rcases E4 with e3 | ⟨e3, e4⟩
          all_goals
            go_wp2
            go_roundw
            case rel => exact ⟨k + 1, by omega, by go_num, HI, ⟨HB2.out.grown (grownBy_putObj' _ _ _) HB2.out.size (fun j hj => by cases hj; exact Nat.le_refl _)⟩, HM3, ⟨fun _ => by rw [Nat.add_sub_cancel]; exact HMay.out⟩⟩
            case measure => simp [intOf]; omega
      · have H2 := Lib.hid (show ¬ (0 < k ∧ 0 ≤ cmpA xs k) from fun h => hk0 h.1)
        have d0 : decide ((0 : Int) < (k : Int)) = false := decide_eq_false (by omega)
        go_wp2
        go_quiet (fail)
        go_wp2_with fail
        refine (up_any _ _ (by have := HSz.out; omega)).mono ?_
        rintro e w2 ⟨rfl, hb⟩
        have st : ∀ {j : Nat} {v : Value}, w1.cell? ⟨wr.heap.size, j, none⟩ = some v → w2.cell? ⟨wr.heap.size, j, none⟩ = some v := fun {j v} hv => (hb.cell (p := ⟨wr.heap.size, j, none⟩) az).trans hv
        have b0 := st a0
        have b1 := st a1
        have b5 := st a5
        have HB2 := Aside0.mk ((pw_below_drewN HB1.out nq).trans (hb.mono HB1.out.size))
        have HM2 := Aside0.mk ((HM1.out.move (W' := w1.drewN nq) rfl).below hb)
        clear hb st a0 a1 a2 a3 a4 a5 HB1 HM1
        have hrun1 : (Instr.lookup 63 (.map (some w.heap.size)) (.string (upB (rd_T26 xs k).f0)) false).run Tryd.prog w2 = .ok (.int .u8 (kd xs k (upB (rd_T26 xs k).f0))) w2 := by
          rw [← kinds_get]; exact HM2.out.lookup (K := Mp.strKey) Tryd.underlying63 Tryd.underlying9 _ zero23 false
        have hrun2 : (Instr.lookup 63 (.map (some w.heap.size)) (.string (rd_T26 xs k).f5) false).run Tryd.prog w2 = .ok (.int .u8 (kd xs k (rd_T26 xs k).f5)) w2 := by
          rw [← kinds_get]; exact HM2.out.lookup (K := Mp.strKey) Tryd.underlying63 Tryd.underlying9 _ zero23 false
        obtain ⟨o, ho, hrun3, hM3⟩ := HM2.out.update (K := Mp.strKey) Tryd.underlying63 Tryd.underlying9 (rd_T26 xs k).f0 (.int .u8 (rd_T26 xs k).f1)
        have HM3 := Aside0.mk hM3
        have hrun4 : (Instr.mapUpdate 63 (.map (some w.heap.size)) (.string (rd_T26 xs k).f0) (.int .u8 (rd_T26 xs k).f1)).run Tryd.prog w2 = .ok () (w2.putObj w.heap.size o) := hrun3
        clear hM3 hrun3
        by_cases k3 : (upB (rd_T26 xs k).f0).toList ≠ [] ∧ kd xs k (upB (rd_T26 xs k).f0) ≠ 2
        · have HI := Lib.hid (hi.out.trans (chkP_stop hlt (step3 HMay.out H2.out k3) (by decide)))
          have e1 : (upB (rd_T26 xs k).f0).toList.isEmpty = false := by simpa using k3.1
          have e2 : (kd xs k (upB (rd_T26 xs k).f0) != 2) = true := by simpa using k3.2
          clear hi k3
          go_wp2
          go_ret2
          exact ⟨by rw [HI.out]; rfl, HB2.out⟩
        have H3 := Lib.hid k3
        have E3 : ((upB (rd_T26 xs k).f0).toList.isEmpty = false ∧ (kd xs k (upB (rd_T26 xs k).f0) != 2) = false) ∨ (upB (rd_T26 xs k).f0).toList.isEmpty = true := by
          by_cases q : (upB (rd_T26 xs k).f0).toList = []
          · right; simpa using q
          · left; exact ⟨by simpa using q, by simpa using fun h => k3 ⟨q, h⟩⟩
        clear k3
        by_cases k4 : (rd_T26 xs k).f1 = 3 ∧ kd xs k (rd_T26 xs k).f5 ≠ 1
        · have HI := Lib.hid (hi.out.trans (chkP_stop hlt (step4 HMay.out H2.out H3.out k4) (by decide)))
          have e3 : ((rd_T26 xs k).f1 == 3) = true := by simpa using k4.1
          have e4 : (kd xs k (rd_T26 xs k).f5 != 1) = true := by simpa using k4.2
          clear hi k4
          rcases E3 with ⟨e1, e2⟩ | e1
          all_goals
            go_wp2
            go_ret2
            exact ⟨by rw [HI.out]; rfl, HB2.out⟩
        have HI := Lib.hid (hi.out.trans (chkP_go hlt (step5 HMay.out H2.out H3.out k4)))
        have E4 : ((rd_T26 xs k).f1 == 3) = false ∨ (((rd_T26 xs k).f1 == 3) = true ∧ (kd xs k (rd_T26 xs k).f5 != 1) = false) := by
          by_cases q : (rd_T26 xs k).f1 = 3
          · right; exact ⟨by simpa using q, by simpa using fun h => k4 ⟨q, h⟩⟩
          · left; simpa using q
        clear hi k4
        rcases E3 with ⟨e1, e2⟩ | e1 <;> rcases E4 with e3 | ⟨e3, e4⟩
        all_goals
          go_wp2
          go_roundw
          case rel => exact ⟨k + 1, by omega, by go_num, HI, ⟨HB2.out.grown (grownBy_putObj' _ _ _) HB2.out.size (fun j hj => by cases hj; exact Nat.le_refl _)⟩, HM3, ⟨fun _ => by rw [Nat.add_sub_cancel]; exact HMay.out⟩⟩
          case measure => simp [intOf]; omega
    · have HI := Lib.hid (hi.out.trans (chkP_end (by omega)))
      clear hi
      go_wp2
      go_ret2
      exact ⟨by rw [HI.out]; rfl, hB.out⟩
theorem check_tree (A : Option Addr) (c : Nat) (xs : List S26) (w : World) (hr : Kd.C k26 w A xs.length xs) :
    Calls Tryd.prog 13 #[.slice A xs.length c] w fun e w' => e = .returned (.tuple #[.int .i64 (checkP xs).1, .int .i64 (checkP xs).2]) ∧ Below w.heap.size w w' := by
  by_cases h : 256 < xs.length
  · have hd : decide ((256 : Int) < (xs.length : Int)) = true := decide_eq_true (by omega)
    have hd' : decide (256 < xs.length) = true := decide_eq_true (by omega)
    have H := Lib.hid h
    clear h hr
    go_enter Tryd.func13, Tryd.ntmps13
    go_wp2
    go_ret2
    exact ⟨by unfold checkP; rw [if_pos H.out]; rfl, Below.refl _ _⟩
  · unfold checkP
    rw [if_neg h]
    exact check_list A c xs w hr (by omega)
end Go.Proofs.YthpecpkncifngaaDoor.X
end

/- The contracts of slices.Clip, tree.own and tree.some. -/
section
namespace Go.Proofs.YthpecpkncifngaaDoor.X
open Go.RowKit Go.Shelf Go.Proofs.YthpecpkncifngaaDoor Go.Proofs.YthpecpkncifngaaDoorW.PrintWords Go.Proofs.YthpecpkncifngaaDoorW.PrintLast Go.Proofs.YthpecpkncifngaaDoorW.PrintMore Go.Proofs.YthpecpkncifngaaDoor.Pure
theorem clip_bytes (A : Option Addr) (n c : Nat) (w : World) (hc : n ≤ c) (hn : c ≤ 9223372036854775807) :
    Calls Tryd.prog 82 #[.slice A n c] w fun e w' => e = .returned (.slice A n n) ∧ w' = w := by
  go_enter Tryd.func82, Tryd.ntmps82
  go_wp2
  go_ret
  exact ⟨rfl, rfl⟩
theorem clip_items (A : Option Addr) (n c : Nat) (w : World) (hc : n ≤ c) (hn : c ≤ 9223372036854775807) :
    Calls Tryd.prog 54 #[.slice A n c] w fun e w' => e = .returned (.slice A n n) ∧ w' = w := by
  go_enter Tryd.func54, Tryd.ntmps54
  go_wp2
  go_ret
  exact ⟨rfl, rfl⟩
theorem cells_grown {W w1 : World} {g t : Nat} {cs : Array Value} (h : W.heap[g]? = some (.cells cs t (0, 0))) (hg : W.grownBy w1 none) : w1.heap[g]? = some (.cells cs t (0, 0)) := blk_grown h hg (by simp)
set_option maxRecDepth 100000 in
set_option maxHeartbeats 4000000 in
theorem own_any (x : S26) (A4 : Option Addr) (c4 : Nat) (w : World) (hl : x.f4.length ≤ c4) (hm : x.f4.length ≤ 140737488355328) (hr : (Kd.int .u8).C w A4 x.f4.length x.f4) :
    Calls Tryd.prog 56 #[.agg (cellsIt x A4 c4)] w fun e w' => (∃ A, e = .returned (.agg (cellsIt x A x.f4.length)) ∧ Kd.F (Kd.int .u8) w' (fun k => w.heap.size ≤ k) A x.f4.length x.f4) ∧ Below w.heap.size w w' := by
  have HR := Aside0.mk hr
  clear hr
  unfold cellsIt
  go_enter Tryd.func56, Tryd.ntmps56
  go_wp2_with (refine Kd.R_append_rows (Kd.int .u8) (w0 := w) w.heap.size rfl _ _ 24 5 (.int .u8 0) 1 rfl Tryd.underlying24 info5 rfl (by decide) (by decide) (.slice none 0 0) [] x.f4 A4 x.f4.length c4 (fun k => w.heap.size + 2 ≤ k) (fun _ => False) rfl rfl (Kd.R_nil _ _ _ _ _) (Kd.C_below HR.out (((Below.refl _ w).alloc (Nat.le_refl _) _).alloc (by simp) _)) (fun _ _ h => h) (fun _ h => h.elim) (fun k h => by simp at h; omega) (((Below.refl _ w).alloc (Nat.le_refl _) _).alloc (by simp) _) (by simp; omega) (by simp; omega) ?_)
  intro v1 w1 hR hB hg hat
  obtain ⟨A, c, rfl, hc, hC⟩ := Kd.R_reads hR
  have hcm : c ≤ 9223372036854775807 := by
    obtain ⟨inner, ho⟩ := Kd.R_own hR
    rcases ho.2 with ⟨he, h0⟩ | ⟨g, cap, cur, he, _, _, _, hcm, _⟩
    · injection he with _ _ e3; omega
    · injection he with _ _ e3; unfold maxLen at hcm; omega
  have k0 : w1.heap[w.heap.size]? = some (.cells #[.string x.f0, .int .u8 x.f1, .int .i64 x.f2, .int .i64 x.f3, .slice A4 x.f4.length c4, .string x.f5] 26 (0, 0)) := by
    refine cells_grown ?_ hg
    exact ((Below.refl _ (w.alloc (.cells #[.string x.f0, .int .u8 x.f1, .int .i64 x.f2, .int .i64 x.f3, .slice A4 x.f4.length c4, .string x.f5] 26))).alloc (Nat.le_refl _) _).block w.heap.size (by simp) |>.trans (blk_new w _)
  have k1 : w1.heap[w.heap.size + 1]? = some (.cells #[.string ⟨#[]⟩, .int .u8 0, .int .i64 0, .int .i64 0, .slice none 0 0, .string ⟨#[]⟩] 26 (0, 0)) := by
    refine cells_grown ?_ hg
    have := blk_new (w.alloc (.cells #[.string x.f0, .int .u8 x.f1, .int .i64 x.f2, .int .i64 x.f3, .slice A4 x.f4.length c4, .string x.f5] 26)) (.cells #[.string ⟨#[]⟩, .int .u8 0, .int .i64 0, .int .i64 0, .slice none 0 0, .string ⟨#[]⟩] 26)
    rw [World.size_alloc] at this
    exact this
  have c00 := (blk_cell k0 0).trans rfl
  have c01 := (blk_cell k0 1).trans rfl
  have c02 := (blk_cell k0 2).trans rfl
  have c03 := (blk_cell k0 3).trans rfl
  have c04 := (blk_cell k0 4).trans rfl
  have c05 := (blk_cell k0 5).trans rfl
  have f04 := blk_frozen k0 4
  have c10 := (blk_cell k1 0).trans rfl
  have c11 := (blk_cell k1 1).trans rfl
  have c12 := (blk_cell k1 2).trans rfl
  have c13 := (blk_cell k1 3).trans rfl
  have c14 := (blk_cell k1 4).trans rfl
  have c15 := (blk_cell k1 5).trans rfl
  have f10 := blk_frozen k1 0
  have f11 := blk_frozen k1 1
  have f12 := blk_frozen k1 2
  have f13 := blk_frozen k1 3
  have f14 := blk_frozen k1 4
  have f15 := blk_frozen k1 5
  have HRR := Aside0.mk hR
  have HB := Aside0.mk hB
  have HG := Aside0.mk hg
  clear hR hB hg hat k0 k1 hC
  go_wp2_with fail
  refine (clip_bytes A x.f4.length c _ hc hcm).mono ?_
  rintro e w2 ⟨rfl, rfl⟩
  go_wp2
  have hF0 := Kd.R_F HRR.out
  have hok0 : ∀ k, w.heap.size + 2 ≤ k → ∀ j, k ≠ (⟨w.heap.size, j, none⟩ : Addr).block := fun k hk j => by simp; omega
  have hok1 : ∀ k, w.heap.size + 2 ≤ k → ∀ j, k ≠ (⟨w.heap.size + 1, j, none⟩ : Addr).block := fun k hk j => by simp; omega
  refine bodyPost_ret (v := .agg #[.string x.f0, .int .u8 x.f1, .int .i64 x.f2, .int .i64 x.f3, .slice A x.f4.length x.f4.length, .string x.f5]) (by simp [results, Tryd.results56, go_sem, c00, c01, c02, c03, c04, c05, c10, c11, c12, c13, c14, c15]) rfl ⟨⟨A, rfl, ?_⟩, ?_⟩
  · refine Kd.F_mono ?_ (fun k (hk : w.heap.size + 2 ≤ k) => (by omega : w.heap.size ≤ k))
    exact Kd.F_far (Kd.F_far (Kd.F_far (Kd.F_far (Kd.F_far (Kd.F_far (Kd.F_far (Kd.F_far hF0 (fun k hk => hok0 k hk 4) _) (fun k hk => hok0 k hk 4) _) (fun k hk => hok1 k hk 0) _) (fun k hk => hok1 k hk 1) _) (fun k hk => hok1 k hk 2) _) (fun k hk => hok1 k hk 3) _) (fun k hk => hok1 k hk 4) _) (fun k hk => hok1 k hk 5) _
  · exact below_set (below_set (below_set (below_set (below_set (below_set (below_set (below_set HB.out (Nat.le_refl _)) (Nat.le_refl _)) (Nat.le_succ _)) (Nat.le_succ _)) (Nat.le_succ _)) (Nat.le_succ _)) (Nat.le_succ _)) (Nat.le_succ _)
theorem N_cap {α : Type} {d : Kd α} {e : Nat} {w : World} {base : Nat} {ok : Nat → Prop} {v : Value} {xs : List α} (h : Kd.N d e w base ok v xs) : ∃ A c, v = .slice A xs.length c ∧ xs.length ≤ c ∧ c ≤ 9223372036854775807 := by
  obtain ⟨A, c, rfl, hc, _⟩ := Kd.N_reads h
  refine ⟨A, c, rfl, hc, ?_⟩
  obtain ⟨_, rows, _, hR, _⟩ := h
  obtain ⟨inner, ho⟩ := Kd.R_own hR
  rcases ho.2 with ⟨he, h0⟩ | ⟨g, cap, cur, he, _, _, _, hcm, _⟩
  · injection he with _ _ e3; omega
  · injection he with _ _ e3; unfold maxLen at hcm; omega
def keepP (p : S26 → Bool) (xs : List S26) : Nat → List S26
  | 0 => []
  | k + 1 => if p (rd_T26 xs k) then keepP p xs k ++ [rd_T26 xs k] else keepP p xs k
theorem keepP_len (p : S26 → Bool) (xs : List S26) (k : Nat) : (keepP p xs k).length ≤ k := by
  induction k with
  | zero => exact Nat.le_refl _
  | succ k ih =>
    simp only [keepP]
    split
    · rw [List.length_append, List.length_singleton]; omega
    · omega
set_option maxRecDepth 100000 in
set_option maxHeartbeats 4000000 in
theorem some_own (g : Nat) (cap : Array Value) (p : S26 → Bool) (A : Option Addr) (c : Nat) (xs : List S26) (w : World) (hr : Kd.C k26 w A xs.length xs) (hm : xs.length * 80 ≤ 140737488351232) (hb4 : ∀ x ∈ xs, x.f4.length ≤ 140737488355328)
    (hcall : ∀ (args : Array Value) (W : World), (callFunc g args).run Tryd.prog W = .ok (.enter g args) W) (hp : Tells g cap p w) :
    Calls Tryd.prog 46 #[.slice A xs.length c, .func (.func g) #[] cap] w fun e w' => (∃ A' c', e = .returned (.slice A' (keepP p xs xs.length).length (keepP p xs xs.length).length) ∧ Kd.N k26 26 w' w.heap.size (fun k => w.heap.size ≤ k) (.slice A' (keepP p xs xs.length).length c') (keepP p xs xs.length)) ∧ Below w.heap.size w w' := by
  have HR := Aside0.mk hr
  have HP := Aside0.mk hp
  have H4 := Aside0.mk hb4
  clear hr hp hb4
  go_enter Tryd.func46, Tryd.ntmps46
  go_wp2
  go_loopw [5, 10] (fun v i wr => ∃ k : Nat, k ≤ xs.length ∧ i = .int .i64 k ∧ Aside0 (Below w.heap.size w wr) ∧ Aside0 (Kd.N k26 26 wr w.heap.size (fun k => w.heap.size ≤ k) v (keepP p xs k))) (fun _ i _ => xs.length - (intOf i).toNat)
  case atStart => exact ⟨0, Nat.zero_le _, rfl, ⟨Below.refl _ _⟩, ⟨Kd.N_nil _ _ _ _ _⟩⟩
  case round =>
    obtain ⟨k, hk, rfl, hB, hN⟩ := hrel
    by_cases hlt : k < xs.length
    · obtain ⟨ad, A4, c4, rfl, h0, h1, h2, h3, h4, h5, hl, hr4⟩ := at_it HR.out hB.out k hlt
      have HR4 := Aside0.mk hr4
      clear hr4
      go_wp2_with fail
      refine (HP.out _ (rd_T26 xs k) A4 c4 (hB.out.trans (((Below.refl _ wr).alloc (Nat.le_refl _) _).mono hB.out.size)) hl (Kd.C_below HR4.out ((Below.refl _ _).alloc (Nat.le_refl _) _))).mono ?_
      rintro e w1 ⟨rfl, hb⟩
      obtain ⟨a0, a1, a2, a3, a4, a5, az⟩ := box_it (rd_T26 xs k) A4 c4 hb
      have hbw := ((Below.refl _ wr).alloc (Nat.le_refl _) (.cells (cellsIt (rd_T26 xs k) A4 c4) 26)).trans (hb.mono (by simp))
      have HB1 := Aside0.mk (hB.out.trans (hbw.mono hB.out.size))
      have HBW := Aside0.mk hbw
      have HN1 := Aside0.mk (Kd.N_below hN.out hbw)
      clear hb hbw h0 h1 h2 h3 h4 h5
      by_cases hpk : p (rd_T26 xs k) = true
      · have HK := Lib.hid hpk
        have HS := Lib.hid (show keepP p xs (k + 1) = keepP p xs k ++ [rd_T26 xs k] by rw [keepP, if_pos hpk])
        rw [hpk]
        clear hpk
        have hm4 : (rd_T26 xs k).f4.length ≤ 140737488355328 := H4.out _ (by unfold rd_T26; rw [Int.toNat_natCast, List.getD_eq_getElem?_getD, List.getElem?_eq_getElem hlt]; exact List.getElem_mem hlt)
        go_wp2_with fail
        refine (own_any (rd_T26 xs k) A4 c4 _ hl hm4 (Kd.C_below HR4.out HBW.out)).mono ?_
        rintro e w2 ⟨⟨A', rfl, hF⟩, hb2⟩
        unfold cellsIt
        have HF := Aside0.mk hF
        have HN2 := Aside0.mk (Kd.N_below HN1.out hb2)
        have HB2 := Aside0.mk (HB1.out.trans (hb2.mono HB1.out.size))
        have hlt1 := HBW.out.size
        have hkl := keepP_len p xs k
        clear hF hb2 a0 a1 a2 a3 a4 a5
        go_wp2_with ((with_reducible refine gate_builtin (b := .append) (xs := #[.tmp 17, .tmp 20]) rfl ?_); at_builtin; refine Kd.N_append k26 (w0 := w) w.heap.size rfl (.tmp 17) (.tmp 20) 22 26 (.agg #[.string ⟨#[]⟩, .int .u8 0, .int .i64 0, .int .i64 0, .slice none 0 0, .string ⟨#[]⟩]) 80 rfl Tryd.underlying22 info26 rfl (by decide) (by decide) _ (keepP p xs k) (rd_T26 xs k) [.string (rd_T26 xs k).f0, .int .u8 (rd_T26 xs k).f1, .int .i64 (rd_T26 xs k).f2, .int .i64 (rd_T26 xs k).f3, .slice A' (rd_T26 xs k).f4.length (rd_T26 xs k).f4.length, .string (rd_T26 xs k).f5] (fun k_ => w.heap.size ≤ k_) (fun k_ => w1.heap.size ≤ k_) rfl rfl (k26_mkF _ _ _ (Nat.le_refl _) HF.out) (fun k_ h => ⟨Nat.le_trans HB1.out.size h, fun e => by have := Kd.N_lt HN1.out k_ e.symm; omega⟩) (fun k_ h => Nat.le_trans HB2.out.size h) HN2.out HB2.out HB2.out.size (by omega) ?_)
        intro v1 w3 hN3 hB3 hg hat
        rw [← HS.out] at hN3
        have HN3 := Aside0.mk hN3
        have HB3 := Aside0.mk hB3
        clear hN3 hB3 hg hat hlt1 hkl
        go_wp2
        go_roundw
        case rel => exact ⟨k + 1, by omega, by go_num, HB3, HN3⟩
        case measure => simp [intOf]; omega
      · have hpk' : p (rd_T26 xs k) = false := by simpa using hpk
        have HS := Lib.hid (show keepP p xs (k + 1) = keepP p xs k by rw [keepP, if_neg hpk])
        rw [hpk']
        clear hpk hpk'
        have hN3 := HN1.out
        rw [← HS.out] at hN3
        have HN3 := Aside0.mk hN3
        clear hN3 a0 a1 a2 a3 a4 a5
        go_wp2
        go_roundw
        case rel => exact ⟨k + 1, by omega, by go_num, HB1, HN3⟩
        case measure => simp [intOf]; omega
    · obtain rfl : k = xs.length := by omega
      obtain ⟨A', c', rfl, hc', hcm'⟩ := N_cap hN.out
      go_wp2_with fail
      refine (clip_items A' (keepP p xs xs.length).length c' _ hc' hcm').mono ?_
      rintro e w2 ⟨rfl, rfl⟩
      go_wp2
      go_ret
      exact ⟨⟨_, _, rfl, hN.out⟩, hB.out⟩
theorem some_clip (g : Nat) (cap : Array Value) (p : S26 → Bool) (A : Option Addr) (c : Nat) (xs : List S26) (w : World) (hr : Kd.C k26 w A xs.length xs) (hm : xs.length * 80 ≤ 140737488351232) (hb4 : ∀ x ∈ xs, x.f4.length ≤ 140737488355328)
    (hcall : ∀ (args : Array Value) (W : World), (callFunc g args).run Tryd.prog W = .ok (.enter g args) W) (hp : Tells g cap p w) :
    Calls Tryd.prog 46 #[.slice A xs.length c, .func (.func g) #[] cap] w fun e w' => (∃ A', e = .returned (.slice A' (keepP p xs xs.length).length (keepP p xs xs.length).length) ∧ Kd.V k26 26 w' w.heap.size (fun k => w.heap.size ≤ k) (.slice A' (keepP p xs xs.length).length (keepP p xs xs.length).length) (keepP p xs xs.length)) ∧ Below w.heap.size w w' := by
  refine (some_own g cap p A c xs w hr hm hb4 hcall hp).mono ?_
  rintro e w1 ⟨⟨A', c', rfl, hN⟩, hb⟩
  exact ⟨⟨_, rfl, Kd.V_mk (Nat.le_refl _) (Kd.N_F hN)⟩, hb⟩
theorem some_any (g : Nat) (cap : Array Value) (p : S26 → Bool) (A : Option Addr) (c : Nat) (xs : List S26) (w : World) (hr : Kd.C k26 w A xs.length xs) (hm : xs.length * 80 ≤ 140737488351232) (hb4 : ∀ x ∈ xs, x.f4.length ≤ 140737488355328)
    (hcall : ∀ (args : Array Value) (W : World), (callFunc g args).run Tryd.prog W = .ok (.enter g args) W) (hp : Tells g cap p w) :
    Calls Tryd.prog 46 #[.slice A xs.length c, .func (.func g) #[] cap] w fun e w' => (∃ v, e = .returned v ∧ Kd.V k26 26 w' w.heap.size (fun k => w.heap.size ≤ k) v (keepP p xs xs.length)) ∧ Below w.heap.size w w' := by
  refine (some_clip g cap p A c xs w hr hm hb4 hcall hp).mono ?_
  rintro e w1 ⟨⟨A', rfl, hV⟩, hb⟩
  exact ⟨⟨_, rfl, hV⟩, hb⟩
end Go.Proofs.YthpecpkncifngaaDoor.X
end

/- The contracts of tree.Beneath, tree.checked, tree.Without. -/
section
namespace Go.Proofs.YthpecpkncifngaaDoor.X
open Go.RowKit Go.Shelf Go.Proofs.YthpecpkncifngaaDoor Go.Proofs.YthpecpkncifngaaDoorW.PrintWords Go.Proofs.YthpecpkncifngaaDoorW.PrintLast Go.Proofs.YthpecpkncifngaaDoorW.PrintMore Go.Proofs.YthpecpkncifngaaDoor.Pure
theorem ben_any (a p : ByteArray) (w : World) :
    Calls Tryd.prog 48 #[.string a, .string p] w fun e w' => e = .returned (.bool (ben a.data.toList p.data.toList)) ∧ Below w.heap.size w w' :=
  name_Beneath.calls a p _ w (nbeneath a p)
theorem beneath1_tells (root : ByteArray) (B : Nat) (w : World) (hc : w.cell? ⟨B, 0, none⟩ = some (.string root)) : Tells 66 #[.pointer (some ⟨B, 0, none⟩)] (fun x => ben root.data.toList x.f0.data.toList) w := by
  intro W x A4 c4 hB hl hr
  have hb := World.block_lt_of_cell? w _ hc
  have hc' := (hB.cell hb).trans hc
  have hbW : B < W.heap.size := Nat.lt_of_lt_of_le hb hB.size
  clear hc
  unfold cellsIt
  go_enter Tryd.func66, Tryd.ntmps66
  go_wp2_with fail
  refine (ben_any _ _ _).mono ?_
  rintro e w1 ⟨rfl, h1⟩
  go_wp2
  go_ret
  exact ⟨rfl, ((Below.refl _ W).alloc (Nat.le_refl _) _).trans (h1.mono (by simp))⟩
noncomputable def beneathP (xs : List S26) (root : ByteArray) : List S26 := keepP (fun x => ben root.data.toList x.f0.data.toList) xs xs.length
theorem tree_beneath (A : Option Addr) (c : Nat) (xs : List S26) (root : ByteArray) (w : World) (hr : Kd.C k26 w A xs.length xs) (hm : xs.length * 80 ≤ 140737488351232) (hb4 : ∀ x ∈ xs, x.f4.length ≤ 140737488355328) :
    Calls Tryd.prog 28 #[.slice A xs.length c, .string root] w fun e w' => (∃ v, e = .returned v ∧ Kd.V k26 26 w' w.heap.size (fun k => w.heap.size ≤ k) v (beneathP xs root)) ∧ Below w.heap.size w w' := by
  have HR := Aside0.mk hr
  clear hr
  have hB0 : Below w.heap.size w (w.alloc (.cells #[.string root] 9)) := (Below.refl _ w).alloc (Nat.le_refl _) _
  have hcell : (w.alloc (.cells #[.string root] 9)).cell? ⟨w.heap.size, 0, none⟩ = some (.string root) := (cell_new_l w (.string root) 9).1
  have HT := Aside0.mk (beneath1_tells root w.heap.size _ hcell)
  clear hcell
  go_enter Tryd.func28, Tryd.ntmps28
  go_wp2_with fail
  refine (some_any 66 _ _ A c xs _ (Kd.C_below HR.out hB0) hm hb4 (fun args W => by kernel_rfl) HT.out).mono ?_
  rintro e w1 ⟨⟨v, rfl, hV⟩, hb⟩
  have HV := Aside0.mk hV
  clear hV
  go_wp2
  go_ret
  exact ⟨⟨_, rfl, Kd.V_mono HV.out (fun k h => Nat.le_trans hB0.size h)⟩, hB0.trans (hb.mono hB0.size)⟩
end Go.Proofs.YthpecpkncifngaaDoor.X
end

/- The contracts of tree.byPath, slices.BinarySearchFunc. -/
section
namespace Go.Proofs.YthpecpkncifngaaDoor.X
open Go Go.RowKit Go.Shelf Go.Proofs.YthpecpkncifngaaDoor Go.Proofs.YthpecpkncifngaaDoorW.PrintWords Go.Proofs.YthpecpkncifngaaDoorW.PrintLast Go.Proofs.YthpecpkncifngaaDoorW.PrintMore Go.Proofs.YthpecpkncifngaaDoor.Pure
def cmpI (x y : S26) : Int := Nm.cmpL (Nm.texts x.f0.data.toList) (Nm.texts y.f0.data.toList)
theorem rd_get (xs : List S26) (k : Nat) (h : k < xs.length) : rd_T26 xs k = xs[k] := by
  unfold rd_T26
  rw [Int.toNat_natCast, List.getD_eq_getElem?_getD, List.getElem?_eq_getElem h]; rfl
end Go.Proofs.YthpecpkncifngaaDoor.X
end

/- NameJoins: the pure statement. -/
section
namespace Go.Proofs.YthpecpkncifngaaDoor.Pure
open Go.RowKit Go.Proofs.YthpecpkncifngaaDoor.X Go.Proofs.YthpecpkncifngaaDoorW.PrintWords Go.Proofs.YthpecpkncifngaaDoorW.PrintLast Go.Proofs.YthpecpkncifngaaDoorW.PrintMore
open Go.Proofs.YthpecpkncifngaaDoor
theorem join_eq (l : List (List UInt8)) : Lib.join l [47] = Nm.joinT l := by
  induction l with
  | nil => rfl
  | cons x l ih =>
    cases l with
    | nil => simp [Lib.join, List.intercalate, Nm.joinT]
    | cons y r =>
      simp only [Lib.join, List.intercalate, List.intersperse] at ih ⊢
      simp only [Nm.joinT]
      rw [← ih]
      simp
end Go.Proofs.YthpecpkncifngaaDoor.Pure
end

/- Plain words on paths: the order of paths is one, and what is beneath a path stands right behind it. -/
section
namespace Go.Proofs.YthpecpkncifngaaDoor.Nm
theorem bl_irrefl : ∀ x : List UInt8, Op.bytesLess x x = false
  | [] => rfl
  | a :: x => by
    simp only [Op.bytesLess, bl_irrefl x, Bool.and_false, Bool.or_false, decide_eq_false_iff_not]
    exact fun h => by rw [UInt8.lt_iff_toNat_lt] at h; omega
theorem bl_trans : ∀ x y z : List UInt8, Op.bytesLess x y = true → Op.bytesLess y z = true → Op.bytesLess x z = true
  | [], _, [], _, h => by cases ‹List UInt8› <;> simp [Op.bytesLess] at h
  | [], _, _ :: _, _, _ => rfl
  | _ :: _, [], _, h, _ => by simp [Op.bytesLess] at h
  | _ :: _, _ :: _, [], _, h => by simp [Op.bytesLess] at h
  | a :: x, b :: y, c :: z, h1, h2 => by
    simp only [Op.bytesLess, Bool.or_eq_true, decide_eq_true_eq, Bool.and_eq_true, beq_iff_eq] at h1 h2 ⊢
    rcases h1 with h1 | ⟨rfl, h1⟩
    · rcases h2 with h2 | ⟨rfl, h2⟩
      · left; rw [UInt8.lt_iff_toNat_lt] at *; omega
      · left; exact h1
    · rcases h2 with h2 | ⟨rfl, h2⟩
      · left; exact h2
      · right; exact ⟨rfl, bl_trans x y z h1 h2⟩
theorem bl_asymm {x y : List UInt8} (h : Op.bytesLess x y = true) : Op.bytesLess y x = false := by
  cases h2 : Op.bytesLess y x with
  | false => rfl
  | true => have := bl_trans _ _ _ h h2; rw [bl_irrefl] at this; exact this.symm
theorem bl_tri (x y : List UInt8) : x = y ∨ Op.bytesLess x y = true ∨ Op.bytesLess y x = true := by
  cases h1 : Op.bytesLess x y with
  | true => exact .inr (.inl rfl)
  | false =>
    cases h2 : Op.bytesLess y x with
    | true => exact .inr (.inr rfl)
    | false =>
      left
      have := bytesLess_swap x y
      rw [h2, h1] at this
      simpa using this
theorem cmp_cons (x : List UInt8) (a : List (List UInt8)) (y : List UInt8) (b : List (List UInt8)) : cmpL (x :: a) (y :: b) = if x = y then cmpL a b else if Op.bytesLess x y = true then -1 else 1 := by
  simp only [cmpL]
  rcases bl_tri x y with h | h | h
  · subst h; rw [bl_irrefl]; simp
  · rw [if_pos h, if_neg (fun e => by rw [e, bl_irrefl] at h; simp at h), if_pos h]
  · rw [if_neg (by rw [bl_asymm h]; simp), if_pos h, if_neg (fun e => by rw [e, bl_irrefl] at h; simp at h), if_neg (by rw [bl_asymm h]; simp)]
theorem cmp_self : ∀ x : List (List UInt8), cmpL x x = 0
  | [] => rfl
  | x :: a => by rw [cmp_cons, if_pos rfl, cmp_self a]
theorem cmp_vals : ∀ x y : List (List UInt8), cmpL x y = -1 ∨ cmpL x y = 0 ∨ cmpL x y = 1
  | [], [] => .inr (.inl rfl)
  | [], _ :: _ => .inl rfl
  | _ :: _, [] => .inr (.inr rfl)
  | x :: a, y :: b => by
    rw [cmp_cons]
    split
    · exact cmp_vals a b
    · split <;> simp
theorem cmp_neg : ∀ x y : List (List UInt8), cmpL y x = - cmpL x y
  | [], [] => rfl
  | [], _ :: _ => rfl
  | _ :: _, [] => rfl
  | x :: a, y :: b => by
    rw [cmp_cons, cmp_cons]
    by_cases h : x = y
    · rw [if_pos h, if_pos h.symm, cmp_neg a b]
    · rw [if_neg h, if_neg (fun e => h e.symm)]
      rcases bl_tri x y with h1 | h1 | h1
      · exact absurd h1 h
      · rw [if_pos h1, if_neg (by rw [bl_asymm h1]; simp)]; rfl
      · rw [if_pos h1, if_neg (by rw [bl_asymm h1]; simp)]
theorem cmp_zero : ∀ x y : List (List UInt8), cmpL x y = 0 → x = y
  | [], [], _ => rfl
  | [], _ :: _, h => by simp [cmpL] at h
  | _ :: _, [], h => by simp [cmpL] at h
  | x :: a, y :: b, h => by
    rw [cmp_cons] at h
    split at h
    · rename_i e; rw [e, cmp_zero a b h]
    · split at h <;> simp at h
theorem cmp_lt_trans : ∀ x y z : List (List UInt8), cmpL x y = -1 → cmpL y z = -1 → cmpL x z = -1
  | [], [], _, h, _ => by simp [cmpL] at h
  | _ :: _, [], _, h, _ => by simp [cmpL] at h
  | _, _ :: _, [], _, h => by simp [cmpL] at h
  | [], _ :: _, _ :: _, _, _ => rfl
  | x :: a, y :: b, z :: c, h1, h2 => by
    rw [cmp_cons] at h1 h2 ⊢
    by_cases e1 : x = y
    · rw [if_pos e1] at h1
      subst e1
      by_cases e2 : x = z
      · rw [if_pos e2] at h2 ⊢; exact cmp_lt_trans a b c h1 h2
      · rw [if_neg e2] at h2 ⊢; exact h2
    · rw [if_neg e1] at h1
      have b1 : Op.bytesLess x y = true := by
        cases hb : Op.bytesLess x y with
        | true => rfl
        | false => rw [hb] at h1; simp at h1
      by_cases e2 : y = z
      · subst e2; rw [if_neg e1, if_pos b1]
      · rw [if_neg e2] at h2
        have b2 : Op.bytesLess y z = true := by
          cases hb : Op.bytesLess y z with
          | true => rfl
          | false => rw [hb] at h2; simp at h2
        have b3 := bl_trans _ _ _ b1 b2
        rw [if_neg (fun e => by rw [e, bl_irrefl] at b3; simp at b3), if_pos b3]
theorem cmp_le_trans {x y z : List (List UInt8)} (h1 : cmpL x y ≤ 0) (h2 : cmpL y z ≤ 0) : cmpL x z ≤ 0 := by
  rcases cmp_vals x y with e1 | e1 | e1
  · rcases cmp_vals y z with e2 | e2 | e2
    · rw [cmp_lt_trans _ _ _ e1 e2]; omega
    · rw [← cmp_zero _ _ e2, e1]; omega
    · omega
  · rw [cmp_zero _ _ e1]; exact h2
  · omega
theorem cmp_lt_le {x y z : List (List UInt8)} (h1 : cmpL x y < 0) (h2 : cmpL y z ≤ 0) : cmpL x z < 0 := by
  rcases cmp_vals x y with e1 | e1 | e1
  · rcases cmp_vals y z with e2 | e2 | e2
    · rw [cmp_lt_trans _ _ _ e1 e2]; omega
    · rw [← cmp_zero _ _ e2, e1]; omega
    · omega
  · omega
  · omega
theorem cmp_begins : ∀ (x r : List (List UInt8)), r ≠ [] → cmpL x (x ++ r) = -1
  | [], [], h => absurd rfl h
  | [], _ :: _, _ => rfl
  | x :: a, r, h => by rw [List.cons_append, cmp_cons, if_pos rfl, cmp_begins a r h]
theorem cmp_between : ∀ (x y r : List (List UInt8)), cmpL x y < 0 → cmpL y (x ++ r) < 0 → ∃ s, s ≠ [] ∧ y = x ++ s
  | [], [], _, h, _ => by simp [cmpL] at h
  | [], y :: b, _, _, _ => ⟨y :: b, by simp, rfl⟩
  | _ :: _, [], _, h, _ => by simp [cmpL] at h
  | x :: a, y :: b, r, h1, h2 => by
    rw [List.cons_append, cmp_cons] at h2
    rw [cmp_cons] at h1
    by_cases e : x = y
    · subst e
      rw [if_pos rfl] at h1 h2
      obtain ⟨s, hs, rfl⟩ := cmp_between a b r h1 h2
      exact ⟨s, hs, rfl⟩
    · rw [if_neg e] at h1
      rw [if_neg (fun e' => e e'.symm)] at h2
      have b1 : Op.bytesLess x y = true := by
        cases hb : Op.bytesLess x y with
        | true => rfl
        | false => rw [hb] at h1; simp at h1
      rw [if_neg (by rw [bl_asymm b1]; simp)] at h2
      simp at h2
end Go.Proofs.YthpecpkncifngaaDoor.Nm
end

/- The reference's Check, told by the same plain words as the program's. -/
section
namespace Go.Proofs.YthpecpkncifngaaDoor.X
open Go.RowKit Go.Shelf Go.Proofs.YthpecpkncifngaaDoor Go.Proofs.YthpecpkncifngaaDoorW.PrintWords Go.Proofs.YthpecpkncifngaaDoorW.PrintLast Go.Proofs.YthpecpkncifngaaDoorW.PrintMore Go.Proofs.YthpecpkncifngaaDoor.Pure
theorem rises {xs : List S26} {k : Nat} (h : ∀ j, j < k → stepP xs j = 0) : ∀ (j i : Nat), i < j → j < k → Nm.cmpL (Nm.texts (rd_T26 xs i).f0.data.toList) (Nm.texts (rd_T26 xs j).f0.data.toList) = -1 := by
  have one : ∀ j : Nat, j + 1 < k → Nm.cmpL (Nm.texts (rd_T26 xs j).f0.data.toList) (Nm.texts (rd_T26 xs (j + 1 : Nat)).f0.data.toList) = -1 := by
    intro j hj
    have hs := h (j + 1) hj
    have hm : mayP (rd_T26 xs (j + 1 : Nat)) = 0 := by
      by_cases hm : mayP (rd_T26 xs (j + 1 : Nat)) = 0
      · exact hm
      · rw [step1 hm] at hs; exact hs
    by_cases hc : 0 ≤ cmpA xs (j + 1)
    · rw [step2 hm ⟨by omega, hc⟩] at hs; simp at hs
    · unfold cmpA at hc
      rw [Nat.add_sub_cancel] at hc
      rcases Nm.cmp_vals (Nm.texts (rd_T26 xs j).f0.data.toList) (Nm.texts (rd_T26 xs (j + 1 : Nat)).f0.data.toList) with e | e | e <;> omega
  intro j
  induction j with
  | zero => intro i hi; omega
  | succ j ih =>
    intro i hi hj
    rcases Nat.lt_or_ge i j with hlt | hge
    · exact Nm.cmp_lt_trans _ _ _ (ih i hlt (by omega)) (one j hj)
    · obtain rfl : i = j := by omega
      exact one i hj
theorem apart {xs : List S26} {k : Nat} (h : ∀ j, j < k → stepP xs j = 0) {i j : Nat} (hi : i < k) (hj : j < k) (e : (rd_T26 xs i).f0 = (rd_T26 xs j).f0) : i = j := by
  rcases Nat.lt_trichotomy i j with hl | hl | hl
  · have := rises h j i hl hj
    rw [e, Nm.cmp_self] at this; simp at this
  · exact hl
  · have := rises h i j hl hi
    rw [e, Nm.cmp_self] at this; simp at this
theorem kd_some (xs : List S26) (s : ByteArray) (K : Int) (h0 : K ≠ 0) : ∀ k, kd xs k s = K → ∃ i, i < k ∧ (rd_T26 xs i).f0 = s ∧ (rd_T26 xs i).f1 = K
  | 0, h => absurd h.symm h0
  | k + 1, h => by
    simp only [kd] at h
    split at h
    · rename_i hk
      exact ⟨k, by omega, hk, h⟩
    · obtain ⟨i, hi, h1⟩ := kd_some xs s K h0 k h
      exact ⟨i, by omega, h1⟩
end Go.Proofs.YthpecpkncifngaaDoor.X
end

/- The contract of tree.With. -/
section
namespace Go.Proofs.YthpecpkncifngaaDoor.X
open Go Go.RowKit Go.Shelf Go.Proofs.YthpecpkncifngaaDoor Go.Proofs.YthpecpkncifngaaDoorW.PrintWords Go.Proofs.YthpecpkncifngaaDoorW.PrintLast Go.Proofs.YthpecpkncifngaaDoorW.PrintMore Go.Proofs.YthpecpkncifngaaDoor.Pure
theorem chk_all {xs : List S26} (d : Nat) : ∀ i : Nat, xs.length - i = d → i ≤ xs.length → (chkP xs i).2 = 0 → ∀ j, i ≤ j → j < xs.length → stepP xs j = 0 := by
  induction d with
  | zero => intro i hd hi h j h1 h2; omega
  | succ d ih =>
    intro i hd hi h j h1 h2
    have hlt : i < xs.length := by omega
    by_cases hs : stepP xs i = 0
    · rw [chkP_go hlt hs] at h
      rcases Nat.eq_or_lt_of_le h1 with e | e
      · rw [← e]; exact hs
      · exact ih (i + 1) (by omega) (by omega) h j e h2
    · rw [chkP_stop hlt rfl hs] at h
      exact absurd h hs
theorem chk_ok {xs : List S26} (h : (checkP xs).2 = 0) : xs.length ≤ 256 ∧ ∀ j, j < xs.length → stepP xs j = 0 := by
  unfold checkP at h
  split at h
  · simp at h
  · exact ⟨by omega, fun j hj => chk_all _ 0 rfl (Nat.zero_le _) h j (Nat.zero_le _) hj⟩
theorem step_may {xs : List S26} {j : Nat} (h : stepP xs j = 0) : mayP (rd_T26 xs j) = 0 := by
  by_cases hm : mayP (rd_T26 xs j) = 0
  · exact hm
  · rw [step1 hm] at h; exact h
theorem chk_rise {xs : List S26} (h : (checkP xs).2 = 0) : xs.Pairwise (fun a b => cmpI a b = -1) ∧ ∀ x ∈ xs, mayP x = 0 := by
  obtain ⟨_, hs⟩ := chk_ok h
  constructor
  · rw [List.pairwise_iff_getElem]
    intro i j hi hj hij
    have := rises hs j i hij hj
    rw [rd_get xs i hi, rd_get xs j hj] at this
    exact this
  · intro x hx
    obtain ⟨i, hi, rfl⟩ := List.getElem_of_mem hx
    have := step_may (hs i hi)
    rwa [rd_get xs i hi] at this
theorem keepP_filter (p : S26 → Bool) (xs : List S26) : ∀ k, k ≤ xs.length → keepP p xs k = (xs.take k).filter p
  | 0, _ => rfl
  | k + 1, h => by
    have ih := keepP_filter p xs k (by omega)
    rw [keepP, rd_get xs k (by omega), List.take_add_one, List.getElem?_eq_getElem (by omega), List.filter_append, ih]
    by_cases hp : p xs[k] = true
    · rw [if_pos hp]; simp [hp]
    · rw [if_neg hp]; simp [hp]
theorem keepP_all (p : S26 → Bool) (xs : List S26) : keepP p xs xs.length = xs.filter p := by
  rw [keepP_filter p xs _ (Nat.le_refl _), List.take_length]
end Go.Proofs.YthpecpkncifngaaDoor.X
end

/- The contracts of slices.SortStableFunc at items by byPath, and of tree.Sort. -/
section
namespace Go.Proofs.YthpecpkncifngaaDoor.X
open Go Go.RowKit Go.Shelf Go.Proofs.YthpecpkncifngaaDoor Go.Proofs.YthpecpkncifngaaDoorW.PrintWords Go.Proofs.YthpecpkncifngaaDoorW.PrintLast Go.Proofs.YthpecpkncifngaaDoorW.PrintMore Go.Proofs.YthpecpkncifngaaDoor.Pure
theorem lays6 : So.Lays Tryd.prog 6 where
  mixed := by kernel_rfl
  fswap := Tryd.func131
  frot := Tryd.func124
  fsym := Tryd.func110
  fst := Tryd.func94
  fins := enters_of Tryd.func109 (by decide) rfl
  t0 := Tryd.underlying0
  a0 := Tryd.isAgg0
  z0 := Tryd.sizeOf0
  v0 := Tryd.zeroValue0
  t3 := Tryd.underlying3
  a3 := Tryd.isAgg3
  z3 := Tryd.sizeOf3
  v3 := Tryd.zeroValue3
  t104 := Tryd.underlying104
  t4 := Tryd.underlying4
  a4 := Tryd.isAgg4
  z4 := Tryd.sizeOf4
  v4 := Tryd.zeroValue4
  t22 := Tryd.underlying22
  a22 := Tryd.isAgg22
  z22 := Tryd.sizeOf22
  v22 := Tryd.zeroValue22
  aE := Tryd.isAgg26
  zE := Tryd.sizeOf26
def ren20 : Shelf.Ren := ⟨fun _ => 109, fun n => if n = 22 then 22 else if n = 24 then 26 else if n = 25 then 81 else n, fun n => n⟩
theorem lays20 : SlLaysF0.n20 Tryd.prog ren20 where
  mixed := by kernel_rfl
  f20 := ⟨"slices.insertionSortCmpFunc[tabulary/api.Item]", by decide, Tryd.func109.trans (congrArg some (by kernel_rfl))⟩
  t0 := Tryd.underlying0
  a0 := Tryd.isAgg0
  z0 := Tryd.sizeOf0
  v0 := Tryd.zeroValue0
  t3 := Tryd.underlying3
  a3 := Tryd.isAgg3
  z3 := Tryd.sizeOf3
  v3 := Tryd.zeroValue3
  t4 := Tryd.underlying4
  a4 := Tryd.isAgg4
  z4 := Tryd.sizeOf4
  v4 := Tryd.zeroValue4
  t22 := Tryd.underlying22
  a22 := Tryd.isAgg22
  z22 := Tryd.sizeOf22
  v22 := Tryd.zeroValue22
  t25 := Tryd.underlying81
  a25 := Tryd.isAgg81
  z25 := Tryd.sizeOf81
  v25 := Tryd.zeroValue81
def Cel : Type := { p : S26 × Option Addr × Nat // p.1.f0.size ≤ 140737488355328 }
instance : Inhabited Cel := ⟨⟨(⟨⟨#[]⟩, 0, 0, 0, [], ⟨#[]⟩⟩, none, 0), by decide⟩⟩
def Cel.it (z : Cel) : S26 := z.1.1
def encC (z : Cel) : List Value := (cellsIt z.1.1 z.1.2.1 z.1.2.2).toList
def cfC (x y : Cel) : Int := cmpI x.it y.it
theorem encC_len (z : Cel) : (encC z).length = 6 := rfl
theorem encC_one (z : Cel) : ∀ v ∈ encC z, v.oneCell' = true := by
  intro v hv
  simp only [encC, cellsIt, List.mem_cons, List.not_mem_nil, or_false] at hv
  rcases hv with rfl | rfl | rfl | rfl | rfl | rfl <;> rfl
theorem lt_cfC (x y : Cel) : ltOf cfC x y = true ↔ cmpI x.it y.it < 0 := decide_eq_true_iff
theorem nlt_cfC (x y : Cel) : ltOf cfC x y = false ↔ 0 ≤ cmpI x.it y.it := decide_eq_false_iff_not.trans Int.not_lt
theorem cmpI_neg (x y : S26) : cmpI y x = - cmpI x y := Nm.cmp_neg _ _
theorem wo_cfC : So.Wo (ltOf cfC) where
  irr x := (nlt_cfC x x).2 (by unfold cmpI; rw [Nm.cmp_self]; exact Int.le_refl _)
  tr x y z h1 h2 := (lt_cfC x z).2 (Nm.cmp_lt_le ((lt_cfC x y).1 h1) (by have := (lt_cfC y z).1 h2; unfold cmpI at this; omega))
  nt x y z h1 h2 := by
    have e1 := (nlt_cfC x y).1 h1
    have e2 := (nlt_cfC y z).1 h2
    refine (nlt_cfC x z).2 ?_
    have n1 := cmpI_neg x.it y.it
    have n2 := cmpI_neg y.it z.it
    have n3 := cmpI_neg x.it z.it
    have : cmpI z.it x.it ≤ 0 := Nm.cmp_le_trans (y := Nm.texts y.it.f0.data.toList) (by show cmpI z.it y.it ≤ 0; omega) (by show cmpI y.it x.it ≤ 0; omega)
    omega
theorem bypath_grows (x y : S26) (A4 B4 : Option Addr) (c4 d4 : Nat) (w : World) (hx : x.f0.size ≤ 140737488355328) (hy : y.f0.size ≤ 140737488355328) :
    Calls Tryd.prog 53 #[.agg (cellsIt x A4 c4), .agg (cellsIt y B4 d4)] w fun e w' => e = .returned (.int .i64 (cmpI x y)) ∧ ∃ q os, w' = Sort.grow (w.drewN q) os := by
  unfold cellsIt
  go_enter Tryd.func53, Tryd.ntmps53
  go_wp2_with fail
  refine (compare_any _ _ _ hx hy).mono ?_
  rintro e w1 ⟨rfl, n, rfl⟩
  go_wp2
  go_ret
  refine ⟨rfl, n, #[.cells #[.string x.f0, .int .u8 x.f1, .int .i64 x.f2, .int .i64 x.f3, .slice A4 x.f4.length c4, .string x.f5] 26] ++ #[.cells #[.string y.f0, .int .u8 y.f1, .int .i64 y.f2, .int .i64 y.f3, .slice B4 y.f4.length d4, .string y.f5] 26], ?_⟩
  rw [← Sort.grow_grow, ← Sort.alloc_eq_grow, ← Sort.alloc_eq_grow]
  rfl
theorem cmpLays (blk off size : Nat) (w : World) : CmpLays Tryd.prog 53 #[] encC 6 cfC blk off size w := fun m os dk hdk x y =>
  (bypath_grows x.it y.it x.1.2.1 y.1.2.1 x.1.2.2 y.1.2.2 _ x.2 y.2).mono fun e w' h => h
theorem insertsTo (blk off cap : Nat) (d0 : Array Cel) (w0 : World) (size : Nat) (R : RowK encC 6 w0 blk off d0) (hs : d0.size = size) (hsz : size < 1152921504606846976) : So.InsertsTo Tryd.prog encC 6 cfC 53 #[] blk off cap w0 size := by
  intro a b d w A X B hds S hd ha hb
  subst hds
  have eg : ∀ args w, (callFunc 53 args).run Tryd.prog w = .ok (.enter 53 args) w := enters_of Tryd.func53 (by decide) rfl
  have hdl : d.size = A.length + X.length + B.length := by rw [← Array.length_toList, hd]; simp; omega
  have h := AnyQ.insertionSortCmpFunc lays20 6 Tryd.isAgg26 Tryd.sizeOf26 encC encC_len encC_one cfC 53 #[] blk off cap a b d w eg (cmpLays _ _ _ _) (S.holds R.hblk R.hH hs.symm) (S.lt R.hblk) (by omega) (by omega) (by omega)
  refine h.mono ?_
  rintro e w' ⟨rfl, n, os, rfl⟩
  have hl := So.insertion_list (A := A) (X := X) (B := B) (a := a) (b := b) wo_cfC hd ha (by rw [hb, ha])
  have hz : (Sort.insertionSort (ltOf cfC) d a b).size = d.size := by rw [← Array.length_toList, hl, List.length_append, List.length_append, So.isort_len]; omega
  exact ⟨rfl, _, hz, hl, S.on R.hblk n _ os hz⟩
theorem sortStable_any (g cap : Nat) (d : Array Cel) (w : World) (hH : Sort.HoldsK encC 6 w g 0 d) (hg : g < w.heap.size) (hsz : d.size < 1152921504606846976) (hcap : d.size ≤ cap) :
    Calls Tryd.prog 68 #[.slice (some ⟨g, 0, none⟩) d.size cap, .func (.func 53) #[] #[]] w fun e w' =>
      e = .returned (.tuple #[]) ∧ ∃ dk : Array Cel, dk.size = d.size ∧ dk.toList = So.isort (ltOf cfC) d.toList ∧ SWK encC 6 w g 0 dk w' := by
  have eg : ∀ args w, (callFunc 53 args).run Tryd.prog w = .ok (.enter 53 args) w := enters_of Tryd.func53 (by decide) rfl
  have R : RowK encC 6 w g 0 d := ⟨encC_len, encC_one, hH, hg⟩
  have h := So.stable_any lays6 encC cfC 53 #[] g 0 cap d d w w wo_cfC eg (cmpLays _ _ _ _) R rfl (SWK.start hH) hsz (insertsTo g 0 cap d w d.size R rfl hsz)
  generalize d.size = n at h ⊢
  generalize d.toList = l at h ⊢
  clear R hH eg
  go_enter Tryd.func68, Tryd.ntmps68
  go_wp2_with fail
  refine h.mono ?_
  rintro e w1 ⟨rfl, hr⟩
  have HR := Aside0.mk hr
  clear hr h
  go_wp2_with fail
  go_end0
  exact ⟨rfl, HR.out⟩
theorem insertion_nil (A : Option Addr) (c : Nat) (w : World) :
    Calls Tryd.prog 109 #[.slice A 0 c, .int .i64 0, .int .i64 0, .func (.func 53) #[] #[]] w fun e w' => e = .returned (.tuple #[]) ∧ w' = w := by
  go_enter Tryd.func109, Tryd.ntmps109
  go_wp2
  go_loopw [8] (fun i wr => i = .int .i64 1 ∧ wr = w) (fun _ _ => 0)
  case atStart => exact ⟨rfl, rfl⟩
  case round =>
    obtain ⟨rfl, rfl⟩ := hrel
    go_wp2
    go_end0
    exact ⟨rfl, rfl⟩
theorem stable_nil (A : Option Addr) (c : Nat) (w : World) :
    Calls Tryd.prog 94 #[.slice A 0 c, .int .i64 0, .func (.func 53) #[] #[]] w fun e w' => e = .returned (.tuple #[]) ∧ w' = w := by
  go_enter Tryd.func94, Tryd.ntmps94
  go_wp2
  go_loopw [7, 8] (fun a b wr => a = .int .i64 0 ∧ b = .int .i64 20 ∧ wr = w) (fun _ _ _ => 0)
  case atStart => exact ⟨rfl, rfl, rfl⟩
  case round =>
    obtain ⟨rfl, rfl, rfl⟩ := hrel
    go_wp2_with fail
    refine (insertion_nil A c _).mono ?_
    rintro e w1 ⟨rfl, rfl⟩
    go_wp2
    go_loopw [6] (fun s wr => s = .int .i64 20 ∧ wr = w1) (fun _ _ => 0)
    case atStart => exact ⟨rfl, rfl⟩
    case round =>
      obtain ⟨rfl, rfl⟩ := hrel
      go_wp2
      go_end0
      exact ⟨rfl, rfl⟩
theorem sortStable_nil (A : Option Addr) (c : Nat) (w : World) :
    Calls Tryd.prog 68 #[.slice A 0 c, .func (.func 53) #[] #[]] w fun e w' => e = .returned (.tuple #[]) ∧ w' = w := by
  go_enter Tryd.func68, Tryd.ntmps68
  go_wp2_with fail
  refine (stable_nil A c _).mono ?_
  rintro e w1 ⟨rfl, rfl⟩
  go_wp2
  go_end0
  exact ⟨rfl, rfl⟩
end Go.Proofs.YthpecpkncifngaaDoor.X
end

/- The contract of tree.Sort: the list stably sorted, in new memory. -/
section
namespace Go.Proofs.YthpecpkncifngaaDoor.X
open Go Go.RowKit Go.Shelf Go.Proofs.YthpecpkncifngaaDoor Go.Proofs.YthpecpkncifngaaDoorW.PrintWords Go.Proofs.YthpecpkncifngaaDoorW.PrintLast Go.Proofs.YthpecpkncifngaaDoorW.PrintMore Go.Proofs.YthpecpkncifngaaDoor.Pure
def ltI (x y : S26) : Bool := decide (cmpI x y < 0)
theorem isort_it : ∀ zs : List Cel, (So.isort (ltOf cfC) zs).map Cel.it = So.isort ltI (zs.map Cel.it)
  | [] => rfl
  | z :: zs => by
    have ins : ∀ ys : List Cel, (So.insF (ltOf cfC) z ys).map Cel.it = So.insF ltI z.it (ys.map Cel.it) := by
      intro ys
      induction ys with
      | nil => rfl
      | cons y ys ih =>
        have e : ltOf cfC y z = ltI y.it z.it := rfl
        simp only [So.insF, List.map_cons, e]
        split
        · rw [List.map_cons, ih]
        · rfl
    rw [List.map_cons, So.isort, So.isort, ins, isort_it zs]
theorem cels_of {w : World} {ok : Nat → Prop} : ∀ (xs : List S26) (rows : List (List Value)), rows.length = xs.length → (∀ (j : Nat) (x : S26) (c : List Value), xs[j]? = some x → rows[j]? = some c → Kd.FK k26 w ok x c) → (∀ x ∈ xs, x.f0.size ≤ 140737488355328) →
    ∃ zs : List Cel, zs.map Cel.it = xs ∧ zs.map encC = rows ∧ ∀ z ∈ zs, Kd.FK k26 w ok z.it (encC z)
  | [], [], _, _, _ => ⟨[], rfl, rfl, fun z hz => by cases hz⟩
  | [], _ :: _, h, _, _ => by simp at h
  | _ :: _, [], h, _, _ => by simp at h
  | x :: xs, c :: rows, hl, hf, hs => by
    obtain ⟨zs, h1, h2, h3⟩ := cels_of xs rows (by simpa using hl) (fun j y d hy hd => hf (j + 1) y d (by simpa using hy) (by simpa using hd)) (fun y hy => hs y (List.mem_cons_of_mem _ hy))
    have hx := hf 0 x c rfl rfl
    obtain ⟨A4, c4, rfl, hl4, hF4⟩ := k26_openF hx
    have hsx := hs x (List.mem_cons_self ..)
    obtain ⟨q, hq1, hq2⟩ : ∃ q : Cel, q.it = x ∧ encC q = [.string x.f0, .int .u8 x.f1, .int .i64 x.f2, .int .i64 x.f3, .slice A4 x.f4.length c4, .string x.f5] := ⟨⟨(x, A4, c4), hsx⟩, rfl, rfl⟩
    refine ⟨q :: zs, by rw [List.map_cons, h1, hq1], by rw [List.map_cons, h2, hq2], fun z hz => ?_⟩
    rcases List.mem_cons.1 hz with rfl | hz
    · rw [hq1, hq2]; exact hx
    · exact h3 z hz
open Go.Sort in
theorem swk_heap {α : Type} [Inhabited α] {enc : α → List Value} {k : Nat} {w w' : World} {g : Nat} {dk : Array α} (h : SWK enc k w g 0 dk w') : w'.os = w.os ∧ w'.tape = w.tape ∧ w'.output = w.output ∧ w.heap.size ≤ w'.heap.size ∧ (∀ b, b < w.heap.size → b ≠ g → w'.heap[b]? = w.heap[b]?) ∧
    (∀ cur t fr, w.heap[g]? = some (.cells cur t fr) → w'.heap[g]? = some (.cells (putCells id 0 (flatK enc k dk) cur) t fr)) := by
  obtain ⟨n, os, rfl⟩ := h
  unfold sortWorldK putRowK putRow mapBlock grow
  refine ⟨rfl, rfl, rfl, by simp, fun b hb hne => ?_, fun cur t fr hc => ?_⟩
  · show (Array.modify _ _ _ ++ os)[b]? = _
    rw [Array.getElem?_append_left (by simpa using hb), Array.getElem?_modify, if_neg (Ne.symm hne)]
    rfl
  · show (Array.modify _ _ _ ++ os)[g]? = _
    have hg : g < w.heap.size := blk_lt hc
    rw [Array.getElem?_append_left (by simpa using hg), Array.getElem?_modify, if_pos rfl]
    show Option.map _ w.heap[g]? = _
    rw [hc]; rfl
open Go.Sort in
theorem putCells_take {α : Type} [Inhabited α] {enc : α → List Value} {k : Nat} (dk : Array α) (cur : Array Value) (h : dk.size * k ≤ cur.size) : (putCells id 0 (flatK enc k dk) cur).size = cur.size ∧ (putCells id 0 (flatK enc k dk) cur).toList.take (dk.size * k) = (flatK enc k dk).toList := by
  refine ⟨by simp [putCells], List.ext_getElem? fun i => ?_⟩
  rw [List.getElem?_take]
  split
  · rename_i hi
    have hf : i < (flatK enc k dk).size := by rw [size_flatK]; exact hi
    rw [Array.getElem?_toList, Array.getElem?_toList, Array.getElem?_eq_getElem hf]
    simp only [putCells, Array.getElem?_mapIdx]
    rw [Array.getElem?_eq_getElem (by omega), Option.map_some, if_pos ⟨Nat.zero_le _, by omega⟩, Nat.sub_zero, getElem!_pos _ i hf]
    rfl
  · rename_i hi
    rw [List.getElem?_eq_none]
    rw [Array.length_toList, size_flatK]; omega
open Go.Sort in
theorem reps_flat {α : Type} [Inhabited α] {enc : α → List Value} {k : Nat} (hk : ∀ x, (enc x).length = k) (h1 : ∀ x, ∀ v ∈ enc x, v.oneCell' = true) (w : World) (dk : Array α) : Reps ((Kd.raw k).K w) k (dk.toList.map enc) (flatK enc k dk).toList := by
  refine ⟨by rw [Array.length_toList, size_flatK, List.length_map, Array.length_toList], fun j p hj => ?_⟩
  rw [List.getElem?_map] at hj
  obtain ⟨x, hx, rfl⟩ := Option.map_eq_some_iff.1 hj
  obtain ⟨hjl, hjx⟩ := List.getElem?_eq_some_iff.1 hx
  rw [Array.length_toList] at hjl
  have hxj : dk[j]! = x := by rw [getElem!_pos dk j hjl]; simpa using hjx
  have hb : j * k + k ≤ dk.size * k := rowK_bnd dk k j hjl
  have e : ((flatK enc k dk).toList.drop (j * k)).take k = enc x := by
   refine List.ext_getElem? fun i => ?_
   rw [List.getElem?_take, List.getElem?_drop]
   split
   · rename_i hi
     have hlt : j * k + i < (flatK enc k dk).size := by rw [size_flatK]; omega
     have e1 : (j * k + i) / k = j := (blk_iff k j _ (by omega)).1 ⟨by omega, by omega⟩
     have e2 : (j * k + i) % k = i := by rw [Nat.mod_eq_sub_div_mul, e1]; omega
     have hgf := get_flatK enc k dk (j * k + i) (by rw [size_flatK] at hlt; exact hlt)
     rw [e1, e2, hxj, getElem!_pos (flatK enc k dk) (j * k + i) hlt] at hgf
     rw [Array.getElem?_toList, Array.getElem?_eq_getElem hlt, hgf, getElem!_pos (enc x) i (by rw [hk]; exact hi)]
     exact (List.getElem?_eq_getElem _).symm
   · rename_i hi
     rw [List.getElem?_eq_none]
     rw [hk]; omega
  exact ⟨e, by rw [e]; exact hk x, by rw [e]; exact h1 x⟩
open Go.Sort in
theorem swk_own {w w' : World} {g c : Nat} {base : Nat} {ok : Nat → Prop} {zs : List Cel} {dk : Array Cel} (hbase : base ≤ g) (hN : Kd.N k26 26 w base ok (.slice (some ⟨g, 0, none⟩) zs.length c) (zs.map Cel.it)) (hf : ∀ z ∈ zs, Kd.FK k26 w (fun k => ok k ∧ some k ≠ some g) z.it (encC z))
    (hS : SWK encC 6 w g 0 dk w') (hsz : dk.size = zs.length) (hm : ∀ z ∈ dk.toList, z ∈ zs) : Kd.N k26 26 w' base ok (.slice (some ⟨g, 0, none⟩) zs.length c) (dk.toList.map Cel.it) := by
  obtain ⟨_, _, _, hws, hkeep, hrow⟩ := swk_heap hS
  obtain ⟨hokg, rows, hrl, hR, _⟩ := hN
  obtain ⟨inner, ho⟩ := Kd.R_own hR
  have hl : dk.toList.length = zs.length := by rw [Array.length_toList]; exact hsz
  have hwg : g < w.heap.size := Kd.R_lt hR g rfl
  rw [hrl, List.length_map] at ho
  refine ⟨fun k hk => ?_, dk.toList.map encC, by simp, ⟨fun k hk => hk.symm, (flatK encC 6 dk).toList, ?_, ?_⟩, fun j x cs hx hc => ?_⟩
  · have : g = k := by simpa [Value.ownBlock] using hk
    exact this ▸ hokg g rfl
  · rw [List.length_map, hl]
    obtain ⟨hil, ho⟩ := ho
    refine ⟨by rw [Array.length_toList, size_flatK, hsz]; rfl, .inr ?_⟩
    rcases ho with ⟨he, h0⟩ | ⟨g', cap, cur, he, h1, h2, h3, h4, h5, h6⟩
    · cases he
    · injection he with e1 e2 e3
      injection e1 with e1
      injection e1 with e1
      subst e1
      subst e3
      have hcs : dk.size * 6 ≤ cur.size := by
        rw [h5]
        have := Nat.mul_le_mul_right 6 h3
        rw [hsz]; exact this
      obtain ⟨p1, p2⟩ := putCells_take (enc := encC) (k := 6) dk cur hcs
      refine ⟨g, c, _, rfl, hbase, hrow cur _ _ h2, h3, h4, p1.trans h5, ?_⟩
      rw [hsz] at p2
      exact p2
  · exact reps_flat encC_len encC_one w' dk
  · rw [List.getElem?_map] at hx hc
    obtain ⟨z, hz, rfl⟩ := Option.map_eq_some_iff.1 hx
    rw [hz] at hc
    obtain rfl : encC z = cs := Option.some.inj hc
    refine Foot.step (hf z (hm z (List.mem_of_getElem? hz))) (fun k hk hlt => hkeep k hlt ?_)
    rintro rfl
    exact hk.2 rfl
theorem cels_of_N {w : World} {base g n c : Nat} {ok : Nat → Prop} {xs : List S26} (hN : Kd.N k26 26 w base ok (.slice (some ⟨g, 0, none⟩) n c) xs) (h0 : 0 < xs.length) (hs : ∀ x ∈ xs, x.f0.size ≤ 140737488355328) :
    ∃ zs : List Cel, zs.map Cel.it = xs ∧ (∀ z ∈ zs, Kd.FK k26 w (fun k => ok k ∧ some k ≠ some g) z.it (encC z)) ∧ Sort.HoldsK encC 6 w g 0 zs.toArray := by
  obtain ⟨_, rows, hrl, hR, hfk⟩ := id hN
  obtain ⟨zs, hz1, hz2, hz3⟩ := cels_of xs rows hrl hfk hs
  obtain ⟨g', cap, he, hbase, hlt, cells, hcells⟩ := Kd.N_form hN h0
  injection he with e1 e2 e3
  injection e1 with e1
  injection e1 with e1
  subst e1
  refine ⟨zs, hz1, hz3, fun t ht => ?_⟩
  rw [Sort.size_flatK] at ht
  have hj : t / 6 < zs.length := by rw [List.size_toArray] at ht; omega
  obtain ⟨ad, hae, hcell⟩ := (Kd.R_reads' hR).2.2.2.2 (by rw [hrl]; exact h0)
  injection hae with hae
  subst hae
  obtain ⟨cs, hcl, hK, hcc⟩ := hcell (t / 6) (encC zs[t / 6]) (by rw [← hz2, List.getElem?_map, List.getElem?_eq_getElem hj]; rfl)
  obtain ⟨rfl, _, _⟩ := hK
  have hc6 : t % 6 < (encC zs[t / 6]).length := by rw [encC_len]; omega
  have : w.cell? ((⟨g, 0, none⟩ : Addr).add (t / 6 * 6 + t % 6)) = _ := hcc (t % 6) _ (List.getElem?_eq_getElem hc6)
  rw [show (⟨g, 0, none⟩ : Addr).add (t / 6 * 6 + t % 6) = ⟨g, 0 + t, none⟩ by rw [Addr.add_lit]; congr 1; omega] at this
  refine ⟨?_, blk_frozen hcells _⟩
  rw [Sort.get_flatK _ _ _ _ ht, this]
  have e1 : zs.toArray[t / 6]! = zs[t / 6] := by rw [getElem!_pos _ _ (by rw [List.size_toArray]; exact hj)]; simp
  rw [e1, getElem!_pos (encC zs[t / 6]) _ hc6]
  rfl
theorem sort1_tells (w : World) : Tells 67 #[] (fun _ => true) w := by
  intro W x A4 c4 hB hl hr
  unfold cellsIt
  go_enter Tryd.func67, Tryd.ntmps67
  go_wp2
  go_ret
  exact ⟨rfl, (Below.refl _ W).alloc (Nat.le_refl _) _⟩
set_option maxRecDepth 100000 in
set_option maxHeartbeats 4000000 in
theorem sort_own (A : Option Addr) (c : Nat) (xs : List S26) (w : World) (hr : Kd.C k26 w A xs.length xs) (hm : xs.length * 80 ≤ 140737488351232) (hb4 : ∀ x ∈ xs, x.f4.length ≤ 140737488355328) (hb0 : ∀ x ∈ xs, x.f0.size ≤ 140737488355328) :
    Calls Tryd.prog 29 #[.slice A xs.length c] w fun e w' => (∃ A' c', e = .returned (.slice A' xs.length xs.length) ∧ xs.length ≤ c' ∧ Kd.N k26 26 w' w.heap.size (fun k => w.heap.size ≤ k) (.slice A' xs.length c') (So.isort ltI xs)) ∧ Below w.heap.size w w' := by
  have hcall : ∀ (args : Array Value) (W : World), (callFunc 67 args).run Tryd.prog W = .ok (.enter 67 args) W := fun args W => by kernel_rfl
  have h := some_own 67 #[] (fun _ => true) A c xs w hr hm hb4 hcall (sort1_tells w)
  have hk : keepP (fun _ => true) xs xs.length = xs := by rw [keepP_all]; simp
  rw [hk] at h
  have H0 := Aside0.mk hb0
  clear hr hb4 hb0 hcall hk
  go_enter Tryd.func29, Tryd.ntmps29
  go_wp2_with fail
  refine h.mono ?_
  rintro e w1 ⟨⟨A', c', rfl, hN⟩, hb⟩
  have hcc := (Kd.N_reads' hN).2.1
  rcases Nat.eq_zero_or_pos xs.length with h0 | h0
  · obtain rfl : xs = [] := List.eq_nil_of_length_eq_zero h0
    have HN := Aside0.mk hN
    have HB := Aside0.mk hb
    clear hN hb h
    go_wp2_with fail
    refine (sortStable_nil A' 0 _).mono ?_
    rintro e w2 ⟨rfl, rfl⟩
    go_wp2
    go_ret
    exact ⟨⟨A', c', rfl, hcc, HN.out⟩, HB.out⟩
  · obtain ⟨g, cap, he, hbase, hlt, cells, hcells⟩ := Kd.N_form hN h0
    injection he with e1 e2 e3
    subst e1
    subst e3
    obtain ⟨zs, hz1, hz3, hH⟩ := cels_of_N hN h0 H0.out
    have hzl : zs.length = xs.length := by rw [← hz1, List.length_map]
    have hds : zs.toArray.size = xs.length := by rw [List.size_toArray]; exact hzl
    have hst := sortStable_any g xs.length zs.toArray w1 hH hlt (by rw [hds]; omega) (by rw [hds]; exact Nat.le_refl _)
    rw [hds] at hst
    have HN := Aside0.mk hN
    have HB := Aside0.mk hb
    have HZ1 := Aside0.mk hz1
    have HZ3 := Aside0.mk hz3
    have HCC := Aside0.mk hcc
    clear hN hb h hz1 hz3 hH hcells hds hcc
    go_wp2_with fail
    refine hst.mono ?_
    rintro e w2 ⟨rfl, dk, hdk1, hdk2, hS⟩
    have HS := Aside0.mk hS
    have HDK := Aside0.mk hdk2
    clear hst hS hdk2
    go_wp2
    go_ret
    have hS := HS.out
    have hst := So.isort_stab (lt := ltOf cfC) wo_cfC zs
    have hres := swk_own (dk := dk) hbase (by rw [HZ1.out, hzl]; exact HN.out) HZ3.out hS (by rw [hdk1, hzl]) (fun z hz => by rw [HDK.out] at hz; exact (hst.symm).mem wo_cfC hz)
    have hit : dk.toList.map Cel.it = So.isort ltI xs := by rw [HDK.out, isort_it]; exact congrArg _ HZ1.out
    rw [hit, hzl] at hres
    refine ⟨⟨_, _, rfl, HCC.out, hres⟩, ?_⟩
    obtain ⟨q1, q2, q3, q4, q5, _⟩ := swk_heap hS
    exact HB.out.trans ⟨q1, q2, q3, q4, fun k hk => q5 k (by have := HB.out.size; omega) (by omega)⟩
end Go.Proofs.YthpecpkncifngaaDoor.X
end

/- Plain words on paths: parts that are not empty and have no stroke; what is joined of them is parted again. -/
section
namespace Go.Proofs.YthpecpkncifngaaDoor.Nm
def Pt (x : List UInt8) : Prop := x ≠ [] ∧ (47 : UInt8) ∉ x
def Good (L : List (List UInt8)) : Prop := ∀ x ∈ L, Pt x
theorem Good.nil : Good [] := fun x h => by cases h
theorem Good.cons {x : List UInt8} {L : List (List UInt8)} (h : Pt x) (hL : Good L) : Good (x :: L) := fun y hy => by
  rcases List.mem_cons.1 hy with rfl | hy
  · exact h
  · exact hL y hy
theorem Good.append {a b : List (List UInt8)} (ha : Good a) (hb : Good b) : Good (a ++ b) := fun x hx => (List.mem_append.1 hx).elim (ha x) (hb x)
theorem Good.head {x : List UInt8} {L : List (List UInt8)} (h : Good (x :: L)) : Pt x := h x (by simp)
theorem Good.tail {x : List UInt8} {L : List (List UInt8)} (h : Good (x :: L)) : Good L := fun y hy => h y (List.mem_cons_of_mem _ hy)
theorem Good.sub {a b : List (List UInt8)} (h : Good b) (hs : ∀ x ∈ a, x ∈ b) : Good a := fun x hx => h x (hs x hx)
theorem pc_ns : ∀ (l : List UInt8) (p : Nat), (47 : UInt8) ∉ (pc p l).1 ∧ ∀ x ∈ (pc p l).2, (47 : UInt8) ∉ x.2
  | [], _ => by simp [pc]
  | c :: l, p => by
    have h := pc_ns l (p + 1)
    by_cases hc : c = 47
    · simp only [pc, hc, if_true, List.mem_cons]
      refine ⟨by simp, ?_⟩
      rintro x (rfl | hx)
      · exact h.1
      · exact h.2 x hx
    · simp only [pc, hc, if_false, List.mem_cons, not_or]
      exact ⟨⟨fun e => hc e.symm, h.1⟩, h.2⟩
theorem texts_ns (l : List UInt8) : ∀ x ∈ texts l, (47 : UInt8) ∉ x := by
  intro x hx
  obtain ⟨y, hy, rfl⟩ := List.mem_map.1 hx
  rcases List.mem_cons.1 hy with rfl | hy
  · exact (pc_ns l 0).1
  · exact (pc_ns l 0).2 y hy
theorem bad_none_ne {l : List UInt8} (h : bad l = none) : l ≠ [] := by
  rintro rfl
  simp [bad] at h
theorem check_good {l : List UInt8} (h : (check l).2 = 0) : Good (texts l) := fun x hx => ⟨bad_none_ne (((check_ok l).1 h).2 x hx), texts_ns l x hx⟩
theorem texts_one {x : List UInt8} (h : (47 : UInt8) ∉ x) : texts x = [x] := by
  have : ∀ (l : List UInt8) (p : Nat), (47 : UInt8) ∉ l → pc p l = (l, []) := by
    intro l
    induction l with
    | nil => intro p _; rfl
    | cons c l ih =>
      intro p hl
      have hc : ¬ c = 47 := fun e => hl (by rw [e]; exact List.mem_cons_self ..)
      simp only [pc, hc, if_false, ih (p + 1) (fun h => hl (List.mem_cons_of_mem _ h))]
  simp [texts, pieces, this x 0 h]
theorem texts_joinT : ∀ (L : List (List UInt8)), L ≠ [] → (∀ x ∈ L, (47 : UInt8) ∉ x) → texts (joinT L) = L
  | [x], _, h => texts_one (h x (by simp))
  | x :: y :: r, _, h => by
    rw [joinT, texts_append, texts_one (h x (by simp)), texts_joinT (y :: r) (by simp) (fun z hz => h z (List.mem_cons_of_mem _ hz))]
    rfl
def partsL (s : List UInt8) : List (List UInt8) := if s = [] then [] else texts s
theorem joinT_nil {L : List (List UInt8)} (h : Good L) : joinT L = [] ↔ L = [] := by
  constructor
  · intro e
    match L, h, e with
    | [], _, _ => rfl
    | [x], h, e => exact absurd e (h.head).1
    | x :: y :: r, h, e => simp [joinT] at e
  · rintro rfl; rfl
theorem parts_joinT {L : List (List UInt8)} (h : Good L) : partsL (joinT L) = L := by
  by_cases e : L = []
  · subst e; rfl
  · rw [partsL, if_neg (fun q => e ((joinT_nil h).1 q)), texts_joinT L e (fun x hx => (h x hx).2)]
theorem joinT_parts (s : List UInt8) : joinT (partsL s) = s := by
  unfold partsL
  split
  · rename_i h; rw [h]; rfl
  · exact joinT_texts s
theorem parts_check {l : List UInt8} (h : (check l).2 = 0) : l ≠ [] ∧ partsL l = texts l ∧ Good (partsL l) := by
  have hne : l ≠ [] := by
    rintro rfl
    have := check_good h [] (by decide)
    exact this.1 rfl
  have e : partsL l = texts l := by rw [partsL, if_neg hne]
  exact ⟨hne, e, e ▸ check_good h⟩
theorem way_good : ∀ (b ps q : List (List UInt8)), way ps b = some q → Good ps → (∀ x ∈ b, (47 : UInt8) ∉ x) → Good q
  | [], ps, q, h, hp, _ => by simp only [way, Option.some.injEq] at h; exact h ▸ hp
  | x :: r, ps, q, h, hp, hb => by
    have hr : ∀ y ∈ r, (47 : UInt8) ∉ y := fun y hy => hb y (List.mem_cons_of_mem _ hy)
    simp only [way] at h
    split at h
    · exact way_good r ps q h hp hr
    · rename_i h1
      split at h
      · split at h
        · simp at h
        · exact way_good r _ q h (hp.sub fun y hy => (List.dropLast_sublist _).subset hy) hr
      · refine way_good r _ q h (hp.append (Good.cons ⟨fun e => h1 (.inl e), hb x (by simp)⟩ Good.nil)) hr
theorem lead_good {a t : List UInt8} (h : (lead a t).2 = 0) : ∃ q, (lead a t).1 = joinT q ∧ Good q ∧ totL q ≤ 802 := by
  unfold lead at h ⊢
  split at h
  · rename_i h1; exact absurd h h1
  · rename_i h1
    rw [if_neg h1]
    split at h
    · simp at h
    · rename_i h2
      rw [if_neg h2]
      split at h
      · simp at h
      · rename_i h3
        rw [if_neg h3]
        split at h
        · simp at h
        · rename_i h4
          rw [if_neg h4]
          split at h
          · simp at h
          · rename_i h5
            rw [if_neg h5]
            cases hw : way (texts a).dropLast (texts t) with
            | none => rw [hw] at h; simp [led] at h
            | some q =>
              have hc : (check a).2 = 0 := by omega
              have ha := ((check_ok a).1 hc).1
              refine ⟨q, by simp [led], way_good _ _ _ hw ((check_good hc).sub fun y hy => (List.dropLast_sublist _).subset hy) (texts_ns t), ?_⟩
              have := way_tot _ _ _ hw
              have := totL_dropLast (texts a)
              rw [totL_texts] at *
              omega
theorem joinT_len_good : ∀ (L : List (List UInt8)), L ≠ [] → (joinT L).length + 1 = totL L
  | [x], _ => by simp [joinT, totL]
  | x :: y :: r, _ => by
    have := joinT_len_good (y :: r) (by simp)
    simp only [joinT, totL, List.map_cons, List.sum_cons, List.length_append, List.length_cons] at this ⊢
    omega
end Go.Proofs.YthpecpkncifngaaDoor.Nm
end

/- Where a path leads, as plain words; what a checked list's items have. -/
section
namespace Go.Proofs.YthpecpkncifngaaDoor.X
open Go Go.RowKit Go.Shelf Go.Proofs.YthpecpkncifngaaDoor Go.Proofs.YthpecpkncifngaaDoorW.PrintWords Go.Proofs.YthpecpkncifngaaDoorW.PrintLast Go.Proofs.YthpecpkncifngaaDoorW.PrintMore Go.Proofs.YthpecpkncifngaaDoor.Pure
def itemOf (xs : List S26) (s : List UInt8) : Option S26 := xs.find? (fun x => x.f0.data.toList == s)
def hardTo (xs : List S26) (x : S26) : S26 := if x.f1 = 3 then (itemOf xs x.f5.data.toList).getD x else x
def realP (xs : List S26) (reached left : List (List UInt8)) (hops : Nat) : List UInt8 × Int :=
  match left with
  | [] => (Nm.joinT reached, 0)
  | p :: rest =>
    match itemOf xs (Nm.joinT (reached ++ [p])) with
    | none => ([], 4)
    | some x =>
      if (hardTo xs x).f1 = 1 ∧ rest ≠ [] then ([], 4)
      else if (hardTo xs x).f1 ≠ 4 then realP xs (Nm.partsL (hardTo xs x).f0.data.toList) rest hops
      else if h : 40 ≤ hops then ([], 114)
      else realP xs [] (Nm.partsL (Nm.lead (hardTo xs x).f0.data.toList (hardTo xs x).f5.data.toList).1 ++ rest) (hops + 1)
termination_by (40 - hops, left.length)
decreasing_by
  · exact Prod.Lex.right _ (by simp)
  · exact Prod.Lex.left _ _ (by omega)
section
variable {xs : List S26} {R rest : List (List UInt8)} {p : List UInt8} {hops : Nat} {x : S26}
theorem real_nil : realP xs R [] hops = (Nm.joinT R, 0) := by rw [realP]
theorem real_none (h : itemOf xs (Nm.joinT (R ++ [p])) = none) : realP xs R (p :: rest) hops = ([], 4) := by rw [realP, h]
theorem real_file (h : itemOf xs (Nm.joinT (R ++ [p])) = some x) (h1 : (hardTo xs x).f1 = 1) (h2 : rest ≠ []) : realP xs R (p :: rest) hops = ([], 4) := by
  rw [realP, h]; exact if_pos ⟨h1, h2⟩
theorem real_go (h : itemOf xs (Nm.joinT (R ++ [p])) = some x) (h1 : ¬ ((hardTo xs x).f1 = 1 ∧ rest ≠ [])) (h2 : (hardTo xs x).f1 ≠ 4) : realP xs R (p :: rest) hops = realP xs (Nm.partsL (hardTo xs x).f0.data.toList) rest hops := by
  rw [realP, h]; exact (if_neg h1).trans (if_pos h2)
theorem real_loop (h : itemOf xs (Nm.joinT (R ++ [p])) = some x) (h2 : (hardTo xs x).f1 = 4) (h3 : 40 ≤ hops) : realP xs R (p :: rest) hops = ([], 114) := by
  rw [realP, h]; exact (if_neg (fun q => by have := q.1; omega)).trans ((if_neg (by simp [h2])).trans (dif_pos h3))
theorem real_soft (h : itemOf xs (Nm.joinT (R ++ [p])) = some x) (h2 : (hardTo xs x).f1 = 4) (h3 : ¬ 40 ≤ hops) : realP xs R (p :: rest) hops = realP xs [] (Nm.partsL (Nm.lead (hardTo xs x).f0.data.toList (hardTo xs x).f5.data.toList).1 ++ rest) (hops + 1) := by
  rw [realP, h]; exact (if_neg (fun q => by have := q.1; omega)).trans ((if_neg (by simp [h2])).trans (dif_neg h3))
end
def realT (xs : List S26) (path : List UInt8) : List UInt8 × Int :=
  if (checkP xs).2 ≠ 0 then ([], (checkP xs).2) else if path = [] then ([], 0) else
  if (Nm.check path).2 ≠ 0 then ([], ((Nm.check path).2 : Int)) else realP xs [] (Nm.texts path) 0
theorem item_some {xs : List S26} {s : List UInt8} {x : S26} (h : itemOf xs s = some x) : x ∈ xs ∧ x.f0.data.toList = s :=
  ⟨List.mem_of_find?_eq_some h, by have := List.find?_some h; simpa using this⟩
def lk (xs : List S26) : Nat → ByteArray → Option Nat
  | 0, _ => none
  | k + 1, s => if (rd_T26 xs k).f0 = s then some k else lk xs k s
theorem lk_some (xs : List S26) (s : ByteArray) : ∀ (k i : Nat), lk xs k s = some i → i < k ∧ (rd_T26 xs i).f0 = s
  | 0, i, h => by simp [lk] at h
  | k + 1, i, h => by
    rw [lk] at h
    split at h
    · rename_i e
      obtain rfl : k = i := by simpa using h
      exact ⟨by omega, e⟩
    · obtain ⟨h1, h2⟩ := lk_some xs s k i h
      exact ⟨by omega, h2⟩
theorem lk_none (xs : List S26) (s : ByteArray) : ∀ (k : Nat), lk xs k s = none → ∀ i, i < k → (rd_T26 xs i).f0 ≠ s
  | 0, _, i, hi => by omega
  | k + 1, h, i, hi => by
    rw [lk] at h
    split at h
    · cases h
    · rename_i e
      rcases Nat.lt_succ_iff_lt_or_eq.1 hi with hi | rfl
      · exact lk_none xs s k h i hi
      · exact e
theorem data_inj {a b : ByteArray} (h : a.data.toList = b.data.toList) : a = b := by
  have : a.data = b.data := Array.toList_inj.1 h
  cases a; cases b; simpa using this
theorem item_of_mem {xs : List S26} (hc : (checkP xs).2 = 0) {x : S26} (hx : x ∈ xs) : itemOf xs x.f0.data.toList = some x := by
  obtain ⟨_, hs⟩ := chk_ok hc
  cases h : itemOf xs x.f0.data.toList with
  | none =>
    have := List.find?_eq_none.1 h x hx
    simp at this
  | some z =>
    obtain ⟨hz, he⟩ := item_some h
    obtain ⟨i, hi, rfl⟩ := List.getElem_of_mem hx
    obtain ⟨j, hj, rfl⟩ := List.getElem_of_mem hz
    have e : (rd_T26 xs j).f0 = (rd_T26 xs i).f0 := by rw [rd_get xs i hi, rd_get xs j hj]; exact data_inj he
    have := apart (k := xs.length) (fun j hj => hs j hj) hj hi e
    subst this
    rfl
theorem item_none {xs : List S26} {s : List UInt8} (h : ∀ i : Nat, i < xs.length → (rd_T26 xs i).f0.data.toList ≠ s) : itemOf xs s = none := by
  refine List.find?_eq_none.2 fun x hx => ?_
  obtain ⟨i, hi, rfl⟩ := List.getElem_of_mem hx
  have := h i hi
  rw [rd_get xs i hi] at this
  simpa using this
theorem lk_item {xs : List S26} (hc : (checkP xs).2 = 0) (s : ByteArray) : (lk xs xs.length s).map (fun i : Nat => rd_T26 xs i) = itemOf xs s.data.toList := by
  cases h : lk xs xs.length s with
  | none =>
    have := lk_none xs s _ h
    rw [item_none (fun i hi e => this i hi (data_inj e))]
    rfl
  | some i =>
    obtain ⟨h1, h2⟩ := lk_some xs s _ i h
    have hm : rd_T26 xs i ∈ xs := by rw [rd_get xs i h1]; exact List.getElem_mem h1
    have := item_of_mem hc hm
    rw [h2] at this
    rw [this]
    rfl
theorem may_check {x : S26} (h : mayP x = 0) : (Nm.check x.f0.data.toList).2 = 0 := by
  by_cases hc : (Nm.check x.f0.data.toList).2 = 0
  · exact hc
  · unfold mayP at h
    rw [if_pos hc] at h
    omega
theorem may_kind {x : S26} (h : mayP x = 0) : x.f1 = 1 ∨ x.f1 = 2 ∨ x.f1 = 3 ∨ x.f1 = 4 := by
  have hc := may_check h
  unfold mayP at h
  rw [if_neg (by simp [hc])] at h
  by_cases h1 : x.f1 = 1
  · exact .inl h1
  rw [if_neg h1] at h
  by_cases h2 : x.f1 = 2
  · exact .inr (.inl h2)
  rw [if_neg h2] at h
  by_cases h3 : x.f1 = 3
  · exact .inr (.inr (.inl h3))
  rw [if_neg h3] at h
  by_cases h4 : x.f1 = 4
  · exact .inr (.inr (.inr h4))
  rw [if_neg h4] at h
  omega
theorem mayT_zero {x : S26} {M T : Int} {bo tq : Bool} {r : Int} (h : mayT x M T bo tq r = 0) : r = 0 := by
  unfold mayT at h
  by_cases a1 : x.f3 < 0
  · rw [if_pos a1] at h; omega
  rw [if_neg a1] at h
  by_cases a2 : T < x.f3
  · rw [if_pos a2] at h; omega
  rw [if_neg a2] at h
  by_cases a3 : x.f2 < 0
  · rw [if_pos a3] at h; omega
  rw [if_neg a3] at h
  by_cases a4 : M < x.f2
  · rw [if_pos a4] at h; omega
  rw [if_neg a4] at h
  by_cases a5 : 0 < x.f4.length ∧ bo = false
  · rw [if_pos a5] at h; omega
  rw [if_neg a5] at h
  by_cases a6 : x.f5.toList ≠ [] ∧ tq = false
  · rw [if_pos a6] at h; omega
  rwa [if_neg a6] at h
theorem may_soft_lead {x : S26} (h : mayP x = 0) (h4 : x.f1 = 4) : (Nm.lead x.f0.data.toList x.f5.data.toList).2 = 0 := by
  have hc := may_check h
  unfold mayP at h
  rw [if_neg (by simp [hc]), if_neg (by omega), if_neg (by omega), if_neg (by omega), if_pos h4] at h
  have := mayT_zero h
  unfold softP at this
  omega
theorem hard_file {xs : List S26} (hc : (checkP xs).2 = 0) {x : S26} (hx : x ∈ xs) (h3 : x.f1 = 3) : ∃ z, z ∈ xs ∧ itemOf xs x.f5.data.toList = some z ∧ z.f1 = 1 := by
  obtain ⟨_, hs⟩ := chk_ok hc
  obtain ⟨i, hi, rfl⟩ := List.getElem_of_mem hx
  have h := hs i hi
  have hm := step_may h
  have hk : kd xs i xs[i].f5 = 1 := by
    by_cases hk : kd xs i xs[i].f5 = 1
    · exact hk
    · exfalso
      unfold stepP at h
      rw [if_neg (by simp [hm]), rd_get xs i hi] at h
      split at h
      · omega
      · split at h
        · omega
        · rw [if_pos ⟨h3, hk⟩] at h; omega
  obtain ⟨j, hj, h1, h2⟩ := kd_some xs xs[i].f5 1 (by decide) i hk
  have hm : rd_T26 xs j ∈ xs := by rw [rd_get xs j (by omega)]; exact List.getElem_mem _
  refine ⟨rd_T26 xs j, hm, ?_, h2⟩
  have := item_of_mem hc hm
  rwa [h1] at this
end Go.Proofs.YthpecpkncifngaaDoor.X
end

/- Plain words on paths: what stands above a path. -/
section
namespace Go.Proofs.YthpecpkncifngaaDoor.Nm
theorem last_mem : ∀ (r : List UInt8), (47 : UInt8) ∈ r → 0 ≤ lastIdx 47 r
  | [], h => by simp at h
  | d :: s, h => by
    have hge := lastIdx_ge 47 s
    simp only [lastIdx]
    by_cases hs : 0 ≤ lastIdx 47 s
    · rw [if_pos hs]; omega
    · rw [if_neg hs]
      by_cases hd : d = 47
      · rw [if_pos hd]; exact Int.le_refl _
      · rcases List.mem_cons.1 h with e | e
        · exact absurd e.symm hd
        · exact absurd (last_mem s e) hs
theorem last_cut : ∀ (l : List UInt8) (n : Nat), lastIdx 47 l = n → ∃ b, l = l.take n ++ 47 :: b ∧ (47 : UInt8) ∉ b ∧ n < l.length
  | [], n, h => by simp [lastIdx] at h
  | c :: r, n, h => by
    have hge := lastIdx_ge 47 r
    simp only [lastIdx] at h
    by_cases hr : 0 ≤ lastIdx 47 r
    · rw [if_pos hr] at h
      obtain ⟨m, hm⟩ := Int.eq_ofNat_of_zero_le hr
      obtain ⟨b, e, hb, hlt⟩ := last_cut r m hm
      obtain rfl : n = m + 1 := by omega
      refine ⟨b, ?_, hb, by simp; omega⟩
      rw [List.take_succ_cons, List.cons_append, ← e]
    · rw [if_neg hr] at h
      by_cases hc : c = 47
      · rw [if_pos hc] at h
        obtain rfl : n = 0 := by omega
        refine ⟨r, by simp [hc], ?_, by simp⟩
        intro hm
        exact hr (last_mem r hm)
      · rw [if_neg hc] at h; omega
theorem up_texts (l : List UInt8) : l.take (lastIdx 47 l).toNat = joinT (texts l).dropLast ∧ ((texts l).dropLast ≠ [] → texts (l.take (lastIdx 47 l).toNat) = (texts l).dropLast) := by
  have hge := lastIdx_ge 47 l
  by_cases h : 0 ≤ lastIdx 47 l
  · obtain ⟨n, hn⟩ := Int.eq_ofNat_of_zero_le h
    obtain ⟨b, e, hb, hlt⟩ := last_cut l n hn
    have ht : texts l = texts (l.take n) ++ [b] := by
      conv => lhs; rw [e]
      rw [texts_append, texts_one hb]
    rw [hn, Int.toNat_natCast, ht, List.dropLast_concat]
    exact ⟨(joinT_texts _).symm, fun _ => rfl⟩
  · have hm : (47 : UInt8) ∉ l := fun hm => h (last_mem l hm)
    rw [texts_one hm]
    obtain ⟨k, hk⟩ : ∃ k : Int, lastIdx 47 l = k ∧ k < 0 := ⟨_, rfl, by omega⟩
    rw [hk.1, Int.toNat_of_nonpos (by omega)]
    simp [joinT]
end Go.Proofs.YthpecpkncifngaaDoor.Nm
end

/- The reference's Sort as plain words: one by one, each behind all that are not behind it. -/
section
namespace Go.Proofs.YthpecpkncifngaaDoor.X
open Go.RowKit Go.Shelf Go.Proofs.YthpecpkncifngaaDoor Go.Proofs.YthpecpkncifngaaDoorW.PrintWords Go.Proofs.YthpecpkncifngaaDoorW.PrintLast Go.Proofs.YthpecpkncifngaaDoorW.PrintMore Go.Proofs.YthpecpkncifngaaDoor.Pure
noncomputable def place (out : List S26) (x : S26) : Nat → Nat
  | 0 => 0
  | n + 1 => if cmpI (rd_T26 out n) x = 1 then place out x n else n + 1
end Go.Proofs.YthpecpkncifngaaDoor.X
end

/- Plain laws of trees: what stands above an item is there; what is put in is found, and taken out again. -/
section
namespace Go.Proofs.YthpecpkncifngaaDoor.X
open Go Go.RowKit Go.Shelf Go.Proofs.YthpecpkncifngaaDoor Go.Proofs.YthpecpkncifngaaDoorW.PrintWords Go.Proofs.YthpecpkncifngaaDoorW.PrintLast Go.Proofs.YthpecpkncifngaaDoorW.PrintMore Go.Proofs.YthpecpkncifngaaDoor.Pure
theorem up_item {xs : List S26} (hc : (checkP xs).2 = 0) {x : S26} (hx : x ∈ xs) (hd : (Nm.texts x.f0.data.toList).dropLast ≠ []) :
    ∃ z, z ∈ xs ∧ z.f1 = 2 ∧ z.f0.data.toList = Nm.joinT (Nm.texts x.f0.data.toList).dropLast := by
  obtain ⟨_, hs⟩ := chk_ok hc
  obtain ⟨i, hi, rfl⟩ := List.getElem_of_mem hx
  have h := hs i hi
  have hm := step_may h
  rw [rd_get xs i hi] at hm
  have hu : (upB xs[i].f0).data.toList = Nm.joinT (Nm.texts xs[i].f0.data.toList).dropLast := by
    rw [← (Nm.up_texts xs[i].f0.data.toList).1]
    simp [upB, ByteArray.data_extract]
  have hg : Nm.Good (Nm.texts xs[i].f0.data.toList).dropLast := (Nm.check_good (may_check hm)).sub fun y hy => (List.dropLast_sublist _).subset hy
  have hne : (upB xs[i].f0).toList ≠ [] := by
    rw [Lib.toList_data, hu]
    exact fun e => hd ((Nm.joinT_nil hg).1 e)
  have hk : kd xs i (upB xs[i].f0) = 2 := by
    by_cases hk : kd xs i (upB xs[i].f0) = 2
    · exact hk
    · exfalso
      unfold stepP at h
      rw [rd_get xs i hi, if_neg (by simp [hm])] at h
      split at h
      · omega
      · rw [if_pos ⟨hne, hk⟩] at h; omega
  obtain ⟨j, hj, h1, h2⟩ := kd_some xs _ 2 (by decide) i hk
  exact ⟨rd_T26 xs j, by rw [rd_get xs j (by omega)]; exact List.getElem_mem _, h2, by rw [h1, hu]⟩
theorem anc {xs : List S26} (hc : (checkP xs).2 = 0) : ∀ (n : Nat) (x : S26) (pre r : List (List UInt8)), x ∈ xs → Nm.texts x.f0.data.toList = pre ++ r → pre ≠ [] → r.length = n + 1 →
    ∃ z, z ∈ xs ∧ z.f1 = 2 ∧ z.f0.data.toList = Nm.joinT pre
  | n, x, pre, r, hx, ht, hp, hn => by
    have hr : r ≠ [] := by rintro rfl; simp at hn
    have hdl : (Nm.texts x.f0.data.toList).dropLast = pre ++ r.dropLast := by rw [ht, List.dropLast_append_of_ne_nil hr]
    obtain ⟨z, hz, h2, he⟩ := up_item hc hx (by rw [hdl]; simp [hp])
    rw [hdl] at he
    cases n with
    | zero =>
      have : r.dropLast = [] := by apply List.eq_nil_of_length_eq_zero; simp [hn]
      rw [this, List.append_nil] at he
      exact ⟨z, hz, h2, he⟩
    | succ n =>
      have hns : ∀ y ∈ pre ++ r.dropLast, (47 : UInt8) ∉ y := by
        intro y hy
        rw [← hdl] at hy
        exact Nm.texts_ns _ y ((List.dropLast_sublist _).subset hy)
      exact anc hc n z pre r.dropLast hz (by rw [he]; exact Nm.texts_joinT _ (by simp [hp]) hns) hp (by simp [hn])
theorem ben_anc {xs : List S26} (hc : (checkP xs).2 = 0) {x : S26} (hx : x ∈ xs) {p : List UInt8} (hp : p ≠ []) (hb : ben p x.f0.data.toList = true) : ∃ z, z ∈ xs ∧ z.f1 = 2 ∧ z.f0.data.toList = p := by
  have h : (Nm.check x.f0.data.toList).2 = 0 ∧ (p = [] ∨ ∃ b, x.f0.data.toList = p ++ 47 :: b) := by
    by_cases h : (Nm.check x.f0.data.toList).2 = 0 ∧ (p = [] ∨ ∃ b, x.f0.data.toList = p ++ 47 :: b)
    · exact h
    · rw [ben_false h] at hb; cases hb
  obtain ⟨r, hr, ht⟩ := (Nm.beneath_iff p x.f0.data.toList).1 (h.2.resolve_left hp)
  obtain ⟨n, hn⟩ : ∃ n, r.length = n + 1 := ⟨r.length - 1, by have := List.length_pos_iff.2 hr; omega⟩
  obtain ⟨z, hz, h2, he⟩ := anc hc n x (Nm.texts p) r hx ht (Nm.texts_ne p) hn
  exact ⟨z, hz, h2, by rw [he, Nm.joinT_texts]⟩
section
variable {xs : List S26} {y : S26}
end
section
variable {xs : List S26} {p : ByteArray}
end
end Go.Proofs.YthpecpkncifngaaDoor.X
end

/- TreeBegins: plain laws: a beginning of a tree is one; what is beneath stands right behind; out of any order it is put right. -/
section
namespace Go.Proofs.YthpecpkncifngaaDoor.X
open Go.RowKit Go.Shelf Go.Proofs.YthpecpkncifngaaDoor Go.Proofs.YthpecpkncifngaaDoorW.PrintWords Go.Proofs.YthpecpkncifngaaDoorW.PrintLast Go.Proofs.YthpecpkncifngaaDoorW.PrintMore Go.Proofs.YthpecpkncifngaaDoor.Pure
theorem chkP_zero {xs : List S26} (h : ∀ j, j < xs.length → stepP xs j = 0) : ∀ (d i : Nat), xs.length - i = d → (chkP xs i).2 = 0
  | 0, i, hd => by rw [chkP_end (by omega)]
  | d + 1, i, hd => by
    rw [chkP_go (by omega) (h i (by omega))]
    exact chkP_zero h d (i + 1) (by omega)
theorem rd_take (xs : List S26) (q k : Nat) (h : k < q) (hk : k < xs.length) : rd_T26 (xs.take q) k = rd_T26 xs k := by
  rw [rd_get _ k (by rw [List.length_take]; omega), rd_get xs k hk, List.getElem_take]
theorem kd_take (xs : List S26) (q : Nat) (s : ByteArray) : ∀ k, k ≤ q → k ≤ xs.length → kd (xs.take q) k s = kd xs k s
  | 0, _, _ => rfl
  | k + 1, h, hk => by rw [kd, kd, rd_take xs q k (by omega) (by omega), kd_take xs q s k (by omega) (by omega)]
theorem step_take (xs : List S26) (q j : Nat) (h : j < q) (hj : j < xs.length) : stepP (xs.take q) j = stepP xs j := by
  unfold stepP cmpA
  rw [rd_take xs q j h hj, rd_take xs q (j - 1) (by omega) (by omega), kd_take xs q _ j (by omega) (by omega), kd_take xs q _ j (by omega) (by omega)]
theorem check_take {xs : List S26} (h : (checkP xs).2 = 0) (q : Nat) : (checkP (xs.take q)).2 = 0 := by
  obtain ⟨h1, h2⟩ := chk_ok h
  unfold checkP
  rw [if_neg (by rw [List.length_take]; omega)]
  refine chkP_zero (fun j hj => ?_) _ 0 rfl
  rw [List.length_take] at hj
  rw [step_take xs q j (by omega) (by omega)]
  exact h2 j (by omega)
theorem filter_run {α : Type} (Q : α → Bool) : ∀ D : List α, (∀ (i j : Nat) (hi : i < j) (hj : j < D.length), Q D[j] = true → Q (D[i]'(by omega)) = true) → D.filter Q = D.take (D.filter Q).length
  | [], _ => rfl
  | d :: D, h => by
    cases hd : Q d with
    | true =>
      rw [List.filter_cons_of_pos hd, List.length_cons, List.take_succ_cons]
      congr 1
      exact filter_run Q D (fun i j hi hj hq => by simpa using h (i + 1) (j + 1) (by omega) (by simpa using hj) (by simpa using hq))
    | false =>
      have : (d :: D).filter Q = [] := by
        rw [List.filter_eq_nil_iff]
        intro x hx hq
        obtain ⟨j, hj, rfl⟩ := List.getElem_of_mem hx
        cases j with
        | zero => rw [List.getElem_cons_zero, hd] at hq; cases hq
        | succ j =>
          have := h 0 (j + 1) (by omega) hj hq
          rw [List.getElem_cons_zero, hd] at this; cases this
      rw [this]; rfl
theorem filter_behind {α : Type} (Q : α → Bool) (L : List α) (a : Nat) (h1 : ∀ (j : Nat) (hj : j < L.length), Q L[j] = true → a < j) (h2 : ∀ (i j : Nat) (hi : a < i) (hij : i < j) (hj : j < L.length), Q L[j] = true → Q (L[i]'(by omega)) = true) :
    L.filter Q = (L.drop (a + 1)).take (L.filter Q).length := by
  have e : L.filter Q = (L.drop (a + 1)).filter Q := by
    conv => lhs; rw [← List.take_append_drop (a + 1) L]
    rw [List.filter_append, List.filter_eq_nil_iff.2, List.nil_append]
    intro x hx hq
    obtain ⟨j, hj, rfl⟩ := List.getElem_of_mem hx
    rw [List.length_take] at hj
    rw [List.getElem_take] at hq
    have := h1 j (by omega) hq
    omega
  rw [e]
  refine filter_run Q _ (fun i j hi hj hq => ?_)
  rw [List.length_drop] at hj
  rw [List.getElem_drop] at hq ⊢
  exact h2 (a + 1 + i) (a + 1 + j) (by omega) (by omega) (by omega) hq
theorem rise_lt {xs : List S26} (h : xs.Pairwise (fun a b => cmpI a b = -1)) {i j : Nat} (hi : i < j) (hj : j < xs.length) : cmpI (xs[i]'(by omega)) xs[j] = -1 := List.pairwise_iff_getElem.1 h i j (by omega) hj hi
theorem ben_iff {p l : List UInt8} (hp : p ≠ []) (hl : (Nm.check l).2 = 0) : ben p l = true ↔ ∃ r, r ≠ [] ∧ Nm.texts l = Nm.texts p ++ r := by
  rw [← Nm.beneath_iff]
  constructor
  · intro hb
    by_cases h : (Nm.check l).2 = 0 ∧ (p = [] ∨ ∃ b, l = p ++ 47 :: b)
    · exact h.2.resolve_left hp
    · rw [ben_false h] at hb; cases hb
  · exact fun h => ben_true ⟨hl, .inr h⟩
theorem check_ne {l : List UInt8} (h : (Nm.check l).2 = 0) : l ≠ [] := (Nm.parts_check h).1
theorem beneath_run {xs : List S26} (hc : (checkP xs).2 = 0) (a : Nat) (ha : a < xs.length) : beneathP xs (xs[a]).f0 = (xs.drop (a + 1)).take (beneathP xs (xs[a]).f0).length ∧ ((beneathP xs (xs[a]).f0).length ≤ xs.length - a - 1) ∧ (0 < (beneathP xs (xs[a]).f0).length → (xs[a]).f1 = 2) := by
  obtain ⟨hr, hm⟩ := chk_rise hc
  have hne : (xs[a]).f0.data.toList ≠ [] := check_ne (may_check (hm _ (List.getElem_mem ha)))
  have hiff : ∀ (j : Nat) (hj : j < xs.length), ben (xs[a]).f0.data.toList (xs[j]).f0.data.toList = true ↔ ∃ r, r ≠ [] ∧ Nm.texts (xs[j]).f0.data.toList = Nm.texts (xs[a]).f0.data.toList ++ r := fun j hj => ben_iff hne (may_check (hm _ (List.getElem_mem hj)))
  have hlt : ∀ (j : Nat) (hj : j < xs.length), ben (xs[a]).f0.data.toList (xs[j]).f0.data.toList = true → a < j := by
    intro j hj hb
    obtain ⟨r, hr0, ht⟩ := (hiff j hj).1 hb
    have h1 : cmpI xs[a] xs[j] = -1 := by
      show Nm.cmpL _ _ = -1
      rw [ht]; exact Nm.cmp_begins _ _ hr0
    rcases Nat.lt_trichotomy a j with h | h | h
    · exact h
    · subst h
      have : cmpI xs[a] xs[a] = 0 := Nm.cmp_self _
      omega
    · have h2 := rise_lt hr h ha
      have h3 := cmpI_neg xs[a] xs[j]
      omega
  have hrun := filter_behind (fun x => ben (xs[a]).f0.data.toList x.f0.data.toList) xs a hlt (fun i j hi hij hj hb => by
    obtain ⟨r, hr0, ht⟩ := (hiff j hj).1 hb
    refine (hiff i (by omega)).2 ?_
    have h1 := rise_lt hr hi (show i < xs.length by omega)
    have h2 := rise_lt hr hij hj
    refine Nm.cmp_between _ _ r (by show cmpI xs[a] xs[i] < 0; omega) ?_
    rw [← ht]
    show cmpI xs[i] xs[j] < 0
    omega)
  have hb : beneathP xs (xs[a]).f0 = xs.filter (fun x => ben (xs[a]).f0.data.toList x.f0.data.toList) := keepP_all _ _
  rw [hb]
  refine ⟨hrun, ?_, fun h0 => ?_⟩
  · have := congrArg List.length hrun
    rw [List.length_take, List.length_drop] at this
    omega
  · obtain ⟨x, hx⟩ := List.exists_mem_of_length_pos h0
    obtain ⟨hx1, hx2⟩ := List.mem_filter.1 hx
    obtain ⟨z, hz, hz2, hz3⟩ := ben_anc hc hx1 hne hx2
    obtain ⟨i, hi, rfl⟩ := List.getElem_of_mem hz
    have he : cmpI xs[i] xs[a] = 0 := by
      show Nm.cmpL _ _ = 0
      rw [hz3]; exact Nm.cmp_self _
    rcases Nat.lt_trichotomy i a with h | h | h
    · have := rise_lt hr h ha; omega
    · subst h; exact hz2
    · have h2 := rise_lt hr h hi
      have h3 := cmpI_neg xs[a] xs[i]
      omega
theorem wo_ltI : So.Wo ltI where
  irr x := by
    refine decide_eq_false ?_
    have : cmpI x x = 0 := Nm.cmp_self _
    omega
  tr x y z h1 h2 := by
    have a1 := of_decide_eq_true h1
    have a2 := of_decide_eq_true h2
    exact decide_eq_true (Nm.cmp_lt_le a1 (by show cmpI y z ≤ 0; omega))
  nt x y z h1 h2 := by
    have a1 := of_decide_eq_false h1
    have a2 := of_decide_eq_false h2
    have n1 := cmpI_neg x y
    have n2 := cmpI_neg y z
    have n3 := cmpI_neg x z
    refine decide_eq_false ?_
    have : cmpI z x ≤ 0 := Nm.cmp_le_trans (y := Nm.texts y.f0.data.toList) (by show cmpI z y ≤ 0; omega) (by show cmpI y x ≤ 0; omega)
    omega
theorem perm_short {α : Type} {a b : List α} (h : a.Perm b) (hb : b.length ≤ 1) : a = b := by
  match b, hb with
  | [], _ => exact List.perm_nil.1 h
  | [x], _ => exact List.perm_singleton.1 h
theorem isort_perm {xs ys : List S26} (hr : xs.Pairwise (fun a b => cmpI a b = -1)) (hp : ys.Perm xs) : So.isort ltI ys = xs := by
  refine So.isort_eq wo_ltI (hr.imp (fun {a b} h => ?_)) (fun z => ?_)
  · refine decide_eq_false ?_
    have := cmpI_neg a b
    omega
  · refine perm_short (hp.filter _) ?_
    rcases hc : xs.filter (So.cls ltI z) with _ | ⟨a, _ | ⟨b, l⟩⟩
    · simp
    · simp
    · exfalso
      have h1 : (xs.filter (So.cls ltI z)).Pairwise (fun a b => cmpI a b = -1) := hr.filter _
      rw [hc] at h1
      have hab := (List.pairwise_cons.1 h1).1 b (by simp)
      have ha := (List.mem_filter.1 (show a ∈ xs.filter (So.cls ltI z) by rw [hc]; simp)).2
      have hb := (List.mem_filter.1 (show b ∈ xs.filter (So.cls ltI z) by rw [hc]; simp)).2
      simp only [So.cls, Bool.and_eq_true, Bool.not_eq_true'] at ha hb
      have := wo_ltI.nt a z b ha.1 hb.2
      have h2 := of_decide_eq_false this
      omega
open Go.Sort in
theorem swp_perm {α : Type} [Inhabited α] (d : Array α) (i j : Nat) (hi : i < d.size) (hj : j < d.size) : (swp d i j).toList.Perm d.toList := by
  have h := swp_permIn d 0 d.size i j (Nat.zero_le _) hi (Nat.zero_le _) hj (Nat.le_refl _)
  have h2 := h.2.2
  have e1 : (swp d i j).extract 0 d.size = swp d i j := by
    have := size_swp d i j
    apply Array.ext
    · simp [this]
    · intro k h1 h2; simp
  have e2 : d.extract 0 d.size = d := by simp
  rw [e1, e2] at h2
  first | exact h2 | exact h2.symm
end Go.Proofs.YthpecpkncifngaaDoor.X
end

/- TreeBegins: the exchange of two items in the law's own list, over any program that lays it so. -/
section
namespace Go.Proofs.YthpecpkncifngaaDoor.So
open Go Go.Proofs Go.Shelf Go.RowKit Go.Lib Go.Sort
def findReg (m : Nat) : Code → Option Code
  | .region i ops d => if i == m then some (.region i ops d) else none
  | .seq a b => match findReg m a with
    | some c => some c
    | none => findReg m b
  | .cond _ a b => match findReg m a with
    | some c => some c
    | none => findReg m b
  | .block _ c => findReg m c
  | .loop c => findReg m c
  | .scope c => findReg m c
  | _ => none
noncomputable def swapCode : Code := (Tryd.f8.body.bind (findReg 25)).getD .skip
variable {P : Program} {α : Type} [Inhabited α]
set_option maxHeartbeats 8000000 in
set_option maxRecDepth 1000000 in
theorem swapReg {k : Nat} (L : Lays P k) (enc : α → List Value) (blk off cap ka kb : Nat) (d0 d dk : Array α) (w0 wr : World) (R : RowK enc k w0 blk off d0) (hs : d0.size = d.size) (hds : dk.size = d.size) (S : SWK enc k w0 blk off dk wr) (ha : ka < d.size) (hb : kb < d.size) (hsz : d.size < 4611686018427387904) (K : Act → World → Prop)
    (t0 t1 t2 t3 t4 t5 t6 t7 t8 t9 t10 t11 t12 t13 t15 t18 t19 t20 t21 t22 t23 t24 t25 t26 t27 t28 t29 t30 t31 t32 t33 t34 t35 t36 t37 t38 t39 t40 t41 t42 t43 t44 t45 t46 t47 t48 t49 t50 t51 t52 t53 t54 t55 t56 t57 t58 t59 t60 t61 t62 t63 t64 t65 t66 t67 t68 t69 t70 t71 t72 t73 t74 t75 t76 t77 t78 t79 t80 t81 t82 t83 t84 t85 t86 t87 t88 t89 t90 t91 t92 t93 t94 t95 t96 t97 t98 t99 t100 t101 t102 t103 t104 t105 t106 t107 t108 t109 t110 t111 t112 t113 t114 t115 t116 t117 t118 t119 t120 t121 t122 t123 t124 t125 t126 t127 t128 t129 t130 t131 t132 t133 t134 t135 t136 t137 t138 t139 t140 t141 t142 t143 t144 t145 : Value)
    (h : ∀ (u128 u129 u130 u131 u132 u133 u134 u135 u136 u137 u138 u139 u140 u141 : Value) (W2 : World), SWK enc k w0 blk off (swp dk ka kb) W2 → K ⟨#[t0, t1, t2, t3, t4, t5, t6, t7, t8, t9, t10, t11, t12, t13, .slice (some ⟨blk, off, none⟩) d.size cap, t15, .int .i64 (ka : Int), .int .i64 (kb : Int), t18, t19, t20, t21, t22, t23, t24, t25, t26, t27, t28, t29, t30, t31, t32, t33, t34, t35, t36, t37, t38, t39, t40, t41, t42, t43, t44, t45, t46, t47, t48, t49, t50, t51, t52, t53, t54, t55, t56, t57, t58, t59, t60, t61, t62, t63, t64, t65, t66, t67, t68, t69, t70, t71, t72, t73, t74, t75, t76, t77, t78, t79, t80, t81, t82, t83, t84, t85, t86, t87, t88, t89, t90, t91, t92, t93, t94, t95, t96, t97, t98, t99, t100, t101, t102, t103, t104, t105, t106, t107, t108, t109, t110, t111, t112, t113, t114, t115, t116, t117, t118, t119, t120, t121, t122, t123, t124, t125, t126, t127, u128, u129, u130, u131, u132, u133, u134, u135, u136, u137, u138, u139, u140, u141, t142, t143, t144, t145], []⟩ W2) :
    Code.wp P swapCode (Exit.then K (fun _ _ _ => False)) ⟨#[t0, t1, t2, t3, t4, t5, t6, t7, t8, t9, t10, t11, t12, t13, .slice (some ⟨blk, off, none⟩) d.size cap, t15, .int .i64 (ka : Int), .int .i64 (kb : Int), t18, t19, t20, t21, t22, t23, t24, t25, t26, t27, t28, t29, t30, t31, t32, t33, t34, t35, t36, t37, t38, t39, t40, t41, t42, t43, t44, t45, t46, t47, t48, t49, t50, t51, t52, t53, t54, t55, t56, t57, t58, t59, t60, t61, t62, t63, t64, t65, t66, t67, t68, t69, t70, t71, t72, t73, t74, t75, t76, t77, t78, t79, t80, t81, t82, t83, t84, t85, t86, t87, t88, t89, t90, t91, t92, t93, t94, t95, t96, t97, t98, t99, t100, t101, t102, t103, t104, t105, t106, t107, t108, t109, t110, t111, t112, t113, t114, t115, t116, t117, t118, t119, t120, t121, t122, t123, t124, t125, t126, t127, t128, t129, t130, t131, t132, t133, t134, t135, t136, t137, t138, t139, t140, t141, t142, t143, t144, t145], []⟩ wr := by
  have mixed := L.mixed; have t0_ := L.t0; have a0 := L.a0; have z0 := L.z0; have v0 := L.v0; have t3_ := L.t3; have a3 := L.a3; have z3 := L.z3; have v3 := L.v3; have t4_ := L.t4; have a4 := L.a4; have z4 := L.z4; have v4 := L.v4; have t22_ := L.t22; have a22 := L.a22; have z22 := L.z22; have v22 := L.v22; have aE := L.aE; have zE := L.zE
  have S1 : Aside (SWK enc k w0 blk off dk wr) := S
  have HQ : Aside _ := h
  clear S h
  conv => arg 2; whnf
  have ea135 : ((ka : Int)).toNat = ka := by omega
  have pa135 : (0 : Int) ≤ (ka : Int) := by omega
  have ba135 : (ka : Int) < (d.size : Int) := by omega
  have ra135 : IntKind.i64.wrap ((ka : Int)) = (ka : Int) := by rw [IntKind.wrap_i64]; omega
  have ec135 : ((kb : Int)).toNat = kb := by omega
  have pc135 : (0 : Int) ≤ (kb : Int) := by omega
  have bc135 : (kb : Int) < (d.size : Int) := by omega
  have rc135 : IntKind.i64.wrap ((kb : Int)) = (kb : Int) := by rw [IntKind.wrap_i64]; omega
  have S2 : Aside (SWK enc k w0 blk off (swp dk (ka) (kb)) ((wr.drew.setCells blk (off + (ka) * k) (enc dk[kb]!)).setCells blk (off + (kb) * k) (enc dk[ka]!))) := S1.out.swapped R (ka) (kb) (by omega) (by omega)
  have l135a := S1.out.ld1 R (by omega) P (ka) (by omega)
  have l135b := S1.out.ld1 R (by omega) P (kb) (by omega)
  have s135a := S1.out.st1 R (by omega) P (ka) (by omega) dk[kb]!
  have s135b := S1.out.st2 R (by omega) P (ka) (kb) (by omega) (by omega) dk[kb]! dk[ka]!
  have n135a : (enc dk[ka]!).length = k := R.hk _
  have n135b : (enc dk[kb]!).length = k := R.hk _
  generalize enc dk[ka]! = cI135 at S2 l135a s135b n135a
  generalize enc dk[kb]! = cJ135 at S2 l135b s135a s135b n135b
  clear S1
  go_wp2_with fail
  go_big_region_o
  clear l135a l135b s135a s135b
  generalize (wr.drew.setCells blk (off + (ka) * k) cJ135).setCells blk (off + (kb) * k) cI135 = w2 at S2 ⊢
  all_goals exact HQ.out _ _ _ _ _ _ _ _ _ _ _ _ _ _ w2 S2
set_option maxRecDepth 1000000 in
theorem swapRegN {k : Nat} (L : Lays P k) (enc : α → List Value) (blk off cap ka kb : Nat) (d0 d dk : Array α) (w0 wr : World) (R : RowK enc k w0 blk off d0) (n : Nat) (hn : d.size = n) (hs : d0.size = d.size) (hds : dk.size = d.size) (S : SWK enc k w0 blk off dk wr) (ha : ka < n) (hb : kb < n) (hsz : n < 4611686018427387904) (K : Act → World → Prop)
    (t0 t1 t2 t3 t4 t5 t6 t7 t8 t9 t10 t11 t12 t13 t15 t18 t19 t20 t21 t22 t23 t24 t25 t26 t27 t28 t29 t30 t31 t32 t33 t34 t35 t36 t37 t38 t39 t40 t41 t42 t43 t44 t45 t46 t47 t48 t49 t50 t51 t52 t53 t54 t55 t56 t57 t58 t59 t60 t61 t62 t63 t64 t65 t66 t67 t68 t69 t70 t71 t72 t73 t74 t75 t76 t77 t78 t79 t80 t81 t82 t83 t84 t85 t86 t87 t88 t89 t90 t91 t92 t93 t94 t95 t96 t97 t98 t99 t100 t101 t102 t103 t104 t105 t106 t107 t108 t109 t110 t111 t112 t113 t114 t115 t116 t117 t118 t119 t120 t121 t122 t123 t124 t125 t126 t127 t128 t129 t130 t131 t132 t133 t134 t135 t136 t137 t138 t139 t140 t141 t142 t143 t144 t145 : Value)
    (h : ∀ (u128 u129 u130 u131 u132 u133 u134 u135 u136 u137 u138 u139 u140 u141 : Value) (W2 : World), SWK enc k w0 blk off (swp dk ka kb) W2 → K ⟨#[t0, t1, t2, t3, t4, t5, t6, t7, t8, t9, t10, t11, t12, t13, .slice (some ⟨blk, off, none⟩) n cap, t15, .int .i64 (ka : Int), .int .i64 (kb : Int), t18, t19, t20, t21, t22, t23, t24, t25, t26, t27, t28, t29, t30, t31, t32, t33, t34, t35, t36, t37, t38, t39, t40, t41, t42, t43, t44, t45, t46, t47, t48, t49, t50, t51, t52, t53, t54, t55, t56, t57, t58, t59, t60, t61, t62, t63, t64, t65, t66, t67, t68, t69, t70, t71, t72, t73, t74, t75, t76, t77, t78, t79, t80, t81, t82, t83, t84, t85, t86, t87, t88, t89, t90, t91, t92, t93, t94, t95, t96, t97, t98, t99, t100, t101, t102, t103, t104, t105, t106, t107, t108, t109, t110, t111, t112, t113, t114, t115, t116, t117, t118, t119, t120, t121, t122, t123, t124, t125, t126, t127, u128, u129, u130, u131, u132, u133, u134, u135, u136, u137, u138, u139, u140, u141, t142, t143, t144, t145], []⟩ W2) :
    Code.wp P swapCode (Exit.then K (fun _ _ _ => False)) ⟨#[t0, t1, t2, t3, t4, t5, t6, t7, t8, t9, t10, t11, t12, t13, .slice (some ⟨blk, off, none⟩) n cap, t15, .int .i64 (ka : Int), .int .i64 (kb : Int), t18, t19, t20, t21, t22, t23, t24, t25, t26, t27, t28, t29, t30, t31, t32, t33, t34, t35, t36, t37, t38, t39, t40, t41, t42, t43, t44, t45, t46, t47, t48, t49, t50, t51, t52, t53, t54, t55, t56, t57, t58, t59, t60, t61, t62, t63, t64, t65, t66, t67, t68, t69, t70, t71, t72, t73, t74, t75, t76, t77, t78, t79, t80, t81, t82, t83, t84, t85, t86, t87, t88, t89, t90, t91, t92, t93, t94, t95, t96, t97, t98, t99, t100, t101, t102, t103, t104, t105, t106, t107, t108, t109, t110, t111, t112, t113, t114, t115, t116, t117, t118, t119, t120, t121, t122, t123, t124, t125, t126, t127, t128, t129, t130, t131, t132, t133, t134, t135, t136, t137, t138, t139, t140, t141, t142, t143, t144, t145], []⟩ wr := by
  subst hn
  exact swapReg L enc blk off cap ka kb d0 d dk w0 wr R hs hds S ha hb hsz K t0 t1 t2 t3 t4 t5 t6 t7 t8 t9 t10 t11 t12 t13 t15 t18 t19 t20 t21 t22 t23 t24 t25 t26 t27 t28 t29 t30 t31 t32 t33 t34 t35 t36 t37 t38 t39 t40 t41 t42 t43 t44 t45 t46 t47 t48 t49 t50 t51 t52 t53 t54 t55 t56 t57 t58 t59 t60 t61 t62 t63 t64 t65 t66 t67 t68 t69 t70 t71 t72 t73 t74 t75 t76 t77 t78 t79 t80 t81 t82 t83 t84 t85 t86 t87 t88 t89 t90 t91 t92 t93 t94 t95 t96 t97 t98 t99 t100 t101 t102 t103 t104 t105 t106 t107 t108 t109 t110 t111 t112 t113 t114 t115 t116 t117 t118 t119 t120 t121 t122 t123 t124 t125 t126 t127 t128 t129 t130 t131 t132 t133 t134 t135 t136 t137 t138 t139 t140 t141 t142 t143 t144 t145 h
theorem wp_noexit {c : Code} {Q : Exit → Act → World → Prop} {a : Act} {w : World} (h : Code.wp P c (Exit.then (fun a w => Q .normal a w) (fun _ _ _ => False)) a w) : Code.wp P c Q a w :=
  Code.wp_mono (fun e a w hq => by cases e <;> first | exact hq | exact (hq : False).elim) h
end Go.Proofs.YthpecpkncifngaaDoor.So
end

/- Plain words on paths: joined parts, cut at the first stroke, and trimmed of strokes. -/
section
namespace Go.Proofs.YthpecpkncifngaaDoor.Nm
theorem joinT_cut {p : List UInt8} {rest : List (List UInt8)} (h : Good (p :: rest)) :
    (rest = [] ∧ Lib.indexByte (joinT (p :: rest)) 47 = -1 ∧ joinT (p :: rest) = p) ∨
    (rest ≠ [] ∧ Lib.indexByte (joinT (p :: rest)) 47 = p.length ∧ p.length < (joinT (p :: rest)).length ∧ (joinT (p :: rest)).take p.length = p ∧ (joinT (p :: rest)).drop (p.length + 1) = joinT rest) := by
  have ht := texts_joinT (p :: rest) (by simp) (fun x hx => (h x hx).2)
  generalize hl : joinT (p :: rest) = l at ht ⊢
  have hge := Lib.indexByte_ge l 47
  by_cases hi : Lib.indexByte l 47 = -1
  · left
    have h1 : texts l = [l] := by simp [texts, pieces_none l 0 hi]
    rw [h1] at ht
    injection ht with a b
    exact ⟨b.symm, hi, a⟩
  · right
    obtain ⟨n, hn⟩ := Int.eq_ofNat_of_zero_le (show 0 ≤ Lib.indexByte l 47 by omega)
    have h1 : texts l = l.take n :: texts (l.drop (n + 1)) := by
      simp only [texts, pieces_some l 0 n hn, List.map_cons]
      rw [pieces_texts]; rfl
    have hlt := (pc_some l 0 n hn).1
    rw [h1] at ht
    injection ht with a b
    have hp : p.length = n := by rw [← a, List.length_take]; omega
    refine ⟨by rw [← b]; exact texts_ne _, by rw [hp]; exact hn, by omega, by rw [hp]; exact a, by rw [hp, ← b, joinT_texts]⟩
theorem joinT_first {L : List (List UInt8)} (h : Good L) (hne : L ≠ []) : ∃ c d, joinT L = c :: d ∧ c ≠ 47 := by
  match L, h, hne with
  | x :: r, h, _ =>
    obtain ⟨hx, hn⟩ := h.head
    match x, hx, hn with
    | c :: d, _, hn =>
      have hc : c ≠ 47 := fun e => hn (by rw [e]; exact List.mem_cons_self ..)
      match r with
      | [] => exact ⟨c, d, rfl, hc⟩
      | y :: s => exact ⟨c, _, rfl, hc⟩
theorem joinT_last : ∀ {L : List (List UInt8)}, Good L → L ≠ [] → ∃ a b, joinT L = a ++ [b] ∧ b ≠ 47
  | [x], h, _ => by
    obtain ⟨hx, hn⟩ := h.head
    refine ⟨x.dropLast, x.getLast hx, by rw [joinT, List.dropLast_concat_getLast], fun e => hn (by rw [← e]; exact List.getLast_mem hx)⟩
  | x :: y :: r, h, _ => by
    obtain ⟨a, b, e, hb⟩ := joinT_last (L := y :: r) h.tail (by simp)
    exact ⟨x ++ 47 :: a, b, by rw [joinT, e]; simp, hb⟩
theorem trimR_keep (a : List UInt8) (b : UInt8) (h : b ≠ 47) : Lib.trimRightB (a ++ [b]) 47 = a ++ [b] := by
  simp [Lib.trimRightB, List.dropWhile_cons, h]
theorem trimR_one (a : List UInt8) : Lib.trimRightB (a ++ [47]) 47 = Lib.trimRightB a 47 := by
  simp [Lib.trimRightB, List.dropWhile_cons]
theorem trimL_keep (c : UInt8) (d : List UInt8) (h : c ≠ 47) : Lib.trimLeftB (c :: d) 47 = c :: d := by
  simp [Lib.trimLeftB, List.dropWhile_cons, h]
theorem trimL_one (d : List UInt8) : Lib.trimLeftB (47 :: d) 47 = Lib.trimLeftB d 47 := by
  simp [Lib.trimLeftB, List.dropWhile_cons]
theorem trim_good {L : List (List UInt8)} (h : Good L) : Lib.trimRightB (joinT L) 47 = joinT L ∧ Lib.trimLeftB (joinT L) 47 = joinT L := by
  by_cases e : L = []
  · subst e; exact ⟨rfl, rfl⟩
  · obtain ⟨a, b, e1, hb⟩ := joinT_last h e
    obtain ⟨c, d, e2, hc⟩ := joinT_first h e
    exact ⟨by rw [e1, trimR_keep a b hb], by rw [e2, trimL_keep c d hc]⟩
theorem trim_join {q L : List (List UInt8)} (hq : Good q) (hL : Good L) : Lib.trimB (joinT q ++ 47 :: joinT L) 47 = joinT (q ++ L) := by
  unfold Lib.trimB
  by_cases eL : L = []
  · subst eL
    rw [show joinT q ++ 47 :: joinT [] = joinT q ++ [47] from rfl, trimR_one, (trim_good hq).1, (trim_good hq).2, List.append_nil]
  · obtain ⟨a, b, e1, hb⟩ := joinT_last hL eL
    have hr : Lib.trimRightB (joinT q ++ 47 :: joinT L) 47 = joinT q ++ 47 :: joinT L := by
      rw [e1, show joinT q ++ 47 :: (a ++ [b]) = (joinT q ++ 47 :: a) ++ [b] by simp, trimR_keep _ b hb]
    rw [hr]
    by_cases eq : q = []
    · subst eq
      rw [show joinT [] ++ 47 :: joinT L = 47 :: joinT L from rfl, trimL_one, (trim_good hL).2, List.nil_append]
    · rw [← joinT_append q L eq eL]
      exact (trim_good (hq.append hL)).2
end Go.Proofs.YthpecpkncifngaaDoor.Nm
end

/- The contract of tree.Real: the map of items. -/
section
namespace Go.Proofs.YthpecpkncifngaaDoor.X
open Go Go.RowKit Go.Shelf Go.Proofs.YthpecpkncifngaaDoor Go.Proofs.YthpecpkncifngaaDoorW.PrintWords Go.Proofs.YthpecpkncifngaaDoorW.PrintLast Go.Proofs.YthpecpkncifngaaDoorW.PrintMore Go.Proofs.YthpecpkncifngaaDoor.Pure
def MapOf (xs : List S26) (k : Nat) (l : List (ByteArray × Value)) : Prop :=
  ∀ s, (lk xs k s = none ∧ Mp.mget l s = none) ∨ ∃ (i : Nat) (A4 : Option Addr) (c4 : Nat), lk xs k s = some i ∧ Mp.mget l s = some (.agg (cellsIt (rd_T26 xs i) A4 c4))
theorem MapOf.nil (xs : List S26) : MapOf xs 0 [] := fun s => .inl ⟨rfl, rfl⟩
theorem MapOf.put {xs : List S26} {k : Nat} {l : List (ByteArray × Value)} (h : MapOf xs k l) (A4 : Option Addr) (c4 : Nat) :
    MapOf xs (k + 1) (Mp.mput l (rd_T26 xs k).f0 (.agg (cellsIt (rd_T26 xs k) A4 c4))) := by
  intro s
  rw [Mp.mget_put, lk]
  by_cases e : (rd_T26 xs k).f0 = s
  · rw [if_pos e, if_pos e]
    exact .inr ⟨k, A4, c4, rfl, rfl⟩
  · rw [if_neg e, if_neg e]
    exact h s
theorem MapOf.tells {xs : List S26} {l : List (ByteArray × Value)} (h : MapOf xs xs.length l) (hc : (checkP xs).2 = 0) (s : ByteArray) :
    (itemOf xs s.data.toList = none ∧ Mp.mget l s = none) ∨ ∃ x A4 c4, itemOf xs s.data.toList = some x ∧ Mp.mget l s = some (.agg (cellsIt x A4 c4)) := by
  have hi := lk_item hc s
  rcases h s with ⟨h1, h2⟩ | ⟨i, A4, c4, h1, h2⟩
  · rw [h1] at hi; exact .inl ⟨hi.symm, h2⟩
  · rw [h1] at hi; exact .inr ⟨_, A4, c4, hi.symm, h2⟩
theorem zeroIt (w : World) : (zeroValue 26).run Tryd.prog w = .ok (.agg #[.string ⟨#[]⟩, .int .u8 0, .int .i64 0, .int .i64 0, .slice none 0 0, .string ⟨#[]⟩]) w := by kernel_rfl
theorem slcut_any (s : ByteArray) (w : World) (hs : s.size ≤ 1048576) :
    Calls Tryd.prog 83 #[.string s, .string ⟨#[47]⟩] w fun e w' => (∃ b, e = .returned (.tuple #[.string (if Lib.indexByte s.data.toList 47 = -1 then s else s.extract 0 (Lib.indexByte s.data.toList 47).toNat), .string (if Lib.indexByte s.data.toList 47 = -1 then ⟨#[]⟩ else s.extract ((Lib.indexByte s.data.toList 47).toNat + 1) s.size), .bool b])) ∧ ∃ n, w' = w.drewN n := by
  have hge := Lib.indexByte_ge s.data.toList 47
  by_cases hi : Lib.indexByte s.data.toList 47 = -1
  · rw [if_pos hi, if_pos hi]
    go_enter Tryd.func83, Tryd.ntmps83
    go_wp2_with fail
    refine (Tryd.stringslite_Index_one s 47 w).mono ?_
    rw [hi]
    rintro e w' ⟨rfl, rfl⟩
    go_wp2
    go_ret3
    exact ⟨⟨_, rfl⟩, 0, rfl⟩
  · rw [if_neg hi, if_neg hi]
    obtain ⟨n, hn⟩ := Int.eq_ofNat_of_zero_le (show 0 ≤ Lib.indexByte s.data.toList 47 by omega)
    have hlt := (Nm.pc_some s.data.toList 0 n hn).1
    rw [Pure.len_eq] at hlt
    have c1 : decide ((0 : Int) ≤ (n : Int)) = true := decide_eq_true (by omega)
    rw [hn, Int.toNat_natCast]
    go_enter Tryd.func83, Tryd.ntmps83
    go_wp2_with fail
    refine (Tryd.stringslite_Index_one s 47 w).mono ?_
    rw [hn]
    rintro e w' ⟨rfl, rfl⟩
    clear hi hge hn
    go_wp2
    go_quiet (fail)
    go_wp2
    go_ret3
    exact ⟨⟨_, rfl⟩, _, rfl⟩
end Go.Proofs.YthpecpkncifngaaDoor.X
end

/- The contract of tree.Real: the walk. -/
section
namespace Go.Proofs.YthpecpkncifngaaDoor.X
open Go Go.RowKit Go.Shelf Go.Proofs.YthpecpkncifngaaDoor Go.Proofs.YthpecpkncifngaaDoorW.PrintWords Go.Proofs.YthpecpkncifngaaDoorW.PrintLast Go.Proofs.YthpecpkncifngaaDoorW.PrintMore Go.Proofs.YthpecpkncifngaaDoor.Pure
def szOf : Value → Nat
  | .string s => s.size
  | _ => 0
theorem isEmpty_true {s : ByteArray} (h : s.data.toList = []) : s.toList.isEmpty = true := by rw [Lib.toList_data, h]; rfl
theorem isEmpty_false {s : ByteArray} (h : s.data.toList ≠ []) : s.toList.isEmpty = false := by rw [Lib.toList_data]; simpa using h
theorem cut_any {s : ByteArray} {p : List UInt8} {rest : List (List UInt8)} (hs : s.data.toList = Nm.joinT (p :: rest)) (hG : Nm.Good (p :: rest)) (hz : s.size ≤ 1048576) :
    ∃ sp sl : ByteArray, sp.data.toList = p ∧ sl.data.toList = Nm.joinT rest ∧ ∀ w, Calls Tryd.prog 58 #[.string s, .string ⟨#[47]⟩] w fun e w' => (∃ b, e = .returned (.tuple #[.string sp, .string sl, .bool b])) ∧ ∃ n, w' = w.drewN n := by
  refine ⟨if Lib.indexByte s.data.toList 47 = -1 then s else s.extract 0 (Lib.indexByte s.data.toList 47).toNat, if Lib.indexByte s.data.toList 47 = -1 then ⟨#[]⟩ else s.extract ((Lib.indexByte s.data.toList 47).toNat + 1) s.size, ?_, ?_, fun w => ?_⟩
  rotate_left 2
  · have hc := slcut_any s w hz
    generalize (if Lib.indexByte s.data.toList 47 = -1 then s else s.extract 0 (Lib.indexByte s.data.toList 47).toNat) = u1 at hc ⊢
    generalize (if Lib.indexByte s.data.toList 47 = -1 then (⟨#[]⟩ : ByteArray) else s.extract ((Lib.indexByte s.data.toList 47).toNat + 1) s.size) = u2 at hc ⊢
    have HC := Aside0.mk hc
    clear hc
    go_enter Tryd.func58, Tryd.ntmps58
    go_wp2_with fail
    refine HC.out.mono ?_
    rintro e w' ⟨⟨b, rfl⟩, n, rfl⟩
    go_wp2
    go_ret3
    exact ⟨by cases b <;> simp, n, rfl⟩
  · rw [hs]
    rcases Nm.joinT_cut hG with ⟨hr, hi, he⟩ | ⟨hr, hi, hlt, ht, hd⟩
    · rw [hi, if_pos rfl, hs, he]
    · rw [hi, if_neg (by omega), Int.toNat_natCast]
      simp only [ByteArray.data_extract, Array.toList_extract]
      rw [hs]
      simpa using ht
  · rw [hs]
    rcases Nm.joinT_cut hG with ⟨hr, hi, he⟩ | ⟨hr, hi, hlt, ht, hd⟩
    · rw [hi, if_pos rfl, hr]; rfl
    · rw [hi, if_neg (by omega), Int.toNat_natCast]
      rw [Sp.ext_from, hs, hd]
theorem trim_any {s : ByteArray} {q L : List (List UInt8)} (hs : s.data.toList = Nm.joinT q ++ 47 :: Nm.joinT L) (hq : Nm.Good q) (hL : Nm.Good L) (hz : s.size ≤ 1048576) (w : World) :
    Calls Tryd.prog 60 #[.string s, .string ⟨#[47]⟩] w fun e w' => e = .returned (.string (bytesOfL (Nm.joinT (q ++ L)))) ∧ ∃ n, w' = w.drewN n := by
  refine (Tryd.strings_Trim_one s 47 (by decide) w (by omega)).mono ?_
  rw [hs, Nm.trim_join hq hL]
  rintro e w' ⟨rfl, rfl | rfl⟩
  · exact ⟨rfl, 0, rfl⟩
  · exact ⟨rfl, 1, rfl⟩
set_option maxRecDepth 100000 in
set_option maxHeartbeats 8000000 in
theorem real_any (A : Option Addr) (c : Nat) (xs : List S26) (path : ByteArray) (w : World) (hr : Kd.C k26 w A xs.length xs) :
    Calls Tryd.prog 23 #[.slice A xs.length c, .string path] w fun e w' => e = .returned (.tuple #[.string (bytesOfL (realT xs path.data.toList).1), .int .i64 (realT xs path.data.toList).2]) ∧ Below w.heap.size w w' := by
  have hmm := @run_makeMap Tryd.prog
  have HR := Aside0.mk hr
  clear hr
  by_cases h1 : (checkP xs).2 = 0
  case neg =>
    have H := Lib.hid (show realT xs path.data.toList = ([], (checkP xs).2) by unfold realT; rw [if_pos h1])
    have hd : ((checkP xs).2 != 0) = true := by simpa using h1
    rw [H.out]
    clear h1
    go_enter Tryd.func23, Tryd.ntmps23
    go_wp2_with fail
    refine (check_tree A c xs _ HR.out).mono ?_
    rintro e w1 ⟨rfl, hb⟩
    go_wp2
    go_ret2
    exact ⟨rfl, hb⟩
  have hd : ((checkP xs).2 != 0) = false := by simpa using h1
  by_cases h2 : path.data.toList = []
  · have H := Lib.hid (show realT xs path.data.toList = ([], 0) by unfold realT; rw [if_neg (by simp [h1]), if_pos h2])
    have he : path.toList.isEmpty = true := isEmpty_true h2
    rw [H.out]
    clear h1 h2
    go_enter Tryd.func23, Tryd.ntmps23
    go_wp2_with fail
    refine (check_tree A c xs _ HR.out).mono ?_
    rintro e w1 ⟨rfl, hb⟩
    go_wp2
    go_ret2
    exact ⟨rfl, hb⟩
  have he : path.toList.isEmpty = false := isEmpty_false h2
  by_cases h3 : (Nm.check path.data.toList).2 = 0
  case neg =>
    have H := Lib.hid (show realT xs path.data.toList = ([], ((Nm.check path.data.toList).2 : Int)) by unfold realT; rw [if_neg (by simp [h1]), if_neg h2, if_pos h3])
    have hd3 : (((Nm.check path.data.toList).2 : Int) != 0) = true := by simpa using h3
    rw [H.out]
    clear h1 h2 h3
    go_enter Tryd.func23, Tryd.ntmps23
    go_wp2_with fail
    refine (check_tree A c xs _ HR.out).mono ?_
    rintro e w1 ⟨rfl, hb⟩
    have HB1 := Aside0.mk hb
    clear hb
    go_wp2_with fail
    refine (check_any path w1).mono ?_
    rintro e w2 ⟨rfl, hb⟩
    go_wp2
    go_ret2
    exact ⟨rfl, HB1.out.trans (hb.mono HB1.out.size)⟩
  have hd3 : (((Nm.check path.data.toList).2 : Int) != 0) = false := by simpa using h3
  have HC := Lib.hid h1
  have H := Lib.hid (show realT xs path.data.toList = realP xs [] (Nm.texts path.data.toList) 0 by unfold realT; rw [if_neg (by simp [h1]), if_neg h2, if_neg (by simp [h3])])
  have HG := Aside0.mk (Nm.check_good h3)
  have HT := Aside0.mk (show Nm.totL (Nm.texts path.data.toList) ≤ 401 by rw [Nm.totL_texts]; have := ((Nm.check_ok _).1 h3).1; omega)
  have hxl := (chk_ok h1).1
  clear h1 h2 h3
  go_enter Tryd.func23, Tryd.ntmps23
  go_wp2_with fail
  refine (check_tree A c xs _ HR.out).mono ?_
  rintro e w1 ⟨rfl, hb⟩
  have HB1 := Aside0.mk hb
  clear hb
  go_wp2_with fail
  refine (check_any path w1).mono ?_
  rintro e w2 ⟨rfl, hb⟩
  have HB2 := Aside0.mk (HB1.out.trans (hb.mono HB1.out.size))
  clear hb HB1
  go_wp2
  clear hd hd3 he
  go_loopw [45] (fun i wr => ∃ (k : Nat) (l : List (ByteArray × Value)), k ≤ xs.length ∧ i = .int .i64 k ∧ Aside0 (Below w.heap.size w wr) ∧ Aside0 (Mp.At Mp.strKey wr w2.heap.size l) ∧ Aside0 (MapOf xs k l)) (fun i _ => xs.length - (intOf i).toNat)
  case atStart => exact ⟨0, [], Nat.zero_le _, rfl, ⟨HB2.out.alloc HB2.out.size _⟩, ⟨Mp.at_made w2⟩, ⟨MapOf.nil xs⟩⟩
  case round =>
    obtain ⟨k, l, hk, rfl, hB, hM, hP⟩ := hrel
    by_cases hlt : k < xs.length
    · obtain ⟨ad, A4, c4, rfl, h0, h1, h2, h3, h4, h5, hl, hr4⟩ := at_it HR.out hB.out k hlt
      clear hl hr4
      have hBa : Below wr.heap.size wr (wr.alloc (.cells (cellsIt (rd_T26 xs k) A4 c4) 26)) := (Below.refl _ wr).alloc (Nat.le_refl _) _
      obtain ⟨o, ho, hrun3, hM3⟩ := (hM.out.below hBa).update (K := Mp.strKey) Tryd.underlying84 Tryd.underlying9 (rd_T26 xs k).f0 (.agg (cellsIt (rd_T26 xs k) A4 c4))
      have HM3 := Aside0.mk hM3
      have HBa := Aside0.mk (hB.out.trans (hBa.mono hB.out.size))
      have hrun4 : (Instr.mapUpdate 84 (.map (some w2.heap.size)) (.string (rd_T26 xs k).f0) (.agg #[.string (rd_T26 xs k).f0, .int .u8 (rd_T26 xs k).f1, .int .i64 (rd_T26 xs k).f2, .int .i64 (rd_T26 xs k).f3, .slice A4 (rd_T26 xs k).f4.length c4, .string (rd_T26 xs k).f5])).run Tryd.prog (wr.alloc (.cells #[.string (rd_T26 xs k).f0, .int .u8 (rd_T26 xs k).f1, .int .i64 (rd_T26 xs k).f2, .int .i64 (rd_T26 xs k).f3, .slice A4 (rd_T26 xs k).f4.length c4, .string (rd_T26 xs k).f5] 26)) = .ok () ((wr.alloc (.cells (cellsIt (rd_T26 xs k) A4 c4) 26)).putObj w2.heap.size o) := hrun3
      clear hM3 hrun3 hBa hM
      go_wp2
      go_roundw
      case rel => exact ⟨k + 1, _, by omega, by go_num, ⟨HBa.out.grown (grownBy_putObj' _ _ _) HBa.out.size (fun j hj => by cases hj; exact HB2.out.size)⟩, HM3, ⟨hP.out.put A4 c4⟩⟩
      case measure => simp [intOf]; omega
    · obtain rfl : k = xs.length := by omega
      have HF := Aside0.mk hP.out.tells
      have HB3 := hB
      have HM3 := hM
      clear hP hB hM hlt hk
      go_wp2
      go_loopw [13, 14, 15] (fun r h t wq => ∃ (R L : List (List UInt8)) (q s : ByteArray) (hops : Nat), r = .string q ∧ h = .int .i64 (hops : Nat) ∧ t = .string s ∧ hops ≤ 40 ∧ Hid (q.data.toList = Nm.joinT R) ∧ Hid (s.data.toList = Nm.joinT L) ∧ Aside0 (Nm.Good L ∧ Nm.totL L ≤ 401 + 802 * hops) ∧ Aside0 (Nm.Good R ∧ Nm.totL R ≤ 401) ∧ Hid (realP xs [] (Nm.texts path.data.toList) 0 = realP xs R L hops) ∧ Aside0 (Below w.heap.size w wq) ∧ Aside0 (Mp.At Mp.strKey wq w2.heap.size l)) (fun _ h t _ => (40 - (intOf h).toNat) * 100000 + szOf t)
      case atStart => exact ⟨[], Nm.texts path.data.toList, ⟨#[]⟩, path, 0, rfl, rfl, rfl, by omega, Lib.hid rfl, Lib.hid (Nm.joinT_texts _).symm, ⟨HG.out, HT.out⟩, ⟨Nm.Good.nil, by simp [Nm.totL]⟩, Lib.hid rfl, HB3, HM3⟩
      case round =>
        obtain ⟨R, L, q, s, hops, rfl, rfl, rfl, hh, hq, hs, hL, hRR, hi, hB, hM⟩ := hrel
        cases L with
        | nil =>
          have e0 : s.toList.isEmpty = true := isEmpty_true hs.out
          go_wp2
          go_ret2
          exact ⟨by rw [H.out, hi.out, real_nil, ← hq.out]; rfl, hB.out⟩
        | cons p rest =>
          have e0 : s.toList.isEmpty = false := isEmpty_false (by rw [hs.out]; exact fun e => by have := (Nm.joinT_nil hL.out.1).1 e; cases this)
          have hsz : s.size ≤ 40000 := by
            have := Nm.joinT_totL (p :: rest)
            have h2 := hL.out.2
            rw [← hs.out, Pure.len_eq] at this
            omega
          obtain ⟨sp, sl, hsp, hsl, hcut⟩ := cut_any hs.out hL.out.1 (by omega)
          have HCut := Aside0.mk hcut
          clear hcut
          go_wp2_with fail
          refine (HCut.out _).mono ?_
          rintro e w3 ⟨⟨bb, rfl⟩, n3, hw3⟩
          have hMq := Aside0.mk (show Mp.At Mp.strKey w3 w2.heap.size l from hM.out.move (by rw [hw3]; rfl))
          have hBq := Aside0.mk (show Below w.heap.size w w3 by rw [hw3]; exact pw_below_drewN hB.out n3)
          clear hw3
          obtain ⟨key, hkey, hcase⟩ : ∃ key : ByteArray, key.data.toList = Nm.joinT (R ++ [p]) ∧ ((q.toList.isEmpty = true ∧ key = sp) ∨ (q.toList.isEmpty = false ∧ key = q ++ ⟨#[47]⟩ ++ sp)) := by
            by_cases hR : R = []
            · subst hR; exact ⟨sp, by rw [hsp]; rfl, .inl ⟨isEmpty_true hq.out, rfl⟩⟩
            · refine ⟨_, ?_, .inr ⟨isEmpty_false (by rw [hq.out]; exact fun e => hR ((Nm.joinT_nil hRR.out.1).1 e)), rfl⟩⟩
              rw [Nm.joinT_append R [p] hR (by simp)]
              simp [hq.out, hsp, Nm.joinT]
          have hgr := hL.out.1.tail
          have hlt : sl.size < s.size := by
            have e1 := Nm.joinT_len_good (p :: rest) (by simp)
            have e2 := Pure.len_eq s
            have e3 := Pure.len_eq sl
            have e4 := List.length_pos_iff.2 (hL.out.1.head).1
            rw [hs.out] at e2
            rw [hsl] at e3
            have e6 : Nm.totL (p :: rest) = p.length + 1 + Nm.totL rest := by simp [Nm.totL]
            have e5 := Nm.joinT_totL rest
            omega
          have htl : Nm.totL rest ≤ 401 + 802 * hops := by
            have := hL.out.2
            simp [Nm.totL] at this ⊢
            omega
          have hqz : q.size ≤ 401 := by
            have e1 := Nm.joinT_totL R
            have e2 := Pure.len_eq q
            have e3 := hRR.out.2
            rw [hq.out] at e2
            omega
          have hspz : sp.size ≤ 40000 := by
            have e2 := Pure.len_eq sp
            rw [hsp] at e2
            have e3 := hL.out.2
            simp [Nm.totL] at e3
            omega
          have hlook := hMq.out.lookup (K := Mp.strKey) Tryd.underlying84 Tryd.underlying9 key zeroIt true
          rcases HF.out HC.out key with ⟨ht1, ht2⟩ | ⟨x, A4, c4, ht1, ht2⟩
          · rw [hkey] at ht1
            have HI := Lib.hid (hi.out.trans (real_none (hops := hops) (rest := rest) ht1))
            rw [ht2] at hlook
            have hrun : (Instr.lookup 84 (.map (some w2.heap.size)) (.string key) true).run Tryd.prog w3 = .ok (.tuple #[.agg #[.string ⟨#[]⟩, .int .u8 0, .int .i64 0, .int .i64 0, .slice none 0 0, .string ⟨#[]⟩], .bool false]) w3 := hlook
            clear hlook ht1 ht2 hkey
            rcases hcase with ⟨eq, rfl⟩ | ⟨eq, rfl⟩
            all_goals
              go_wp2
              go_ret2
              exact ⟨by rw [H.out, HI.out]; rfl, hBq.out.alloc hBq.out.size _⟩
          · rw [hkey] at ht1
            obtain ⟨hx, _⟩ := item_some ht1
            rw [ht2] at hlook
            have hmy := (chk_rise HC.out).2 x hx
            have hkd := may_kind hmy
            have hgx := Nm.parts_check (may_check hmy)
            have htx : Nm.totL (Nm.partsL x.f0.data.toList) ≤ 401 := by rw [hgx.2.1, Nm.totL_texts]; have := may_size hmy; have := Pure.len_eq x.f0; omega
            obtain ⟨f0, f1, f2, f3, f4, f5⟩ := x
            simp only at hkd hgx htx
            rcases hkd with rfl | rfl | rfl | rfl
            · have hh1 : hardTo xs ⟨f0, 1, f2, f3, f4, f5⟩ = ⟨f0, 1, f2, f3, f4, f5⟩ := by unfold hardTo; exact if_neg (by simp)
              have hrun : (Instr.lookup 84 (.map (some w2.heap.size)) (.string key) true).run Tryd.prog w3 = .ok (.tuple #[.agg #[.string f0, .int .u8 1, .int .i64 f2, .int .i64 f3, .slice A4 f4.length c4, .string f5], .bool true]) w3 := hlook
              by_cases hre : rest = []
              · have esl : sl.toList.isEmpty = true := isEmpty_true (by rw [hsl, hre]; rfl)
                have hi2 := hi.out.trans (real_go (hops := hops) ht1 (fun q => q.2 hre) (by rw [hh1]; simp))
                rw [hh1] at hi2
                have HI := Lib.hid hi2
                clear hi2 hlook ht1 ht2 hkey hh1 hre hmy
                rcases hcase with ⟨eq, rfl⟩ | ⟨eq, rfl⟩
                all_goals
                  go_wp2
                  go_roundw
                  case rel => exact ⟨Nm.partsL f0.data.toList, rest, f0, sl, hops, rfl, rfl, rfl, hh, Lib.hid (Nm.joinT_parts _).symm, Lib.hid hsl, ⟨hgr, htl⟩, ⟨hgx.2.2, htx⟩, HI, ⟨hBq.out.alloc hBq.out.size _⟩, ⟨hMq.out.below ((Below.refl _ w3).alloc (Nat.le_refl _) _)⟩⟩
                  case measure => simp [intOf, szOf]; omega
              · have esl : sl.toList.isEmpty = false := isEmpty_false (by rw [hsl]; exact fun e => hre ((Nm.joinT_nil hgr).1 e))
                have HI := Lib.hid (hi.out.trans (real_file (hops := hops) ht1 (by rw [hh1]) hre))
                clear hlook ht1 ht2 hkey hh1 hre hmy
                rcases hcase with ⟨eq, rfl⟩ | ⟨eq, rfl⟩
                all_goals
                  go_wp2
                  go_ret2
                  exact ⟨by rw [H.out, HI.out]; rfl, hBq.out.alloc hBq.out.size _⟩
            · have hh1 : hardTo xs ⟨f0, 2, f2, f3, f4, f5⟩ = ⟨f0, 2, f2, f3, f4, f5⟩ := by unfold hardTo; exact if_neg (by simp)
              have hrun : (Instr.lookup 84 (.map (some w2.heap.size)) (.string key) true).run Tryd.prog w3 = .ok (.tuple #[.agg #[.string f0, .int .u8 2, .int .i64 f2, .int .i64 f3, .slice A4 f4.length c4, .string f5], .bool true]) w3 := hlook
              have hi2 := hi.out.trans (real_go (hops := hops) (rest := rest) ht1 (by rw [hh1]; exact fun q => absurd q.1 (by simp)) (by rw [hh1]; simp))
              rw [hh1] at hi2
              have HI := Lib.hid hi2
              clear hi2 hlook ht1 ht2 hkey hh1 hmy
              rcases hcase with ⟨eq, rfl⟩ | ⟨eq, rfl⟩
              all_goals
                go_wp2
                go_roundw
                case rel => exact ⟨Nm.partsL f0.data.toList, rest, f0, sl, hops, rfl, rfl, rfl, hh, Lib.hid (Nm.joinT_parts _).symm, Lib.hid hsl, ⟨hgr, htl⟩, ⟨hgx.2.2, htx⟩, HI, ⟨hBq.out.alloc hBq.out.size _⟩, ⟨hMq.out.below ((Below.refl _ w3).alloc (Nat.le_refl _) _)⟩⟩
                case measure => simp [intOf, szOf]; omega
            · obtain ⟨z, hz, hze, hz1⟩ := hard_file HC.out hx rfl
              obtain ⟨g0, g1, g2, g3, g4, g5⟩ := z
              simp only at hz1 hze
              subst hz1
              have hrun : (Instr.lookup 84 (.map (some w2.heap.size)) (.string key) true).run Tryd.prog w3 = .ok (.tuple #[.agg #[.string f0, .int .u8 3, .int .i64 f2, .int .i64 f3, .slice A4 f4.length c4, .string f5], .bool true]) w3 := hlook
              have hM4 := hMq.out.below ((Below.refl _ w3).alloc (Nat.le_refl _) (.cells #[.string f0, .int .u8 3, .int .i64 f2, .int .i64 f3, .slice A4 f4.length c4, .string f5] 26))
              have hlook2 := hM4.lookup (K := Mp.strKey) Tryd.underlying84 Tryd.underlying9 f5 zeroIt false
              rcases HF.out HC.out f5 with ⟨hn, _⟩ | ⟨z', A5, c5, hz', hm'⟩
              · rw [hze] at hn; cases hn
              rw [hze] at hz'
              obtain rfl := Option.some.inj hz'
              rw [hm'] at hlook2
              have hrun2 : (Instr.lookup 84 (.map (some w2.heap.size)) (.string f5) false).run Tryd.prog (w3.alloc (.cells #[.string f0, .int .u8 3, .int .i64 f2, .int .i64 f3, .slice A4 f4.length c4, .string f5] 26)) = .ok (.agg #[.string g0, .int .u8 1, .int .i64 g2, .int .i64 g3, .slice A5 g4.length c5, .string g5]) (w3.alloc (.cells #[.string f0, .int .u8 3, .int .i64 f2, .int .i64 f3, .slice A4 f4.length c4, .string f5] 26)) := hlook2
              have hh1 : hardTo xs ⟨f0, 3, f2, f3, f4, f5⟩ = ⟨g0, 1, g2, g3, g4, g5⟩ := by unfold hardTo; rw [if_pos rfl]; simp only; rw [hze]; rfl
              have hmz := (chk_rise HC.out).2 _ hz
              have hgz := Nm.parts_check (may_check hmz)
              simp only at hgz
              have htz : Nm.totL (Nm.partsL g0.data.toList) ≤ 401 := by rw [hgz.2.1, Nm.totL_texts]; have := may_size hmz; have := Pure.len_eq g0; simp only at *; omega
              have HM4 := Aside0.mk hM4
              have HB4 := Aside0.mk (hBq.out.alloc hBq.out.size (.cells #[.string f0, .int .u8 3, .int .i64 f2, .int .i64 f3, .slice A4 f4.length c4, .string f5] 26))
              by_cases hre : rest = []
              · have esl : sl.toList.isEmpty = true := isEmpty_true (by rw [hsl, hre]; rfl)
                have hi2 := hi.out.trans (real_go (hops := hops) ht1 (fun q => q.2 hre) (by rw [hh1]; simp))
                rw [hh1] at hi2
                have HI := Lib.hid hi2
                clear hi2 hlook hlook2 ht1 ht2 hkey hh1 hre hmy hM4 hm' hz' hze hmz
                rcases hcase with ⟨eq, rfl⟩ | ⟨eq, rfl⟩
                all_goals
                  go_wp2
                  go_roundw
                  case rel => exact ⟨Nm.partsL g0.data.toList, rest, g0, sl, hops, rfl, rfl, rfl, hh, Lib.hid (Nm.joinT_parts _).symm, Lib.hid hsl, ⟨hgr, htl⟩, ⟨hgz.2.2, htz⟩, HI, ⟨hBq.out.alloc hBq.out.size _⟩, ⟨hMq.out.below ((Below.refl _ w3).alloc (Nat.le_refl _) _)⟩⟩
                  case measure => simp [intOf, szOf]; omega
              · have esl : sl.toList.isEmpty = false := isEmpty_false (by rw [hsl]; exact fun e => hre ((Nm.joinT_nil hgr).1 e))
                have HI := Lib.hid (hi.out.trans (real_file (hops := hops) ht1 (by rw [hh1]) hre))
                clear hlook hlook2 ht1 ht2 hkey hh1 hre hmy hM4 hm' hz' hze hmz
                rcases hcase with ⟨eq, rfl⟩ | ⟨eq, rfl⟩
                all_goals
                  go_wp2
                  go_ret2
                  exact ⟨by rw [H.out, HI.out]; rfl, hBq.out.alloc hBq.out.size _⟩
            · have hh1 : hardTo xs ⟨f0, 4, f2, f3, f4, f5⟩ = ⟨f0, 4, f2, f3, f4, f5⟩ := by unfold hardTo; exact if_neg (by simp)
              have hrun : (Instr.lookup 84 (.map (some w2.heap.size)) (.string key) true).run Tryd.prog w3 = .ok (.tuple #[.agg #[.string f0, .int .u8 4, .int .i64 f2, .int .i64 f3, .slice A4 f4.length c4, .string f5], .bool true]) w3 := hlook
              by_cases h40 : hops = 40
              · have e40 : ((hops : Int) == 40) = true := by simp; omega
                have HI := Lib.hid (hi.out.trans (real_loop (hops := hops) (rest := rest) ht1 (by rw [hh1]) (by omega)))
                clear hlook ht1 ht2 hkey hh1 hmy h40
                rcases hcase with ⟨eq, rfl⟩ | ⟨eq, rfl⟩
                all_goals
                  go_wp2
                  go_ret2
                  exact ⟨by rw [H.out, HI.out]; rfl, hBq.out.alloc hBq.out.size _⟩
              · have e40 : ((hops : Int) == 40) = false := by simp; omega
                have hi2 := hi.out.trans (real_soft (hops := hops) (rest := rest) ht1 (by rw [hh1]) (by omega))
                rw [hh1] at hi2
                obtain ⟨q0, hq1, hq2, hq3⟩ := Nm.lead_good (may_soft_lead hmy rfl)
                simp only at hi2 hq1
                rw [hq1, Nm.parts_joinT hq2] at hi2
                have HI := Lib.hid hi2
                have hto : (bytesOfL (Nm.lead f0.data.toList f5.data.toList).1).data.toList = Nm.joinT q0 := by rw [← hq1]; rfl
                have hLd := LeadW.lead_any f0 f5
                generalize bytesOfL (Nm.lead f0.data.toList f5.data.toList).1 = tx at hto hLd
                generalize ((Nm.lead f0.data.toList f5.data.toList).2 : Int) = te at hLd
                have HLd := Aside0.mk hLd
                have htz : tx.size ≤ 802 := by have e1 := Nm.joinT_totL q0; have e2 := Pure.len_eq tx; rw [hto] at e2; omega
                have hslz : sl.size ≤ 40000 := by omega
                clear hi2 hlook ht1 ht2 hkey hh1 hmy hq1 hLd
                rcases hcase with ⟨eq, rfl⟩ | ⟨eq, rfl⟩
                all_goals
                  go_wp2_with fail
                  refine (HLd.out _).mono ?_
                  rintro e w5 ⟨rfl, hb⟩
                  have hB5 := Aside0.mk ((hBq.out.alloc hBq.out.size _).trans (hb.mono (hBq.out.alloc hBq.out.size _).size))
                  have hM5 := Aside0.mk ((hMq.out.below ((Below.refl _ w3).alloc (Nat.le_refl _) _)).below hb)
                  clear hb
                  have HTr := Aside0.mk (fun w => trim_any (s := tx ++ ⟨#[47]⟩ ++ sl) (q := q0) (L := rest) (by simp [hto, hsl]) hq2 hgr (by rw [ByteArray.size_append, ByteArray.size_append]; have : (⟨#[47]⟩ : ByteArray).size = 1 := rfl; omega) w)
                  go_wp2_with fail
                  refine (HTr.out _).mono ?_
                  rintro e w6 ⟨rfl, n6, hw6⟩
                  have hB6 := Aside0.mk (show Below w.heap.size w w6 by rw [hw6]; exact pw_below_drewN hB5.out n6)
                  have hM6 := Aside0.mk (show Mp.At Mp.strKey w6 w2.heap.size l from hM5.out.move (by rw [hw6]; rfl))
                  clear hw6
                  go_wp2
                  go_roundw
                  case rel => exact ⟨[], q0 ++ rest, ⟨#[]⟩, bytesOfL (Nm.joinT (q0 ++ rest)), hops + 1, rfl, by go_num, rfl, by omega, Lib.hid rfl, Lib.hid rfl, ⟨hq2.append hgr, by rw [Nm.totL_append]; omega⟩, ⟨Nm.Good.nil, by simp [Nm.totL]⟩, HI, hB6, hM6⟩
                  case measure =>
                    have e1 := Nm.joinT_totL (q0 ++ rest)
                    rw [Nm.totL_append] at e1
                    have e2 := Pure.bytes_size (Nm.joinT (q0 ++ rest))
                    simp [intOf, szOf]
                    omega
end Go.Proofs.YthpecpkncifngaaDoor.X
end

/- The law's awake: the tree of the examples, and what is asked of it. -/
section
namespace Go.Proofs.YthpecpkncifngaaDoor.X
open Go Go.RowKit Go.Shelf Go.Proofs.YthpecpkncifngaaDoor Go.Proofs.YthpecpkncifngaaDoorW.PrintWords Go.Proofs.YthpecpkncifngaaDoorW.PrintLast Go.Proofs.YthpecpkncifngaaDoorW.PrintMore Go.Proofs.YthpecpkncifngaaDoor.Pure
def smallP : List S26 := [⟨⟨#[97]⟩, 2, 0, 0, [], ⟨#[]⟩⟩, ⟨⟨#[97, 47, 102]⟩, 1, 0, 0, [1, 2, 3], ⟨#[]⟩⟩, ⟨⟨#[97, 47, 104]⟩, 3, 0, 0, [], ⟨#[97, 47, 102]⟩⟩, ⟨⟨#[97, 47, 115]⟩, 4, 0, 0, [], ⟨#[102]⟩⟩, ⟨⟨#[108]⟩, 4, 0, 0, [], ⟨#[97]⟩⟩]
theorem small_any (w : World) : Calls Tryd.prog 34 #[] w fun e w' => (∃ A c, e = .returned (.slice A smallP.length c) ∧ smallP.length ≤ c ∧ Kd.C k26 w' A smallP.length smallP) ∧ Below w.heap.size w w' := by
  refine (tabularylaw11_small.calls smallP w rfl).mono ?_
  rintro e w' ⟨v, rfl, hN, hb⟩
  obtain ⟨A, c, rfl, hc, _⟩ := N_cap hN
  exact ⟨⟨A, c, rfl, hc, (Kd.N_reads' hN).2.2⟩, hb⟩
theorem small_step (k : Nat) (h : k < 5) : stepP smallP k = 0 := by
  match k, h with
  | 0, _ => decide +kernel
  | 1, _ => decide +kernel
  | 2, _ => decide +kernel
  | 3, _ => decide +kernel
  | 4, _ => decide +kernel
theorem small_check : checkP smallP = (0, 0) := by
  unfold checkP
  rw [if_neg (by decide), chkP_go (by decide) (small_step 0 (by decide)), chkP_go (by decide) (small_step 1 (by decide)), chkP_go (by decide) (small_step 2 (by decide)), chkP_go (by decide) (small_step 3 (by decide)), chkP_go (by decide) (small_step 4 (by decide)), chkP_end (by decide)]
theorem small_cut : checkP (smallP.drop 1) = (0, 112) := by
  unfold checkP
  rw [if_neg (by decide), chkP_stop (k := 0) (e := 112) (by decide) (by decide +kernel) (by decide)]
  rfl
theorem small_find : findP smallP ⟨#[97, 47, 104]⟩ = (2, 0) := by
  have h : idxP (fun x => x.f0.toList == (⟨#[97, 47, 104]⟩ : ByteArray).toList) smallP 0 = 2 := by
    rw [idxP_no (by decide) (by decide +kernel), idxP_no (by decide) (by decide +kernel), idxP_yes (by decide) (by decide +kernel)]
    rfl
  unfold findP
  rw [h]
  rfl
theorem small_real : realT smallP [108, 47, 115] = ([97, 47, 102], 0) := by
  unfold realT
  rw [if_neg (by rw [small_check]; simp), if_neg (by simp), if_neg (by decide +kernel)]
  rw [show Nm.texts [108, 47, 115] = [[108], [115]] by decide +kernel]
  rw [real_soft (x := ⟨⟨#[108]⟩, 4, 0, 0, [], ⟨#[97]⟩⟩) (by kernel_rfl) (by decide +kernel) (by decide)]
  rw [show Nm.partsL (Nm.lead (hardTo smallP ⟨⟨#[108]⟩, 4, 0, 0, [], ⟨#[97]⟩⟩).f0.data.toList (hardTo smallP ⟨⟨#[108]⟩, 4, 0, 0, [], ⟨#[97]⟩⟩).f5.data.toList).1 ++ [[115]] = [[97], [115]] by decide +kernel]
  rw [real_go (x := ⟨⟨#[97]⟩, 2, 0, 0, [], ⟨#[]⟩⟩) (by kernel_rfl) (by decide +kernel) (by decide +kernel)]
  rw [show Nm.partsL (hardTo smallP ⟨⟨#[97]⟩, 2, 0, 0, [], ⟨#[]⟩⟩).f0.data.toList = [[97]] by decide +kernel]
  rw [real_soft (x := ⟨⟨#[97, 47, 115]⟩, 4, 0, 0, [], ⟨#[102]⟩⟩) (by kernel_rfl) (by decide +kernel) (by decide)]
  rw [show Nm.partsL (Nm.lead (hardTo smallP ⟨⟨#[97, 47, 115]⟩, 4, 0, 0, [], ⟨#[102]⟩⟩).f0.data.toList (hardTo smallP ⟨⟨#[97, 47, 115]⟩, 4, 0, 0, [], ⟨#[102]⟩⟩).f5.data.toList).1 ++ [] = [[97], [102]] by decide +kernel]
  rw [real_go (x := ⟨⟨#[97]⟩, 2, 0, 0, [], ⟨#[]⟩⟩) (by kernel_rfl) (by decide +kernel) (by decide +kernel)]
  rw [show Nm.partsL (hardTo smallP ⟨⟨#[97]⟩, 2, 0, 0, [], ⟨#[]⟩⟩).f0.data.toList = [[97]] by decide +kernel]
  rw [real_go (x := ⟨⟨#[97, 47, 102]⟩, 1, 0, 0, [1, 2, 3], ⟨#[]⟩⟩) (by kernel_rfl) (by decide +kernel) (by decide +kernel)]
  rw [show Nm.partsL (hardTo smallP ⟨⟨#[97, 47, 102]⟩, 1, 0, 0, [1, 2, 3], ⟨#[]⟩⟩).f0.data.toList = [[97], [102]] by decide +kernel]
  rw [real_nil]
  decide +kernel
theorem small_ben : (beneathP smallP ⟨#[97]⟩).length = 3 := by
  unfold beneathP
  rw [keepP_all]
  have t : ∀ r : List UInt8, (Nm.check ([97, 47] ++ r)).2 = 0 → ben [97] ([97, 47] ++ r) = true := fun r h => ben_true ⟨h, .inr ⟨r, rfl⟩⟩
  have f1 : ben [97] [97] = false := ben_false (fun h => by rcases h.2 with h | ⟨b, h⟩ <;> simp at h)
  have f2 : ben [97] [108] = false := ben_false (fun h => by rcases h.2 with h | ⟨b, h⟩ <;> simp at h)
  have e1 := t [102] (by decide +kernel)
  have e2 := t [104] (by decide +kernel)
  have e3 := t [115] (by decide +kernel)
  simp only [List.cons_append, List.nil_append] at e1 e2 e3
  simp [smallP, List.filter_cons, f1, f2, e1, e2, e3]
set_option maxRecDepth 100000 in
set_option maxHeartbeats 4000000 in
theorem awake_any (w : World) : Calls Tryd.prog 25 #[] w fun e w' => e = .returned (.bool true) ∧ Below w.heap.size w w' := by
  have SA := Aside0.mk small_any
  have F1 := Lib.hid small_check
  have F2 := Lib.hid small_cut
  have F3 := Lib.hid small_find
  have F4 := Lib.hid small_real
  have F5 := Lib.hid small_ben
  have hl1 : 5 ≤ smallP.length := by decide
  have hl2 : smallP.length ≤ 5 := by decide
  have H4 := Aside0.mk (show ∀ x ∈ smallP, x.f4.length ≤ 140737488355328 by decide)
  generalize smallP = sm at *
  go_enter Tryd.func25, Tryd.ntmps25
  go_wp2_with fail
  refine (SA.out _).mono ?_
  rintro e w1 ⟨⟨A1, c1, rfl, hc1, hC1⟩, hb⟩
  have HB1 := Aside0.mk hb
  have HC1 := Aside0.mk hC1
  clear hb hC1
  go_wp2_with fail
  refine (check_tree A1 c1 sm _ HC1.out).mono ?_
  rw [F1.out]
  rintro e w2 ⟨rfl, hb⟩
  have HB2 := Aside0.mk (HB1.out.trans (hb.mono HB1.out.size))
  clear hb HB1 HC1
  go_upto_region 2 with (fail)
  go_cut [3, 4] (fun a b wc => a = .int .i64 0 ∧ b = .int .i64 112 ∧ Aside0 (Below w.heap.size w wc))
  case first =>
    go_wp2_with fail
    refine (SA.out _).mono ?_
    rintro e w3 ⟨⟨A3, c3, rfl, hc3, hC3⟩, hb⟩
    have HB3 := Aside0.mk (HB2.out.trans (hb.mono HB2.out.size))
    obtain ⟨ad, A4, c4, rfl, h0, -⟩ := at_it hC3 (Below.refl _ _) 0 (by omega)
    obtain ⟨b0, o0, rfl⟩ : ∃ b o, ad = ⟨b, o, none⟩ := ⟨_, _, Jn.spot_of (show w3.cell? ad = _ from h0)⟩
    have hd := Kd.C_drop (m := 1) (c := c3) hC3 (by omega) hc3
    rw [if_neg (by omega)] at hd
    have HD := Aside0.mk (show Kd.C k26 w3 (some ⟨b0, o0 + 6, none⟩) (sm.drop 1).length (sm.drop 1) from hd)
    have hdl : (sm.drop 1).length = sm.length - 1 := by simp
    have hc31 : ¬ c3 = 1 := by omega
    clear hb hd h0 hC3
    go_wp2_with fail
    rw [← hdl]
    refine (check_tree _ _ (sm.drop 1) _ HD.out).mono ?_
    rw [F2.out]
    rintro e w4 ⟨rfl, hb⟩
    have HB4 := Aside0.mk (HB3.out.trans (hb.mono HB3.out.size))
    clear hb
    go_wp2
    go_meet
    case rel => exact ⟨rfl, rfl, HB4⟩
  case rest =>
    obtain ⟨rfl, rfl, HBc⟩ := hcut
    clear HB2
    go_wp2_with fail
    refine (SA.out _).mono ?_
    rintro e w5 ⟨⟨A5, c5, rfl, hc5, hC5⟩, hb⟩
    have HB5 := Aside0.mk (HBc.out.trans (hb.mono HBc.out.size))
    have HC5 := Aside0.mk hC5
    clear hb hC5
    go_wp2_with fail
    refine (real_any A5 c5 sm ⟨#[108, 47, 115]⟩ _ HC5.out).mono ?_
    rw [show (⟨#[108, 47, 115]⟩ : ByteArray).data.toList = [108, 47, 115] from rfl, F4.out]
    rintro e w6 ⟨rfl, hb⟩
    have HB6 := Aside0.mk (HB5.out.trans (hb.mono HB5.out.size))
    clear hb HB5 HC5 HBc
    go_wp2_with fail
    refine (SA.out _).mono ?_
    rintro e w7 ⟨⟨A7, c7, rfl, hc7, hC7⟩, hb⟩
    have HB7 := Aside0.mk (HB6.out.trans (hb.mono HB6.out.size))
    have HC7 := Aside0.mk hC7
    clear hb hC7
    go_wp2_with fail
    refine (find_any A7 c7 sm ⟨#[97, 47, 104]⟩ _ HC7.out (by omega)).mono ?_
    rw [F3.out]
    rintro e w8 ⟨rfl, hb⟩
    have HB8 := Aside0.mk (HB7.out.trans (hb.mono HB7.out.size))
    clear hb HB7 HC7 HB6
    have e1 : ((bytesOfL [97, 47, 102]).toList == [97, 47, 102]) = true := by decide +kernel
    go_wp2_with fail
    refine (SA.out _).mono ?_
    rintro e w9 ⟨⟨A9, c9, rfl, hc9, hC9⟩, hb⟩
    have HB9 := Aside0.mk (HB8.out.trans (hb.mono HB8.out.size))
    have HC9 := Aside0.mk hC9
    clear hb hC9
    go_wp2_with fail
    refine (tree_beneath A9 c9 sm ⟨#[97]⟩ _ HC9.out (by omega) H4.out).mono ?_
    rintro e w10 ⟨⟨v, rfl, hV⟩, hb⟩
    obtain ⟨A10, c10, rfl⟩ := Kd.V_slice hV
    rw [F5.out]
    have HB10 := Aside0.mk (HB9.out.trans (hb.mono HB9.out.size))
    clear hb hV
    go_wp2
    go_ret
    exact ⟨rfl, HB10.out⟩
end Go.Proofs.YthpecpkncifngaaDoor.X
end

/- The contracts of the law's own lent and kept: a list in memory of its own, with marks behind it and behind each body. -/
section
namespace Go.Proofs.YthpecpkncifngaaDoor.X
open Go.RowKit Go.Shelf Go.Proofs.YthpecpkncifngaaDoor Go.Proofs.YthpecpkncifngaaDoorW.PrintWords Go.Proofs.YthpecpkncifngaaDoorW.PrintLast Go.Proofs.YthpecpkncifngaaDoorW.PrintMore Go.Proofs.YthpecpkncifngaaDoor.Pure
set_option maxRecDepth 100000 in
set_option maxHeartbeats 4000000 in
theorem same_any (A : Option Addr) (c : Nat) (A1 : Option Addr) (c1 : Nat) (xs : List S26) (w : World) (hr : Kd.C k26 w A xs.length xs) (hc : xs.length ≤ c) (hr1 : Kd.C k26 w A1 xs.length xs) (hc1 : xs.length ≤ c1) (hx : xs.length ≤ 140737488355328) :
    Calls Tryd.prog 20 #[.slice A xs.length c, .slice A1 xs.length c1] w fun e w' => e = .returned (.bool true) ∧ Below w.heap.size w w' := by
  have HR := Aside0.mk hr
  have HR1 := Aside0.mk hr1
  clear hr hr1
  go_enter Tryd.func20, Tryd.ntmps20
  go_wp2
  go_loopw [5] (fun i wr => ∃ k : Nat, k ≤ xs.length ∧ i = .int .i64 k ∧ Aside0 (Below w.heap.size w wr)) (fun i _ => xs.length - (intOf i).toNat)
  case atStart => exact ⟨0, Nat.zero_le _, rfl, ⟨Below.refl _ _⟩⟩
  case round =>
    obtain ⟨k, hk, rfl, hB⟩ := hrel
    by_cases hlt : k < xs.length
    · obtain ⟨ad, A4, c4, rfl, h0, h1, h2, h3, h4, h5, hl, hr4⟩ := at_it HR.out hB.out k hlt
      obtain ⟨bd, B4, d4, rfl, g0, g1, g2, g3, g4, g5, gl, gr4⟩ := at_it HR1.out hB.out k hlt
      have lt0 := World.block_lt_of_cell? _ _ g0
      have hbx : Below wr.heap.size wr ((wr.alloc (.cells #[.string (rd_T26 xs k).f0, .int .u8 (rd_T26 xs k).f1, .int .i64 (rd_T26 xs k).f2, .int .i64 (rd_T26 xs k).f3, .slice A4 (rd_T26 xs k).f4.length c4, .string (rd_T26 xs k).f5] 26)).alloc (.cells #[.string (rd_T26 xs k).f0, .int .u8 (rd_T26 xs k).f1, .int .i64 (rd_T26 xs k).f2, .int .i64 (rd_T26 xs k).f3, .slice B4 (rd_T26 xs k).f4.length d4, .string (rd_T26 xs k).f5] 26)) := ((Below.refl _ _).alloc (Nat.le_refl _) _).alloc (by simp) _
      have hcv1 := Kd.C_string (P := Tryd.prog) (A := A4) (c := c4) Tryd.underlying24 Tryd.underlying5 Tryd.underlying9 (Kd.C_below hr4 hbx)
      have hcv2 := Kd.C_string (P := Tryd.prog) (A := B4) (c := d4) Tryd.underlying24 Tryd.underlying5 Tryd.underlying9 (Kd.C_below gr4 hbx)
      have HBX := Aside0.mk (hB.out.trans (hbx.mono hB.out.size))
      clear hr4 gr4 hbx
      go_wp2
      go_roundw
      case rel => exact ⟨k + 1, by omega, by go_num, HBX⟩
      case measure => simp [intOf]; omega
    · go_wp2
      go_ret
      exact ⟨rfl, hB.out⟩
end Go.Proofs.YthpecpkncifngaaDoor.X
end
