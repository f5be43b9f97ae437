/- Texts that the proof leans on, part 3. -/
import Derived.Test.YthpecpkncifngaaDoorZTreeReals1
import Derived.Test.YthpecpkncifngaaDoorZTreeReals2
import Derived.Shelf.Spec.SlicesInsertGrow
import Derived.Laws.CopyOwn
import Derived.DataElems
import Derived.Deep.LoopGhost
set_option linter.unusedVariables false
set_option linter.unusedSimpArgs false
-- PRINTED by print.py (a twelfth state) out of the translation. Not trusted: Lean checks it.
section
namespace Go.Proofs.YthpecpkncifngaaDoor.X
open Go.RowKit Go.Proofs.YthpecpkncifngaaDoorW.PrintWords Go.Proofs.YthpecpkncifngaaDoorW.PrintLast Go.Proofs.YthpecpkncifngaaDoorW.PrintMore
attribute [local go_sem] max2_int min2_int max_two min_two max_three min_three max_four min_four   -- for this text's walks alone
mutual
def tabularyref11_Check.l0 : Nat → List (S26) → Int → Option (Int × Int)
  | 0, _, _ => none
  | k + 1, x0, x4 => if x4 < (x0.length : Int) then (if 0 ≤ x4 then ((tabularyref11_May.f k ((rd_T26 x0 x4).f0) ((rd_T26 x0 x4).f1) ((rd_T26 x0 x4).f2) ((rd_T26 x0 x4).f3) ((rd_T26 x0 x4).f4) ((rd_T26 x0 x4).f5)).bind fun t165 => (if t165 = 0 then (if x4 > 0 then (if 0 ≤ (wrap64 (x4 - 1)) then (if (wrap64 (x4 - 1)) < (x0.length : Int) then ((tabularyref08_Compare.f k ((rd_T26 x0 (wrap64 (x4 - 1))).f0) ((rd_T26 x0 x4).f0)).bind fun t168 => (tabularyref11_Check.j1 k x0 x4 (t168 != (-1)))) else (none)) else (none)) else (tabularyref11_Check.j1 k x0 x4 false)) else (some (x4, t165)))) else (none)) else (some (0, 0))
def tabularyref11_Check.j1 : Nat → List (S26) → Int → Bool → Option (Int × Int)
  | 0, _, _, _ => none
  | k + 1, x0, x4, x41 => if x41 = true then (some (x4, 111)) else (if 0 ≤ x4 then (if x4 < (x0.length : Int) then ((tabularyref08_Up.f k ((rd_T26 x0 x4).f0)).bind fun t170 => (if t170.toList = ([] : List UInt8) then (tabularyref11_Check.j2 k x0 x4 false) else (if x4 ≤ (x0.length : Int) then ((tabularyref11_has.f k (x0.take (x4 : Int).toNat) t170 2).bind fun t175 => (tabularyref11_Check.j2 k x0 x4 (!t175))) else (none)))) else (none)) else (none))
def tabularyref11_Check.j2 : Nat → List (S26) → Int → Bool → Option (Int × Int)
  | 0, _, _, _ => none
  | k + 1, x0, x4, x58 => if x58 = true then (some (x4, 112)) else (if 0 ≤ x4 then (if x4 < (x0.length : Int) then (if ((rd_T26 x0 x4).f1) = 3 then (if x4 ≤ (x0.length : Int) then ((tabularyref11_has.f k (x0.take (x4 : Int).toNat) ((rd_T26 x0 x4).f5) 1).bind fun t182 => (if t182 = true then (tabularyref11_Check.l0 k x0 (wrap64 (x4 + 1))) else (some (x4, 113)))) else (none)) else (tabularyref11_Check.l0 k x0 (wrap64 (x4 + 1)))) else (none)) else (none))
end
def tabularyref11_Check.f (k : Nat) (l0 : List (S26)) : Option (Int × Int) := if (l0.length : Int) > 256 then (some (256, 3)) else (tabularyref11_Check.l0 k l0 0)
def tabularyref11_Check.T9 : Bool × List (List Nat × List Nat) := (true, [([], []), ([0], [0]), ([1], [1]), ([2], [2]), ([2], [2]), ([4, 2], [2, 4]), ([3, 5, 2], [2, 3, 5]), ([6, 2], [2, 6]), ([7, 2], [2, 7]), ([2], [2]), ([2], [2]), ([9, 10, 2], [2, 9, 10]), ([11, 2], [2, 11]), ([12, 2], [2, 12]), ([8, 13, 2, 2], [2, 8, 13]), ([14, 2], [2, 14]), ([2, 15], [2, 15])])
def tabularyref11_Check.B9 : List Nat := [0, 1, 3, 7, 7, 23, 63, 127, 255, 7, 7, 1543, 3591, 7687, 16383, 32767, 65535]
theorem tabularyref11_Check.tab9 : rtab .any (opsOf Tryd.f14 9) = tabularyref11_Check.T9 := by kernel_rfl
theorem tabularyref11_Check.bits9 : waitsOk tabularyref11_Check.T9.2 tabularyref11_Check.B9 = true := by kernel_rfl
def tabularyref11_Check.T14 : Bool × List (List Nat × List Nat) := (true, [([], []), ([], []), ([0, 1], [0, 1]), ([2], [2]), ([3], [3]), ([4], [4]), ([5], [5]), ([6], [6]), ([6], [6]), ([7, 8, 6], [6, 7, 8]), ([6], [6]), ([6], [6]), ([10, 11, 6], [6, 10, 11]), ([12, 6], [6, 12]), ([13, 6], [6, 13]), ([9, 14, 6, 6], [6, 9, 14]), ([15, 6], [6, 15]), ([6, 16], [6, 16])])
def tabularyref11_Check.B14 : List Nat := [0, 0, 3, 7, 15, 31, 63, 127, 127, 511, 127, 127, 3199, 7295, 15487, 32767, 65535, 131071]
theorem tabularyref11_Check.tab14 : rtab .any (opsOf Tryd.f14 14) = tabularyref11_Check.T14 := by kernel_rfl
theorem tabularyref11_Check.bits14 : waitsOk tabularyref11_Check.T14.2 tabularyref11_Check.B14 = true := by kernel_rfl
set_option maxHeartbeats 8000000 in
set_option maxRecDepth 100000 in
theorem tabularyref11_Check.calls (k : Nat) (A0 : Option Addr) (c0 : Nat) (l0 : List (S26)) (r1 : Int) (r2 : Int) (w : World) (hr0 : Kd.C k26 w A0 l0.length l0) (hc0 : l0.length ≤ c0) (h : tabularyref11_Check.f k l0 = some (r1, r2)) :
    Calls Tryd.prog 14 #[.slice A0 l0.length c0] w fun e w' => e = .returned (.tuple #[.int .i64 r1, .int .i64 r2]) ∧ Below w.heap.size w w' := by
  have hu26 := Tryd.underlying26
  have HR0 := Aside0.mk hr0
  have HC0 := Aside0.mk hc0
  clear hr0 hc0
  have HB := Aside0.mk (Below.refl w.heap.size w)
  have H : (if (l0.length : Int) > 256 then (some (256, 3)) else (tabularyref11_Check.l0 k l0 0)) = some (r1, r2) := h
  clear h
  by_cases c2 : (l0.length : Int) > 256
  · rw [if_pos c2] at H
    have c2b0 : decide (256 < (l0.length : Int)) = true := decide_eq_true c2
    have c2b1 : decide (256 < l0.length) = true := decide_eq_true (by omega)
    clear c2
    simp only [Option.some.injEq, Prod.mk.injEq] at H
    obtain ⟨rfl, rfl⟩ := H
    go_enter Tryd.func14, Tryd.ntmps14
    go_wp2
    go_ret2
    exact ⟨by first | rfl | (simp [errW_none, errW_some] <;> rfl) | (simp [*, errW_none, errW_some] <;> rfl), by repeat (first | (with_reducible first | exact HB.out | apply below_alloc | apply pw_below_drewN | apply below_drew1) | exact HB.out)⟩
  · rw [if_neg c2] at H
    have c2b0 : decide (256 < (l0.length : Int)) = false := decide_eq_false c2
    have c2b1 : decide (256 < l0.length) = false := decide_eq_false (by omega)
    clear c2
    have H' := Aside0.mk H
    clear H
    go_enter Tryd.func14, Tryd.ntmps14
    go_wp2
    go_loopg [4] k (fun kq v4 w' => ∃ (x4_1 : Int), v4 = .int .i64 x4_1 ∧ Aside0 (tabularyref11_Check.l0 kq l0 x4_1 = some (r1, r2)) ∧ Aside0 (kq ≤ k) ∧ Aside0 (Below w.heap.size w w'))
    case atStart => exact ⟨(0), (by first | rfl | (simp; done) | (simp [*]; done)), H', ⟨Nat.le_refl _⟩, ⟨by repeat (first | (with_reducible first | exact HB.out | apply below_alloc | apply pw_below_drewN | apply below_drew1) | exact HB.out)⟩⟩
    case round =>
      clear H'
      try clear c1
      try clear c2
      try clear c2b0
      try clear c2b1
      try clear p2
      obtain ⟨x4_1, rfl, HA, HK1, HB⟩ := hrel
      cases gk with
      | zero => exact absurd HA.out (by simp [tabularyref11_Check.l0])
      | succ k1 =>
        have H := HA.out
        clear HA
        simp only [tabularyref11_Check.l0] at H
        by_cases c3 : x4_1 < (l0.length : Int)
        · rw [if_pos c3] at H
          have c3b0 : decide (x4_1 < (l0.length : Int)) = true := decide_eq_true c3
          clear c3
          by_cases c4 : 0 ≤ x4_1
          · rw [if_pos c4] at H
            have c4b0 : decide (0 ≤ x4_1) = true := decide_eq_true c4
            clear c4
            replace H := Option.bind_eq_some_iff.mp H
            obtain ⟨t165, A50, H⟩ := H
            replace H : (if t165 = 0 then (if x4_1 > 0 then (if 0 ≤ (wrap64 (x4_1 - 1)) then (if (wrap64 (x4_1 - 1)) < (l0.length : Int) then ((tabularyref08_Compare.f k1 ((rd_T26 l0 (wrap64 (x4_1 - 1))).f0) ((rd_T26 l0 x4_1).f0)).bind fun t168 => (tabularyref11_Check.j1 k1 l0 x4_1 (t168 != (-1)))) else (none)) else (none)) else (tabularyref11_Check.j1 k1 l0 x4_1 false)) else (some (x4_1, t165))) = some (r1, r2) := H
            have A5 := Aside0.mk A50
            clear A50
            by_cases c6 : t165 = 0
            · rw [if_pos c6] at H
              have c6b0 : (t165 == 0) = true := beq_iff_eq.mpr c6
              have c6b1 : (t165 != 0) = false := bne_eq_false_iff_eq.mpr c6
              clear c6
              have HC7 := Aside0.mk H
              clear H
              have p164 : 0 ≤ (x4_1 : Int) := of_decide_eq_true (by first | (with_reducible assumption) | assumption)
              have q164 : x4_1 < (l0.length : Int) := of_decide_eq_true (by first | (with_reducible assumption) | assumption)
              obtain ⟨ad164, A164_4, c164_4, e164, hx164_0, hx164_1, hx164_2, hx164_3, hx164_4, hx164_5, hl164_4, hi164_4⟩ := at_T26 HR0.out x4_1 p164 q164
              cases e164
              replace hx164_0 := (HB.out.cell (World.block_lt_of_cell? w _ hx164_0)).trans hx164_0
              replace hx164_1 := (HB.out.cell (World.block_lt_of_cell? w _ hx164_1)).trans hx164_1
              replace hx164_2 := (HB.out.cell (World.block_lt_of_cell? w _ hx164_2)).trans hx164_2
              replace hx164_3 := (HB.out.cell (World.block_lt_of_cell? w _ hx164_3)).trans hx164_3
              replace hx164_4 := (HB.out.cell (World.block_lt_of_cell? w _ hx164_4)).trans hx164_4
              replace hx164_5 := (HB.out.cell (World.block_lt_of_cell? w _ hx164_5)).trans hx164_5
              have HR164_4 := Aside0.mk hi164_4
              have HC164_4 := Aside0.mk hl164_4
              clear hi164_4 hl164_4
              replace p164 := eq_true p164
              replace q164 := eq_true q164
              go_upto_region 9 with (first | ((with_reducible refine gate_callee (f := 16) rfl ?_); refine goesL_ (some 20) rfl rfl Tryd.func16 (by kernel_rfl) rfl #[.agg #[.string ((rd_T26 l0 x4_1).f0), .int .u8 ((rd_T26 l0 x4_1).f1), .int .i64 ((rd_T26 l0 x4_1).f2), .int .i64 ((rd_T26 l0 x4_1).f3), .slice A164_4 ((rd_T26 l0 x4_1).f4).length c164_4, .string ((rd_T26 l0 x4_1).f5)]] rfl (by (try simp only [List.map_toArray, List.map_cons, List.map_nil]); first | done | rfl | (simp only [List.length_drop, List.length_take]; rfl)) ?_; (with_reducible refine (tabularyref11_May.calls k1 ((rd_T26 l0 x4_1).f0) ((rd_T26 l0 x4_1).f1) ((rd_T26 l0 x4_1).f2) ((rd_T26 l0 x4_1).f3) _ _ ((rd_T26 l0 x4_1).f4) ((rd_T26 l0 x4_1).f5) t165 _ ?side1 ?side2 A5.out).mono ?_); (case side1 => repeat (first | exact (Kd.C_below HR164_4.out HB.out) | (with_reducible refine Kd.C_alloc ?_ _) | (with_reducible refine Kd.C_drewN ?_ _) | (with_reducible refine Kd.C_drew ?_))); (case side2 => exact HC164_4.out); rintro e w8 ⟨rfl, hb⟩; refine ⟨_, rfl, ?_⟩; have n0_ := Aside0.mk (below_step (by repeat (first | (with_reducible first | exact HB.out | apply below_alloc | apply pw_below_drewN | apply below_drew1) | exact HB.out)) hb); clear HB; have HB := n0_; clear n0_; (try clear hb); (try clear hb2); (try clear hk); (try clear hi)))
              (try simp only [Act.put, List.setIfInBounds_toArray, List.set_cons_zero, List.set_cons_succ])
              go_cut [41] (fun v41 wc => ∃ (kq : Nat) (x41_6 : Bool), v41 = .bool x41_6 ∧ Aside0 (tabularyref11_Check.j1 kq l0 x4_1 x41_6 = some (r1, r2)) ∧ Aside0 (kq ≤ k1) ∧ Aside0 (Below w.heap.size w wc))
              case first =>
                have H := HC7.out
                clear HC7
                by_cases c9 : x4_1 > 0
                · rw [if_pos c9] at H
                  have c9b0 : decide (0 < x4_1) = true := decide_eq_true c9
                  clear c9
                  (first | rw [c9b0] | (simp only [i64_w, i32_w]; rw [c9b0]) | skip)
                  obtain ⟨ji10, hji10⟩ : ∃ j_ : Int, (wrap64 (x4_1 - 1)) = j_ := ⟨_, rfl⟩
                  replace H : (if 0 ≤ (ji10) then (if (ji10) < (l0.length : Int) then ((tabularyref08_Compare.f k1 ((rd_T26 l0 (ji10)).f0) ((rd_T26 l0 x4_1).f0)).bind fun t168 => (tabularyref11_Check.j1 k1 l0 x4_1 (t168 != (-1)))) else (none)) else (none)) = some (r1, r2) := by first | (rw [hji10] at H; exact H) | (simp only [hji10] at H ⊢; exact H)
                  have hji10w : (IntKind.i64.wrap (x4_1 - 1)) = ji10 := (i64_w _).trans hji10
                  by_cases c11 : 0 ≤ (ji10)
                  · rw [if_pos c11] at H
                    have c11b0 : decide (0 ≤ (ji10)) = true := decide_eq_true c11
                    clear c11
                    by_cases c12 : (ji10) < (l0.length : Int)
                    · rw [if_pos c12] at H
                      have c12b0 : decide ((ji10) < (l0.length : Int)) = true := decide_eq_true c12
                      clear c12
                      replace H := Option.bind_eq_some_iff.mp H
                      obtain ⟨t168, A130, H⟩ := H
                      replace H : (tabularyref11_Check.j1 k1 l0 x4_1 (t168 != (-1))) = some (r1, r2) := H
                      have A13 := Aside0.mk A130
                      clear A130
                      have H' := Aside0.mk H
                      clear H
                      try go_wp2
                      have n0_ := Aside0.mk (below_drew1 HB.out)
                      clear HB
                      have HB := n0_
                      clear n0_
                      have p166 : 0 ≤ ((ji10) : Int) := of_decide_eq_true (by first | (with_reducible assumption) | assumption)
                      have q166 : (ji10) < (l0.length : Int) := of_decide_eq_true (by first | (with_reducible assumption) | assumption)
                      obtain ⟨ad166, A166_4, c166_4, e166, hx166_0, hx166_1, hx166_2, hx166_3, hx166_4, hx166_5, hl166_4, hi166_4⟩ := at_T26 HR0.out (ji10) p166 q166
                      have hw166_5 := hx166_5
                      have hw166_4 := hx166_4
                      have hw166_3 := hx166_3
                      have hw166_2 := hx166_2
                      have hw166_1 := hx166_1
                      have hw166_0 := hx166_0
                      obtain rfl : ad164 = ad166 := (by injection e166)
                      replace hx166_0 := (HB.out.cell (World.block_lt_of_cell? w _ hx166_0)).trans hx166_0
                      replace hx166_1 := (HB.out.cell (World.block_lt_of_cell? w _ hx166_1)).trans hx166_1
                      replace hx166_2 := (HB.out.cell (World.block_lt_of_cell? w _ hx166_2)).trans hx166_2
                      replace hx166_3 := (HB.out.cell (World.block_lt_of_cell? w _ hx166_3)).trans hx166_3
                      replace hx166_4 := (HB.out.cell (World.block_lt_of_cell? w _ hx166_4)).trans hx166_4
                      replace hx166_5 := (HB.out.cell (World.block_lt_of_cell? w _ hx166_5)).trans hx166_5
                      have HR166_4 := Aside0.mk hi166_4
                      have HC166_4 := Aside0.mk hl166_4
                      clear hi166_4 hl166_4
                      replace p166 := eq_true p166
                      replace q166 := eq_true q166
                      have p167 : 0 ≤ (x4_1 : Int) := of_decide_eq_true (by first | (with_reducible assumption) | assumption)
                      have q167 : x4_1 < (l0.length : Int) := of_decide_eq_true (by first | (with_reducible assumption) | assumption)
                      obtain ⟨ad167, A167_4, c167_4, e167, hx167_0, hx167_1, hx167_2, hx167_3, hx167_4, hx167_5, hl167_4, hi167_4⟩ := at_T26 HR0.out x4_1 p167 q167
                      have hw167_5 := hx167_5
                      have hw167_4 := hx167_4
                      have hw167_3 := hx167_3
                      have hw167_2 := hx167_2
                      have hw167_1 := hx167_1
                      have hw167_0 := hx167_0
                      obtain rfl : ad164 = ad167 := (by injection e167)
                      replace hx167_0 := (HB.out.cell (World.block_lt_of_cell? w _ hx167_0)).trans hx167_0
                      replace hx167_1 := (HB.out.cell (World.block_lt_of_cell? w _ hx167_1)).trans hx167_1
                      replace hx167_2 := (HB.out.cell (World.block_lt_of_cell? w _ hx167_2)).trans hx167_2
                      replace hx167_3 := (HB.out.cell (World.block_lt_of_cell? w _ hx167_3)).trans hx167_3
                      replace hx167_4 := (HB.out.cell (World.block_lt_of_cell? w _ hx167_4)).trans hx167_4
                      replace hx167_5 := (HB.out.cell (World.block_lt_of_cell? w _ hx167_5)).trans hx167_5
                      have HR167_4 := Aside0.mk hi167_4
                      have HC167_4 := Aside0.mk hl167_4
                      clear hi167_4 hl167_4
                      replace p167 := eq_true p167
                      replace q167 := eq_true q167
                      refine start_ (n := 17) (S := fun w' => w'.cell? (ad164.add (((ji10)).toNat * 6)) = some (.string ((rd_T26 l0 (ji10)).f0)) ∧ w'.cell? ⟨(ad164.add (((ji10)).toNat * 6)).block, (ad164.add (((ji10)).toNat * 6)).off + 1, none⟩ = some (.int .u8 ((rd_T26 l0 (ji10)).f1)) ∧ w'.cell? ⟨(ad164.add (((ji10)).toNat * 6)).block, (ad164.add (((ji10)).toNat * 6)).off + 2, none⟩ = some (.int .i64 ((rd_T26 l0 (ji10)).f2)) ∧ w'.cell? ⟨(ad164.add (((ji10)).toNat * 6)).block, (ad164.add (((ji10)).toNat * 6)).off + 3, none⟩ = some (.int .i64 ((rd_T26 l0 (ji10)).f3)) ∧ w'.cell? ⟨(ad164.add (((ji10)).toNat * 6)).block, (ad164.add (((ji10)).toNat * 6)).off + 4, none⟩ = some (.slice A166_4 ((rd_T26 l0 (ji10)).f4).length c166_4) ∧ w'.cell? ⟨(ad164.add (((ji10)).toNat * 6)).block, (ad164.add (((ji10)).toNat * 6)).off + 5, none⟩ = some (.string ((rd_T26 l0 (ji10)).f5)) ∧ w'.cell? (ad164.add ((x4_1).toNat * 6)) = some (.string ((rd_T26 l0 x4_1).f0)) ∧ w'.cell? ⟨(ad164.add ((x4_1).toNat * 6)).block, (ad164.add ((x4_1).toNat * 6)).off + 1, none⟩ = some (.int .u8 ((rd_T26 l0 x4_1).f1)) ∧ w'.cell? ⟨(ad164.add ((x4_1).toNat * 6)).block, (ad164.add ((x4_1).toNat * 6)).off + 2, none⟩ = some (.int .i64 ((rd_T26 l0 x4_1).f2)) ∧ w'.cell? ⟨(ad164.add ((x4_1).toNat * 6)).block, (ad164.add ((x4_1).toNat * 6)).off + 3, none⟩ = some (.int .i64 ((rd_T26 l0 x4_1).f3)) ∧ w'.cell? ⟨(ad164.add ((x4_1).toNat * 6)).block, (ad164.add ((x4_1).toNat * 6)).off + 4, none⟩ = some (.slice A167_4 ((rd_T26 l0 x4_1).f4).length c167_4) ∧ w'.cell? ⟨(ad164.add ((x4_1).toNat * 6)).block, (ad164.add ((x4_1).toNat * 6)).off + 5, none⟩ = some (.string ((rd_T26 l0 x4_1).f5))) (ds := []) #[false, false, false, false, false, false, false, false, false, false, false, false, false, false, false, false, false] (by kernel_rfl) rfl rfl ⟨((HB.out.cell (World.block_lt_of_cell? w _ hw166_0)).trans hw166_0), ((HB.out.cell (World.block_lt_of_cell? w _ hw166_1)).trans hw166_1), ((HB.out.cell (World.block_lt_of_cell? w _ hw166_2)).trans hw166_2), ((HB.out.cell (World.block_lt_of_cell? w _ hw166_3)).trans hw166_3), ((HB.out.cell (World.block_lt_of_cell? w _ hw166_4)).trans hw166_4), ((HB.out.cell (World.block_lt_of_cell? w _ hw166_5)).trans hw166_5), ((HB.out.cell (World.block_lt_of_cell? w _ hw167_0)).trans hw167_0), ((HB.out.cell (World.block_lt_of_cell? w _ hw167_1)).trans hw167_1), ((HB.out.cell (World.block_lt_of_cell? w _ hw167_2)).trans hw167_2), ((HB.out.cell (World.block_lt_of_cell? w _ hw167_3)).trans hw167_3), ((HB.out.cell (World.block_lt_of_cell? w _ hw167_4)).trans hw167_4), ((HB.out.cell (World.block_lt_of_cell? w _ hw167_5)).trans hw167_5)⟩ (fun hHeld => ?_); refine with_tabW tabularyref11_Check.tab9 tabularyref11_Check.bits9 (fun HT_ HW_ => ?_)
                      generalize w8.drew = w14 at HB HR166_4 HR167_4 hx166_0 hx166_1 hx166_2 hx166_3 hx166_4 hx166_5 hx167_0 hx167_1 hx167_2 hx167_3 hx167_4 hx167_5 hHeld ⊢
                      refine pure_ (i := 0) (N := some 25) (v := ?_) (a' := ?_) #[true, false, false, false, false, false, false, false, false, false, false, false, false, false, false, false, false] rfl rfl (any_of HT_.out (by kernel_rfl)) (fun _ _ _ h => h) (Or.inl ⟨by rfl, ?_⟩) ?_ ?_
                      rotate_left
                      · intro w'
                        go_simp
                        with_reducible rfl
                      rotate_left
                      · simp only [Act.put, List.setIfInBounds_toArray, List.set_cons_zero, List.set_cons_succ, i64_w, i32_w]
                        rfl
                      refine pure_ (i := 1) (N := some 26) (v := ?_) (a' := ?_) #[true, true, false, false, false, false, false, false, false, false, false, false, false, false, false, false, false] rfl rfl (any_of HT_.out (by kernel_rfl)) (fun _ _ _ h => h) (Or.inl ⟨by rfl, ?_⟩) ?_ ?_
                      rotate_left
                      · intro w'
                        go_simp
                        with_reducible rfl
                      rotate_left
                      · simp only [Act.put, List.setIfInBounds_toArray, List.set_cons_zero, List.set_cons_succ, i64_w, i32_w]
                        rfl
                      refine pure_ (i := 2) (N := some 27) (v := ?_) (a' := ?_) #[true, true, true, false, false, false, false, false, false, false, false, false, false, false, false, false, false] rfl rfl (any_of HT_.out (by kernel_rfl)) (fun _ _ _ h => h) (Or.inl ⟨by rfl, ?_⟩) ?_ ?_
                      rotate_left
                      · intro w'
                        go_simp
                        with_reducible rfl
                      rotate_left
                      · simp only [Act.put, List.setIfInBounds_toArray, List.set_cons_zero, List.set_cons_succ, i64_w, i32_w]
                        rfl
                      refine pure_ (i := 3) (N := some 28) (v := ?_) (a' := ?_) #[true, true, true, true, false, false, false, false, false, false, false, false, false, false, false, false, false] rfl rfl (any_of HT_.out (by kernel_rfl)) (fun _ _ _ h => h) (Or.inl ⟨by rfl, ?_⟩) ?_ ?_
                      rotate_left
                      · intro w'
                        go_simp
                        with_reducible rfl
                      rotate_left
                      · simp only [Act.put, List.setIfInBounds_toArray, List.set_cons_zero, List.set_cons_succ, i64_w, i32_w]
                        rfl
                      refine pure_ (i := 4) (N := some 29) (v := ?_) (a' := ?_) #[true, true, true, true, true, false, false, false, false, false, false, false, false, false, false, false, false] rfl rfl (any_of HT_.out (by kernel_rfl)) (fun _ _ _ h => h) (Or.inl ⟨by rfl, ?_⟩) ?_ ?_
                      rotate_left
                      · intro w'
                        go_simp
                        with_reducible rfl
                      rotate_left
                      · simp only [Act.put, List.setIfInBounds_toArray, List.set_cons_zero, List.set_cons_succ, i64_w, i32_w]
                        rfl
                      refine pure_ (i := 5) (N := some 30) (v := ?_) (a' := ?_) #[true, true, true, true, true, true, false, false, false, false, false, false, false, false, false, false, false] rfl rfl (any_of HT_.out (by kernel_rfl)) (fun _ _ _ h => h) (Or.inl ⟨by rfl, ?_⟩) ?_ ?_
                      rotate_left
                      · intro w'
                        go_simp
                        with_reducible rfl
                      rotate_left
                      · simp only [Act.put, List.setIfInBounds_toArray, List.set_cons_zero, List.set_cons_succ, i64_w, i32_w]
                        rfl
                      refine pure_ (i := 6) (N := some 31) (v := ?_) (a' := ?_) #[true, true, true, true, true, true, true, false, false, false, false, false, false, false, false, false, false] rfl rfl (any_of HT_.out (by kernel_rfl)) (fun _ _ _ h => h) (Or.inl ⟨by rfl, ?_⟩) ?_ ?_
                      rotate_left
                      · intro w'
                        go_simp
                        with_reducible rfl
                      rotate_left
                      · simp only [Act.put, List.setIfInBounds_toArray, List.set_cons_zero, List.set_cons_succ, i64_w, i32_w]
                        rfl
                      refine pure_ (i := 7) (N := some 32) (v := ?_) (a' := ?_) #[true, true, true, true, true, true, true, true, false, false, false, false, false, false, false, false, false] rfl rfl (any_of HT_.out (by kernel_rfl)) (fun _ _ _ h => h) (Or.inl ⟨by rfl, ?_⟩) ?_ ?_
                      rotate_left
                      · intro w'
                        go_simp
                        with_reducible rfl
                      rotate_left
                      · simp only [Act.put, List.setIfInBounds_toArray, List.set_cons_zero, List.set_cons_succ, i64_w, i32_w]
                        rfl
                      refine pure_ (i := 9) (N := some 34) (v := ?_) (a' := ?_) #[true, true, true, true, true, true, true, true, false, true, false, false, false, false, false, false, false] rfl rfl (any_of HT_.out (by kernel_rfl)) (fun _ _ _ h => h) (Or.inl ⟨by rfl, ?_⟩) ?_ ?_
                      rotate_left
                      · intro w'
                        go_simp
                        with_reducible rfl
                      rotate_left
                      · simp only [Act.put, List.setIfInBounds_toArray, List.set_cons_zero, List.set_cons_succ, i64_w, i32_w]
                        rfl
                      refine pure_ (i := 10) (N := some 35) (v := ?_) (a' := ?_) #[true, true, true, true, true, true, true, true, false, true, true, false, false, false, false, false, false] rfl rfl (any_of HT_.out (by kernel_rfl)) (fun _ _ _ h => h) (Or.inl ⟨by rfl, ?_⟩) ?_ ?_
                      rotate_left
                      · intro w'
                        go_simp
                        with_reducible rfl
                      rotate_left
                      · simp only [Act.put, List.setIfInBounds_toArray, List.set_cons_zero, List.set_cons_succ, i64_w, i32_w]
                        rfl
                      refine pure_ (i := 11) (N := some 36) (v := ?_) (a' := ?_) #[true, true, true, true, true, true, true, true, false, true, true, true, false, false, false, false, false] rfl rfl (any_of HT_.out (by kernel_rfl)) (fun _ _ _ h => h) (Or.inl ⟨by rfl, ?_⟩) ?_ ?_
                      rotate_left
                      · intro w'
                        go_simp
                        with_reducible rfl
                      rotate_left
                      · simp only [Act.put, List.setIfInBounds_toArray, List.set_cons_zero, List.set_cons_succ, i64_w, i32_w]
                        rfl
                      refine pure_ (i := 12) (N := some 37) (v := ?_) (a' := ?_) #[true, true, true, true, true, true, true, true, false, true, true, true, true, false, false, false, false] rfl rfl (any_of HT_.out (by kernel_rfl)) (fun _ _ _ h => h) (Or.inl ⟨by rfl, ?_⟩) ?_ ?_
                      rotate_left
                      · intro w'
                        go_simp
                        with_reducible rfl
                      rotate_left
                      · simp only [Act.put, List.setIfInBounds_toArray, List.set_cons_zero, List.set_cons_succ, i64_w, i32_w]
                        rfl
                      refine take_ (i := 8) (N := some 33) (v := ?_) (a' := ?_) #[true, true, true, true, true, true, true, true, true, true, true, true, true, false, false, false, false] rfl rfl (take_ofW HT_.out HW_.out (by kernel_rfl)) (fun _ _ _ h => h) (Or.inl ⟨by rfl, ?_⟩) hHeld ?_ ?_
                      rotate_left
                      · rintro w' ⟨s0, s1, s2, s3, s4, s5, s6, s7, s8, s9, s10, s11⟩
                        go_simp
                        with_reducible rfl
                      rotate_left
                      · simp only [Act.put, List.setIfInBounds_toArray, List.set_cons_zero, List.set_cons_succ, i64_w, i32_w]
                        rfl
                      refine take_ (i := 13) (N := some 38) (v := ?_) (a' := ?_) #[true, true, true, true, true, true, true, true, true, true, true, true, true, true, false, false, false] rfl rfl (take_ofW HT_.out HW_.out (by kernel_rfl)) (fun _ _ _ h => h) (Or.inl ⟨by rfl, ?_⟩) hHeld ?_ ?_
                      rotate_left
                      · rintro w' ⟨s0, s1, s2, s3, s4, s5, s6, s7, s8, s9, s10, s11⟩
                        go_simp
                        with_reducible rfl
                      rotate_left
                      · simp only [Act.put, List.setIfInBounds_toArray, List.set_cons_zero, List.set_cons_succ, i64_w, i32_w]
                        rfl
                      refine one_ (i := 14) (N := some 39) #[true, true, true, true, true, true, true, true, true, true, true, true, true, true, true, false, false] rfl rfl (one_of HT_.out (by kernel_rfl)) (by decide) (fun K hK => ?_)
                      refine goes_ Tryd.func37 (by kernel_rfl) rfl #[.string ((rd_T26 l0 (ji10)).f0), .string ((rd_T26 l0 x4_1).f0)] (by rfl) rfl rfl (by (try simp only [List.map_toArray, List.map_cons, List.map_nil]); first | done | (simp only [hji10]; rfl) | rfl | (simp only [List.length_drop, List.length_take]; rfl)) ?_
                      with_reducible refine (tabularyref08_Compare.calls k1 ((rd_T26 l0 (ji10)).f0) ((rd_T26 l0 x4_1).f0) t168 _ A13.out).mono ?_
                      rintro e w15 ⟨rfl, hb⟩
                      refine ⟨_, rfl, ?_⟩
                      have n0_ := Aside0.mk (below_step (by repeat (first | (with_reducible first | exact HB.out | apply below_alloc | apply pw_below_drewN | apply below_drew1) | exact HB.out)) hb)
                      clear HB
                      have HB := n0_
                      clear n0_
                      (try clear hb)
                      (try clear hb2)
                      (try clear hk)
                      (try clear hi)
                      refine hK.out _ _ ⟨((HB.out.cell (World.block_lt_of_cell? w _ hw166_0)).trans hw166_0), ((HB.out.cell (World.block_lt_of_cell? w _ hw166_1)).trans hw166_1), ((HB.out.cell (World.block_lt_of_cell? w _ hw166_2)).trans hw166_2), ((HB.out.cell (World.block_lt_of_cell? w _ hw166_3)).trans hw166_3), ((HB.out.cell (World.block_lt_of_cell? w _ hw166_4)).trans hw166_4), ((HB.out.cell (World.block_lt_of_cell? w _ hw166_5)).trans hw166_5), ((HB.out.cell (World.block_lt_of_cell? w _ hw167_0)).trans hw167_0), ((HB.out.cell (World.block_lt_of_cell? w _ hw167_1)).trans hw167_1), ((HB.out.cell (World.block_lt_of_cell? w _ hw167_2)).trans hw167_2), ((HB.out.cell (World.block_lt_of_cell? w _ hw167_3)).trans hw167_3), ((HB.out.cell (World.block_lt_of_cell? w _ hw167_4)).trans hw167_4), ((HB.out.cell (World.block_lt_of_cell? w _ hw167_5)).trans hw167_5)⟩ (fun hHeld => ?_)
                      clear hK K
                      refine norm_ (a' := ?_) ?_ ?_
                      rotate_left
                      · show Act.put _ (some 39) _ = _
                        simp only [Act.put, List.setIfInBounds_toArray, List.set_cons_zero, List.set_cons_succ, i64_w, i32_w]
                        rfl
                      refine pure_ (i := 15) (N := some 40) (v := ?_) (a' := ?_) #[true, true, true, true, true, true, true, true, true, true, true, true, true, true, true, true, false] rfl rfl (any_of HT_.out (by kernel_rfl)) (fun _ _ _ h => h) (Or.inl ⟨by rfl, ?_⟩) ?_ ?_
                      rotate_left
                      · intro w'
                        go_simp
                        with_reducible rfl
                      rotate_left
                      · simp only [Act.put, List.setIfInBounds_toArray, List.set_cons_zero, List.set_cons_succ, i64_w, i32_w]
                        rfl
                      refine pure_ (i := 16) (N := some 41) (v := ?_) (a' := ?_) #[true, true, true, true, true, true, true, true, true, true, true, true, true, true, true, true, true] rfl rfl (any_of HT_.out (by kernel_rfl)) (fun _ _ _ h => h) (Or.inl ⟨by rfl, ?_⟩) ?_ ?_
                      rotate_left
                      · intro w'
                        go_simp
                        with_reducible rfl
                      rotate_left
                      · simp only [Act.put, List.setIfInBounds_toArray, List.set_cons_zero, List.set_cons_succ, i64_w, i32_w]
                        rfl
                      refine done_ (done_of HT_.out (by kernel_rfl)) ?_
                      try go_wp2
                      go_meet
                      case rel => exact ⟨_, ((t168 != (-1))), (by first | rfl | (simp; done) | (simp [*]; done)), H', ⟨by have := HK1.out; first | omega | exact Nat.le_refl _⟩, ⟨by repeat (first | (with_reducible first | exact HB.out | apply below_alloc | apply pw_below_drewN | apply below_drew1) | exact HB.out)⟩⟩
                    · rw [if_neg c12] at H
                      exact absurd H (by simp)
                  · rw [if_neg c11] at H
                    exact absurd H (by simp)
                · rw [if_neg c9] at H
                  have c9b0 : decide (0 < x4_1) = false := decide_eq_false c9
                  clear c9
                  (first | rw [c9b0] | (simp only [i64_w, i32_w]; rw [c9b0]) | skip)
                  have H' := Aside0.mk H
                  clear H
                  try go_wp2
                  have n0_ := Aside0.mk (below_drew1 HB.out)
                  clear HB
                  have HB := n0_
                  clear n0_
                  refine start_ (n := 17) (S := fun w' => True) (ds := []) #[false, false, false, false, false, false, false, false, false, false, false, false, false, false, false, false, false] (by kernel_rfl) rfl rfl trivial (fun hHeld => ?_); refine with_tabW tabularyref11_Check.tab9 tabularyref11_Check.bits9 (fun HT_ HW_ => ?_)
                  generalize w8.drew = w16 at HB hHeld ⊢
                  refine pure_ (i := 0) (N := some 25) (v := ?_) (a' := ?_) #[true, false, false, false, false, false, false, false, false, false, false, false, false, false, false, false, false] rfl rfl (any_of HT_.out (by kernel_rfl)) (fun _ _ _ h => h) (Or.inl ⟨by rfl, ?_⟩) ?_ ?_
                  rotate_left
                  · intro w'
                    go_simp
                    with_reducible rfl
                  rotate_left
                  · simp only [Act.put, List.setIfInBounds_toArray, List.set_cons_zero, List.set_cons_succ, i64_w, i32_w]
                    rfl
                  refine pure_ (i := 1) (N := some 26) (v := ?_) (a' := ?_) #[true, true, false, false, false, false, false, false, false, false, false, false, false, false, false, false, false] rfl rfl (any_of HT_.out (by kernel_rfl)) (fun _ _ _ h => h) (Or.inl ⟨by rfl, ?_⟩) ?_ ?_
                  rotate_left
                  · intro w'
                    go_simp
                    with_reducible rfl
                  rotate_left
                  · simp only [Act.put, List.setIfInBounds_toArray, List.set_cons_zero, List.set_cons_succ, i64_w, i32_w]
                    rfl
                  refine pure_ (i := 2) (N := some 27) (v := ?_) (a' := ?_) #[true, true, true, false, false, false, false, false, false, false, false, false, false, false, false, false, false] rfl rfl (any_of HT_.out (by kernel_rfl)) (fun _ _ _ h => h) (Or.inl ⟨by rfl, ?_⟩) ?_ ?_
                  rotate_left
                  · intro w'
                    go_simp
                    with_reducible rfl
                  rotate_left
                  · simp only [Act.put, List.setIfInBounds_toArray, List.set_cons_zero, List.set_cons_succ, i64_w, i32_w]
                    rfl
                  refine pure_ (i := 3) (N := some 28) (v := undef) (a' := ?_) #[true, true, true, true, false, false, false, false, false, false, false, false, false, false, false, false, false] rfl rfl (any_of HT_.out (by kernel_rfl)) (fun _ _ _ h => h) (Or.inr ⟨by rfl, rfl⟩) ?_ ?_
                  rotate_left
                  · simp only [Act.put, List.setIfInBounds_toArray, List.set_cons_zero, List.set_cons_succ, i64_w, i32_w]
                    rfl
                  refine pure_ (i := 4) (N := some 29) (v := undef) (a' := ?_) #[true, true, true, true, true, false, false, false, false, false, false, false, false, false, false, false, false] rfl rfl (any_of HT_.out (by kernel_rfl)) (fun _ _ _ h => h) (Or.inr ⟨by rfl, rfl⟩) ?_ ?_
                  rotate_left
                  · simp only [Act.put, List.setIfInBounds_toArray, List.set_cons_zero, List.set_cons_succ, i64_w, i32_w]
                    rfl
                  refine pure_ (i := 5) (N := some 30) (v := undef) (a' := ?_) #[true, true, true, true, true, true, false, false, false, false, false, false, false, false, false, false, false] rfl rfl (any_of HT_.out (by kernel_rfl)) (fun _ _ _ h => h) (Or.inr ⟨by rfl, rfl⟩) ?_ ?_
                  rotate_left
                  · simp only [Act.put, List.setIfInBounds_toArray, List.set_cons_zero, List.set_cons_succ, i64_w, i32_w]
                    rfl
                  refine pure_ (i := 6) (N := some 31) (v := undef) (a' := ?_) #[true, true, true, true, true, true, true, false, false, false, false, false, false, false, false, false, false] rfl rfl (any_of HT_.out (by kernel_rfl)) (fun _ _ _ h => h) (Or.inr ⟨by rfl, rfl⟩) ?_ ?_
                  rotate_left
                  · simp only [Act.put, List.setIfInBounds_toArray, List.set_cons_zero, List.set_cons_succ, i64_w, i32_w]
                    rfl
                  refine pure_ (i := 7) (N := some 32) (v := undef) (a' := ?_) #[true, true, true, true, true, true, true, true, false, false, false, false, false, false, false, false, false] rfl rfl (any_of HT_.out (by kernel_rfl)) (fun _ _ _ h => h) (Or.inr ⟨by rfl, rfl⟩) ?_ ?_
                  rotate_left
                  · simp only [Act.put, List.setIfInBounds_toArray, List.set_cons_zero, List.set_cons_succ, i64_w, i32_w]
                    rfl
                  refine pure_ (i := 8) (N := some 33) (v := undef) (a' := ?_) #[true, true, true, true, true, true, true, true, true, false, false, false, false, false, false, false, false] rfl rfl (any_of HT_.out (by kernel_rfl)) (fun _ _ _ h => h) (Or.inr ⟨by rfl, rfl⟩) ?_ ?_
                  rotate_left
                  · simp only [Act.put, List.setIfInBounds_toArray, List.set_cons_zero, List.set_cons_succ, i64_w, i32_w]
                    rfl
                  refine pure_ (i := 9) (N := some 34) (v := undef) (a' := ?_) #[true, true, true, true, true, true, true, true, true, true, false, false, false, false, false, false, false] rfl rfl (any_of HT_.out (by kernel_rfl)) (fun _ _ _ h => h) (Or.inr ⟨by rfl, rfl⟩) ?_ ?_
                  rotate_left
                  · simp only [Act.put, List.setIfInBounds_toArray, List.set_cons_zero, List.set_cons_succ, i64_w, i32_w]
                    rfl
                  refine pure_ (i := 10) (N := some 35) (v := undef) (a' := ?_) #[true, true, true, true, true, true, true, true, true, true, true, false, false, false, false, false, false] rfl rfl (any_of HT_.out (by kernel_rfl)) (fun _ _ _ h => h) (Or.inr ⟨by rfl, rfl⟩) ?_ ?_
                  rotate_left
                  · simp only [Act.put, List.setIfInBounds_toArray, List.set_cons_zero, List.set_cons_succ, i64_w, i32_w]
                    rfl
                  refine pure_ (i := 11) (N := some 36) (v := undef) (a' := ?_) #[true, true, true, true, true, true, true, true, true, true, true, true, false, false, false, false, false] rfl rfl (any_of HT_.out (by kernel_rfl)) (fun _ _ _ h => h) (Or.inr ⟨by rfl, rfl⟩) ?_ ?_
                  rotate_left
                  · simp only [Act.put, List.setIfInBounds_toArray, List.set_cons_zero, List.set_cons_succ, i64_w, i32_w]
                    rfl
                  refine pure_ (i := 12) (N := some 37) (v := undef) (a' := ?_) #[true, true, true, true, true, true, true, true, true, true, true, true, true, false, false, false, false] rfl rfl (any_of HT_.out (by kernel_rfl)) (fun _ _ _ h => h) (Or.inr ⟨by rfl, rfl⟩) ?_ ?_
                  rotate_left
                  · simp only [Act.put, List.setIfInBounds_toArray, List.set_cons_zero, List.set_cons_succ, i64_w, i32_w]
                    rfl
                  refine pure_ (i := 13) (N := some 38) (v := undef) (a' := ?_) #[true, true, true, true, true, true, true, true, true, true, true, true, true, true, false, false, false] rfl rfl (any_of HT_.out (by kernel_rfl)) (fun _ _ _ h => h) (Or.inr ⟨by rfl, rfl⟩) ?_ ?_
                  rotate_left
                  · simp only [Act.put, List.setIfInBounds_toArray, List.set_cons_zero, List.set_cons_succ, i64_w, i32_w]
                    rfl
                  refine pure_ (i := 14) (N := some 39) (v := undef) (a' := ?_) #[true, true, true, true, true, true, true, true, true, true, true, true, true, true, true, false, false] rfl rfl (any_of HT_.out (by kernel_rfl)) (fun _ _ _ h => h) (Or.inr ⟨by rfl, rfl⟩) ?_ ?_
                  rotate_left
                  · simp only [Act.put, List.setIfInBounds_toArray, List.set_cons_zero, List.set_cons_succ, i64_w, i32_w]
                    rfl
                  refine pure_ (i := 15) (N := some 40) (v := undef) (a' := ?_) #[true, true, true, true, true, true, true, true, true, true, true, true, true, true, true, true, false] rfl rfl (any_of HT_.out (by kernel_rfl)) (fun _ _ _ h => h) (Or.inr ⟨by rfl, rfl⟩) ?_ ?_
                  rotate_left
                  · simp only [Act.put, List.setIfInBounds_toArray, List.set_cons_zero, List.set_cons_succ, i64_w, i32_w]
                    rfl
                  refine pure_ (i := 16) (N := some 41) (v := ?_) (a' := ?_) #[true, true, true, true, true, true, true, true, true, true, true, true, true, true, true, true, true] rfl rfl (any_of HT_.out (by kernel_rfl)) (fun _ _ _ h => h) (Or.inl ⟨by rfl, ?_⟩) ?_ ?_
                  rotate_left
                  · intro w'
                    go_simp
                    with_reducible rfl
                  rotate_left
                  · simp only [Act.put, List.setIfInBounds_toArray, List.set_cons_zero, List.set_cons_succ, i64_w, i32_w]
                    rfl
                  refine done_ (done_of HT_.out (by kernel_rfl)) ?_
                  try go_wp2
                  go_meet
                  case rel => exact ⟨_, (false), (by first | rfl | (simp; done) | (simp [*]; done)), H', ⟨by have := HK1.out; first | omega | exact Nat.le_refl _⟩, ⟨by repeat (first | (with_reducible first | exact HB.out | apply below_alloc | apply pw_below_drewN | apply below_drew1) | exact HB.out)⟩⟩
              case rest =>
                clear HC7
                try clear c1
                try clear p1
                try clear q1
                try clear hx1
                try clear c2
                try clear c2b0
                try clear c2b1
                try clear p2
                try clear c3
                try clear c3b0
                try clear c4
                try clear c4b0
                try clear c6
                try clear c6b0
                try clear c6b1
                try clear p6
                try clear c9
                try clear c9b0
                try clear c11
                try clear c11b0
                try clear c12
                try clear c12b0
                try clear c14
                try clear c16
                try clear p16
                try clear q16
                try clear hx16
                try clear hx164_0
                try clear hx164_1
                try clear hx164_2
                try clear hx164_3
                try clear hx164_4
                try clear hx164_5
                try clear hx166_0
                try clear hx166_1
                try clear hx166_2
                try clear hx166_3
                try clear hx166_4
                try clear hx166_5
                try clear hx167_0
                try clear hx167_1
                try clear hx167_2
                try clear hx167_3
                try clear hx167_4
                try clear hx167_5
                try clear p164
                try clear p166
                try clear p167
                try clear p2
                try clear q164
                try clear q166
                try clear q167
                obtain ⟨kq, x41_6, rfl, HA, HJ6, HB⟩ := hcut
                cases kq with
                | zero => exact absurd HA.out (by simp [tabularyref11_Check.j1])
                | succ kj6 =>
                  have H := HA.out
                  clear HA
                  simp only [tabularyref11_Check.j1] at H
                  by_cases c17 : x41_6 = true
                  · subst c17
                    have H1 : (some (x4_1, 111)) = some (r1, r2) := by rw [if_pos rfl] at H; exact H
                    clear H
                    have H := H1
                    clear H1
                    simp only [Option.some.injEq, Prod.mk.injEq] at H
                    obtain ⟨rfl, rfl⟩ := H
                    go_wp2
                    go_ret2
                    exact ⟨by first | rfl | (simp [errW_none, errW_some] <;> rfl) | (simp [*, errW_none, errW_some] <;> rfl), by repeat (first | (with_reducible first | exact HB.out | apply below_alloc | apply pw_below_drewN | apply below_drew1) | exact HB.out)⟩
                  · replace c17 := Bool.eq_false_iff.mpr c17
                    subst c17
                    have H1 : (if 0 ≤ x4_1 then (if x4_1 < (l0.length : Int) then ((tabularyref08_Up.f kj6 ((rd_T26 l0 x4_1).f0)).bind fun t170 => (if t170.toList = ([] : List UInt8) then (tabularyref11_Check.j2 kj6 l0 x4_1 false) else (if x4_1 ≤ (l0.length : Int) then ((tabularyref11_has.f kj6 (l0.take (x4_1 : Int).toNat) t170 2).bind fun t175 => (tabularyref11_Check.j2 kj6 l0 x4_1 (!t175))) else (none)))) else (none)) else (none)) = some (r1, r2) := by rw [if_neg (show ¬ (false = true) by decide)] at H; exact H
                    clear H
                    have H := H1
                    clear H1
                    by_cases c18 : 0 ≤ x4_1
                    · rw [if_pos c18] at H
                      have c18b0 : decide (0 ≤ x4_1) = true := decide_eq_true c18
                      clear c18
                      by_cases c19 : x4_1 < (l0.length : Int)
                      · rw [if_pos c19] at H
                        have c19b0 : decide (x4_1 < (l0.length : Int)) = true := decide_eq_true c19
                        clear c19
                        replace H := Option.bind_eq_some_iff.mp H
                        obtain ⟨t170, A200, H⟩ := H
                        replace H : (if t170.toList = ([] : List UInt8) then (tabularyref11_Check.j2 kj6 l0 x4_1 false) else (if x4_1 ≤ (l0.length : Int) then ((tabularyref11_has.f kj6 (l0.take (x4_1 : Int).toNat) t170 2).bind fun t175 => (tabularyref11_Check.j2 kj6 l0 x4_1 (!t175))) else (none))) = some (r1, r2) := H
                        have A20 := Aside0.mk A200
                        clear A200
                        have HC21 := Aside0.mk H
                        clear H
                        have p169 : 0 ≤ (x4_1 : Int) := of_decide_eq_true (by first | (with_reducible assumption) | assumption)
                        have q169 : x4_1 < (l0.length : Int) := of_decide_eq_true (by first | (with_reducible assumption) | assumption)
                        obtain ⟨ad169, A169_4, c169_4, e169, hx169_0, hx169_1, hx169_2, hx169_3, hx169_4, hx169_5, hl169_4, hi169_4⟩ := at_T26 HR0.out x4_1 p169 q169
                        obtain rfl : ad164 = ad169 := (by injection e169)
                        replace hx169_0 := (HB.out.cell (World.block_lt_of_cell? w _ hx169_0)).trans hx169_0
                        replace hx169_1 := (HB.out.cell (World.block_lt_of_cell? w _ hx169_1)).trans hx169_1
                        replace hx169_2 := (HB.out.cell (World.block_lt_of_cell? w _ hx169_2)).trans hx169_2
                        replace hx169_3 := (HB.out.cell (World.block_lt_of_cell? w _ hx169_3)).trans hx169_3
                        replace hx169_4 := (HB.out.cell (World.block_lt_of_cell? w _ hx169_4)).trans hx169_4
                        replace hx169_5 := (HB.out.cell (World.block_lt_of_cell? w _ hx169_5)).trans hx169_5
                        have HR169_4 := Aside0.mk hi169_4
                        have HC169_4 := Aside0.mk hl169_4
                        clear hi169_4 hl169_4
                        replace p169 := eq_true p169
                        replace q169 := eq_true q169
                        go_upto_region 12 with (first | ((with_reducible refine gate_callee (f := 38) rfl ?_); refine goesL_ (some 48) rfl rfl Tryd.func38 (by kernel_rfl) rfl #[.string ((rd_T26 l0 x4_1).f0)] rfl (by (try simp only [List.map_toArray, List.map_cons, List.map_nil]); first | done | rfl | (simp only [List.length_drop, List.length_take]; rfl)) ?_; (with_reducible refine (tabularyref08_Up.calls kj6 ((rd_T26 l0 x4_1).f0) t170 _ A20.out).mono ?_); rintro e w22 ⟨rfl, hb⟩; refine ⟨_, rfl, ?_⟩; have n0_ := Aside0.mk (below_step (by repeat (first | (with_reducible first | exact HB.out | apply below_alloc | apply pw_below_drewN | apply below_drew1) | exact HB.out)) hb); clear HB; have HB := n0_; clear n0_; (try clear hb); (try clear hb2); (try clear hk); (try clear hi)))
                        (try simp only [Act.put, List.setIfInBounds_toArray, List.set_cons_zero, List.set_cons_succ])
                        go_cut [58] (fun v58 wc => ∃ (kq : Nat) (x58_20 : Bool), v58 = .bool x58_20 ∧ Aside0 (tabularyref11_Check.j2 kq l0 x4_1 x58_20 = some (r1, r2)) ∧ Aside0 (kq ≤ kj6) ∧ Aside0 (Below w.heap.size w wc))
                        case first =>
                          have H := HC21.out
                          clear HC21
                          by_cases c23 : t170.toList = ([] : List UInt8)
                          · rw [if_pos c23] at H
                            have c23b0 : (t170.toList == ([] : List UInt8)) = true := beq_iff_eq.mpr c23
                            have c23b1 : (t170.toList != ([] : List UInt8)) = false := bne_eq_false_iff_eq.mpr c23
                            clear c23
                            (first | rw [c23b0] | (simp only [i64_w, i32_w]; rw [c23b0]) | skip)
                            have H' := Aside0.mk H
                            clear H
                            go_wp2
                            go_meet
                            case rel => exact ⟨_, (false), (by first | rfl | (simp; done) | (simp [*]; done)), H', ⟨by have := HK1.out; have := HJ6.out; first | omega | exact Nat.le_refl _⟩, ⟨by repeat (first | (with_reducible first | exact HB.out | apply below_alloc | apply pw_below_drewN | apply below_drew1) | exact HB.out)⟩⟩
                          · rw [if_neg c23] at H
                            have c23b0 : (t170.toList == ([] : List UInt8)) = false := beq_eq_false_iff_ne.mpr c23
                            have c23b1 : (t170.toList != ([] : List UInt8)) = true := bne_iff_ne.mpr c23
                            (first | rw [c23b0] | (simp only [i64_w, i32_w]; rw [c23b0]) | skip)
                            have c24b0 := eq_true (of_decide_eq_true (by first | (with_reducible assumption) | assumption) : 0 ≤ x4_1)
                            by_cases c25 : x4_1 ≤ (l0.length : Int)
                            · rw [if_pos c25] at H
                              have c25b0 := eq_true c25
                              have c25b1 : decide (x4_1 ≤ (l0.length : Int)) = true := decide_eq_true c25
                              clear c25
                              obtain ⟨y171, hy171⟩ : ∃ y_ : List (S26), y_ = (l0.take (x4_1 : Int).toNat) := ⟨_, rfl⟩
                              replace H : ((tabularyref11_has.f kj6 y171 t170 2).bind fun t175 => (tabularyref11_Check.j2 kj6 l0 x4_1 (!t175))) = some (r1, r2) := by first | (rw [hy171]; with_reducible exact H) | (have H2_ := (Option.bind_some _ _).symm.trans H; rw [hy171]; with_reducible exact H2_) | (have H2_ := (Option.bind_some _ _).symm.trans H; with_reducible exact H2_) | with_reducible exact H | (rw [hy171]; exact H) | exact H
                              have Ny171 := Aside0.mk hy171
                              clear hy171
                              replace H := Option.bind_eq_some_iff.mp H
                              obtain ⟨t175, A260, H⟩ := H
                              replace H : (tabularyref11_Check.j2 kj6 l0 x4_1 (!t175)) = some (r1, r2) := H
                              have A26 := Aside0.mk A260
                              clear A260
                              have H' := Aside0.mk H
                              clear H
                              have q27 : (x4_1 : Int) ≤ ((l0.length : Int) : Int) := of_decide_eq_true (by first | (with_reducible assumption) | assumption)
                              obtain ⟨i027, hi027, _, hsz27, _⟩ := info_parts info26
                              have hroom27 : l0.length ≤ c0 := HC0.out
                              have hC27 : Kd.C k26 _ (some ad164) l0.length l0 := HR0.out
                              have hcut27 := cut_to (P := Tryd.prog) 22 26 .i64 Tryd.underlying22 hi027 (some ad164) l0.length c0 x4_1 (of_decide_eq_true (by first | (with_reducible assumption) | assumption)) q27 hroom27
                              have hr27 := Kd.C_take (m := (x4_1 : Int).toNat) hC27 (by omega)
                              have hy27 : y171.length = (x4_1 : Int).toNat := (by rw [Ny171.out, List.length_take]; omega)
                              rw [← Ny171.out] at hr27
                              rw [← hy27] at hcut27
                              have HR174 := Aside0.mk hr27
                              have HC174 := Aside0.mk (show y171.length ≤ c0 from by omega)
                              clear hr27 hC27 hroom27 hi027 hsz27
                              have KY27 := Aside0.mk hy27
                              clear hy27
                              replace q27 := eq_true q27
                              go_wp2_with (first | (go_at_call 39; (with_reducible refine (tabularyref11_has.calls kj6 _ _ y171 t170 2 t175 _ ?side1 ?side2 A26.out).mono ?_); (case side1 => repeat (first | exact (Kd.C_below HR174.out HB.out) | (with_reducible refine Kd.C_alloc ?_ _) | (with_reducible refine Kd.C_drewN ?_ _) | (with_reducible refine Kd.C_drew ?_))); (case side2 => exact HC174.out); rintro e w' ⟨rfl, ⟨nd, rfl⟩⟩))
                              go_meet
                              case rel => exact ⟨_, (!t175), (by first | rfl | (simp; done) | (simp [*]; done)), H', ⟨by have := HK1.out; have := HJ6.out; first | omega | exact Nat.le_refl _⟩, ⟨by repeat (first | (with_reducible first | exact HB.out | apply below_alloc | apply pw_below_drewN | apply below_drew1) | exact HB.out)⟩⟩
                            · rw [if_neg c25] at H
                              exact absurd H (by simp)
                        case rest =>
                          clear HC21
                          try clear c1
                          try clear p1
                          try clear q1
                          try clear hx1
                          try clear c2
                          try clear c2b0
                          try clear c2b1
                          try clear p2
                          try clear q2
                          try clear c3
                          try clear c3b0
                          try clear c4
                          try clear c4b0
                          try clear c6
                          try clear c6b0
                          try clear c6b1
                          try clear p6
                          try clear c9
                          try clear c9b0
                          try clear c11
                          try clear c11b0
                          try clear c12
                          try clear c12b0
                          try clear c14
                          try clear c16
                          try clear p16
                          try clear q16
                          try clear hx16
                          try clear c17
                          try clear c18
                          try clear c18b0
                          try clear c19
                          try clear c19b0
                          try clear c23
                          try clear c23b0
                          try clear c23b1
                          try clear c24
                          try clear c24b0
                          try clear c25
                          try clear c25b0
                          try clear c25b1
                          try clear q27
                          try clear hx164_0
                          try clear hx164_1
                          try clear hx164_2
                          try clear hx164_3
                          try clear hx164_4
                          try clear hx164_5
                          try clear hx166_0
                          try clear hx166_1
                          try clear hx166_2
                          try clear hx166_3
                          try clear hx166_4
                          try clear hx166_5
                          try clear hx167_0
                          try clear hx167_1
                          try clear hx167_2
                          try clear hx167_3
                          try clear hx167_4
                          try clear hx167_5
                          try clear hx169_0
                          try clear hx169_1
                          try clear hx169_2
                          try clear hx169_3
                          try clear hx169_4
                          try clear hx169_5
                          try clear p1
                          try clear p16
                          try clear p164
                          try clear p166
                          try clear p167
                          try clear p169
                          try clear p2
                          try clear p6
                          try clear q1
                          try clear q16
                          try clear q164
                          try clear q166
                          try clear q167
                          try clear q169
                          try clear q27
                          obtain ⟨kq, x58_20, rfl, HA, HJ20, HB⟩ := hcut
                          cases kq with
                          | zero => exact absurd HA.out (by simp [tabularyref11_Check.j2])
                          | succ kj20 =>
                            have H := HA.out
                            clear HA
                            simp only [tabularyref11_Check.j2] at H
                            by_cases c28 : x58_20 = true
                            · subst c28
                              have H1 : (some (x4_1, 112)) = some (r1, r2) := by rw [if_pos rfl] at H; exact H
                              clear H
                              have H := H1
                              clear H1
                              simp only [Option.some.injEq, Prod.mk.injEq] at H
                              obtain ⟨rfl, rfl⟩ := H
                              go_wp2
                              go_ret2
                              exact ⟨by first | rfl | (simp [errW_none, errW_some] <;> rfl) | (simp [*, errW_none, errW_some] <;> rfl), by repeat (first | (with_reducible first | exact HB.out | apply below_alloc | apply pw_below_drewN | apply below_drew1) | exact HB.out)⟩
                            · replace c28 := Bool.eq_false_iff.mpr c28
                              subst c28
                              have H1 : (if 0 ≤ x4_1 then (if x4_1 < (l0.length : Int) then (if ((rd_T26 l0 x4_1).f1) = 3 then (if x4_1 ≤ (l0.length : Int) then ((tabularyref11_has.f kj20 (l0.take (x4_1 : Int).toNat) ((rd_T26 l0 x4_1).f5) 1).bind fun t182 => (if t182 = true then (tabularyref11_Check.l0 kj20 l0 (wrap64 (x4_1 + 1))) else (some (x4_1, 113)))) else (none)) else (tabularyref11_Check.l0 kj20 l0 (wrap64 (x4_1 + 1)))) else (none)) else (none)) = some (r1, r2) := by rw [if_neg (show ¬ (false = true) by decide)] at H; exact H
                              clear H
                              have H := H1
                              clear H1
                              by_cases c29 : 0 ≤ x4_1
                              · rw [if_pos c29] at H
                                have c29b0 : decide (0 ≤ x4_1) = true := decide_eq_true c29
                                clear c29
                                by_cases c30 : x4_1 < (l0.length : Int)
                                · rw [if_pos c30] at H
                                  have c30b0 : decide (x4_1 < (l0.length : Int)) = true := decide_eq_true c30
                                  clear c30
                                  by_cases c31 : ((rd_T26 l0 x4_1).f1) = 3
                                  · rw [if_pos c31] at H
                                    have c31b0 : (((rd_T26 l0 x4_1).f1) == 3) = true := beq_iff_eq.mpr c31
                                    have c31b1 : (((rd_T26 l0 x4_1).f1) != 3) = false := bne_eq_false_iff_eq.mpr c31
                                    clear c31
                                    have c32b0 := eq_true (of_decide_eq_true (by first | (with_reducible assumption) | assumption) : 0 ≤ x4_1)
                                    by_cases c33 : x4_1 ≤ (l0.length : Int)
                                    · rw [if_pos c33] at H
                                      have c33b0 := eq_true c33
                                      have c33b1 : decide (x4_1 ≤ (l0.length : Int)) = true := decide_eq_true c33
                                      clear c33
                                      obtain ⟨y177, hy177⟩ : ∃ y_ : List (S26), y_ = (l0.take (x4_1 : Int).toNat) := ⟨_, rfl⟩
                                      replace H : ((tabularyref11_has.f kj20 y177 ((rd_T26 l0 x4_1).f5) 1).bind fun t182 => (if t182 = true then (tabularyref11_Check.l0 kj20 l0 (wrap64 (x4_1 + 1))) else (some (x4_1, 113)))) = some (r1, r2) := by first | (rw [hy177]; with_reducible exact H) | (have H2_ := (Option.bind_some _ _).symm.trans H; rw [hy177]; with_reducible exact H2_) | (have H2_ := (Option.bind_some _ _).symm.trans H; with_reducible exact H2_) | with_reducible exact H | (rw [hy177]; exact H) | exact H
                                      have Ny177 := Aside0.mk hy177
                                      clear hy177
                                      replace H := Option.bind_eq_some_iff.mp H
                                      obtain ⟨t182, A340, H⟩ := H
                                      replace H : (if t182 = true then (tabularyref11_Check.l0 kj20 l0 (wrap64 (x4_1 + 1))) else (some (x4_1, 113))) = some (r1, r2) := H
                                      have A34 := Aside0.mk A340
                                      clear A340
                                      by_cases c35 : t182 = true
                                      · subst c35
                                        have H1 : (tabularyref11_Check.l0 kj20 l0 (wrap64 (x4_1 + 1))) = some (r1, r2) := by rw [if_pos rfl] at H; exact H
                                        clear H
                                        have H := H1
                                        clear H1
                                        have H' := Aside0.mk H
                                        clear H
                                        try go_wp2
                                        have n0_ := Aside0.mk (below_drew1 HB.out)
                                        clear HB
                                        have HB := n0_
                                        clear n0_
                                        have p176 : 0 ≤ (x4_1 : Int) := of_decide_eq_true (by first | (with_reducible assumption) | assumption)
                                        have q176 : x4_1 < (l0.length : Int) := of_decide_eq_true (by first | (with_reducible assumption) | assumption)
                                        obtain ⟨ad176, A176_4, c176_4, e176, hx176_0, hx176_1, hx176_2, hx176_3, hx176_4, hx176_5, hl176_4, hi176_4⟩ := at_T26 HR0.out x4_1 p176 q176
                                        have hw176_5 := hx176_5
                                        have hw176_4 := hx176_4
                                        have hw176_3 := hx176_3
                                        have hw176_2 := hx176_2
                                        have hw176_1 := hx176_1
                                        have hw176_0 := hx176_0
                                        obtain rfl : ad164 = ad176 := (by injection e176)
                                        replace hx176_0 := (HB.out.cell (World.block_lt_of_cell? w _ hx176_0)).trans hx176_0
                                        replace hx176_1 := (HB.out.cell (World.block_lt_of_cell? w _ hx176_1)).trans hx176_1
                                        replace hx176_2 := (HB.out.cell (World.block_lt_of_cell? w _ hx176_2)).trans hx176_2
                                        replace hx176_3 := (HB.out.cell (World.block_lt_of_cell? w _ hx176_3)).trans hx176_3
                                        replace hx176_4 := (HB.out.cell (World.block_lt_of_cell? w _ hx176_4)).trans hx176_4
                                        replace hx176_5 := (HB.out.cell (World.block_lt_of_cell? w _ hx176_5)).trans hx176_5
                                        have HR176_4 := Aside0.mk hi176_4
                                        have HC176_4 := Aside0.mk hl176_4
                                        clear hi176_4 hl176_4
                                        replace p176 := eq_true p176
                                        replace q176 := eq_true q176
                                        have q37 : (x4_1 : Int) ≤ ((l0.length : Int) : Int) := of_decide_eq_true (by first | (with_reducible assumption) | assumption)
                                        obtain ⟨i037, hi037, _, hsz37, _⟩ := info_parts info26
                                        have hroom37 : l0.length ≤ c0 := HC0.out
                                        have hC37 : Kd.C k26 _ (some ad164) l0.length l0 := HR0.out
                                        have hcut37 := cut_to (P := Tryd.prog) 22 26 .i64 Tryd.underlying22 hi037 (some ad164) l0.length c0 x4_1 (of_decide_eq_true (by first | (with_reducible assumption) | assumption)) q37 hroom37
                                        have hr37 := Kd.C_take (m := (x4_1 : Int).toNat) hC37 (by omega)
                                        have hy37 : y177.length = (x4_1 : Int).toNat := (by rw [Ny177.out, List.length_take]; omega)
                                        rw [← Ny177.out] at hr37
                                        rw [← hy37] at hcut37
                                        have HR180 := Aside0.mk hr37
                                        have HC180 := Aside0.mk (show y177.length ≤ c0 from by omega)
                                        clear hr37 hC37 hroom37 hi037 hsz37
                                        have KY37 := Aside0.mk hy37
                                        clear hy37
                                        replace q37 := eq_true q37
                                        have p181 : 0 ≤ (x4_1 : Int) := of_decide_eq_true (by first | (with_reducible assumption) | assumption)
                                        have q181 : x4_1 < (l0.length : Int) := of_decide_eq_true (by first | (with_reducible assumption) | assumption)
                                        obtain ⟨ad181, A181_4, c181_4, e181, hx181_0, hx181_1, hx181_2, hx181_3, hx181_4, hx181_5, hl181_4, hi181_4⟩ := at_T26 HR0.out x4_1 p181 q181
                                        have hw181_5 := hx181_5
                                        have hw181_4 := hx181_4
                                        have hw181_3 := hx181_3
                                        have hw181_2 := hx181_2
                                        have hw181_1 := hx181_1
                                        have hw181_0 := hx181_0
                                        obtain rfl : ad164 = ad181 := (by injection e181)
                                        replace hx181_0 := (HB.out.cell (World.block_lt_of_cell? w _ hx181_0)).trans hx181_0
                                        replace hx181_1 := (HB.out.cell (World.block_lt_of_cell? w _ hx181_1)).trans hx181_1
                                        replace hx181_2 := (HB.out.cell (World.block_lt_of_cell? w _ hx181_2)).trans hx181_2
                                        replace hx181_3 := (HB.out.cell (World.block_lt_of_cell? w _ hx181_3)).trans hx181_3
                                        replace hx181_4 := (HB.out.cell (World.block_lt_of_cell? w _ hx181_4)).trans hx181_4
                                        replace hx181_5 := (HB.out.cell (World.block_lt_of_cell? w _ hx181_5)).trans hx181_5
                                        have HR181_4 := Aside0.mk hi181_4
                                        have HC181_4 := Aside0.mk hl181_4
                                        clear hi181_4 hl181_4
                                        replace p181 := eq_true p181
                                        replace q181 := eq_true q181
                                        have ea_ := Option.some.inj (hx176_4.symm.trans hx181_4)
                                        injection ea_ with ea_ en_ ec_
                                        subst ea_
                                        subst ec_
                                        clear en_
                                        refine start_ (n := 18) (S := fun w' => w'.cell? (ad164.add ((x4_1).toNat * 6)) = some (.string ((rd_T26 l0 x4_1).f0)) ∧ w'.cell? ⟨(ad164.add ((x4_1).toNat * 6)).block, (ad164.add ((x4_1).toNat * 6)).off + 1, none⟩ = some (.int .u8 ((rd_T26 l0 x4_1).f1)) ∧ w'.cell? ⟨(ad164.add ((x4_1).toNat * 6)).block, (ad164.add ((x4_1).toNat * 6)).off + 2, none⟩ = some (.int .i64 ((rd_T26 l0 x4_1).f2)) ∧ w'.cell? ⟨(ad164.add ((x4_1).toNat * 6)).block, (ad164.add ((x4_1).toNat * 6)).off + 3, none⟩ = some (.int .i64 ((rd_T26 l0 x4_1).f3)) ∧ w'.cell? ⟨(ad164.add ((x4_1).toNat * 6)).block, (ad164.add ((x4_1).toNat * 6)).off + 4, none⟩ = some (.slice A176_4 ((rd_T26 l0 x4_1).f4).length c176_4) ∧ w'.cell? ⟨(ad164.add ((x4_1).toNat * 6)).block, (ad164.add ((x4_1).toNat * 6)).off + 5, none⟩ = some (.string ((rd_T26 l0 x4_1).f5)) ∧ w'.cell? (ad164.add ((x4_1).toNat * 6)) = some (.string ((rd_T26 l0 x4_1).f0)) ∧ w'.cell? ⟨(ad164.add ((x4_1).toNat * 6)).block, (ad164.add ((x4_1).toNat * 6)).off + 1, none⟩ = some (.int .u8 ((rd_T26 l0 x4_1).f1)) ∧ w'.cell? ⟨(ad164.add ((x4_1).toNat * 6)).block, (ad164.add ((x4_1).toNat * 6)).off + 2, none⟩ = some (.int .i64 ((rd_T26 l0 x4_1).f2)) ∧ w'.cell? ⟨(ad164.add ((x4_1).toNat * 6)).block, (ad164.add ((x4_1).toNat * 6)).off + 3, none⟩ = some (.int .i64 ((rd_T26 l0 x4_1).f3)) ∧ w'.cell? ⟨(ad164.add ((x4_1).toNat * 6)).block, (ad164.add ((x4_1).toNat * 6)).off + 4, none⟩ = some (.slice A176_4 ((rd_T26 l0 x4_1).f4).length c176_4) ∧ w'.cell? ⟨(ad164.add ((x4_1).toNat * 6)).block, (ad164.add ((x4_1).toNat * 6)).off + 5, none⟩ = some (.string ((rd_T26 l0 x4_1).f5))) (ds := []) #[false, false, false, false, false, false, false, false, false, false, false, false, false, false, false, false, false, false] (by kernel_rfl) rfl rfl ⟨((HB.out.cell (World.block_lt_of_cell? w _ hw176_0)).trans hw176_0), ((HB.out.cell (World.block_lt_of_cell? w _ hw176_1)).trans hw176_1), ((HB.out.cell (World.block_lt_of_cell? w _ hw176_2)).trans hw176_2), ((HB.out.cell (World.block_lt_of_cell? w _ hw176_3)).trans hw176_3), ((HB.out.cell (World.block_lt_of_cell? w _ hw176_4)).trans hw176_4), ((HB.out.cell (World.block_lt_of_cell? w _ hw176_5)).trans hw176_5), ((HB.out.cell (World.block_lt_of_cell? w _ hw181_0)).trans hw181_0), ((HB.out.cell (World.block_lt_of_cell? w _ hw181_1)).trans hw181_1), ((HB.out.cell (World.block_lt_of_cell? w _ hw181_2)).trans hw181_2), ((HB.out.cell (World.block_lt_of_cell? w _ hw181_3)).trans hw181_3), ((HB.out.cell (World.block_lt_of_cell? w _ hw181_4)).trans hw181_4), ((HB.out.cell (World.block_lt_of_cell? w _ hw181_5)).trans hw181_5)⟩ (fun hHeld => ?_); refine with_tabW tabularyref11_Check.tab14 tabularyref11_Check.bits14 (fun HT_ HW_ => ?_)
                                        generalize wc.drew = w36 at HB HR176_4 HR180 HR181_4 hx176_0 hx176_1 hx176_2 hx176_3 hx176_4 hx176_5 hx181_0 hx181_1 hx181_2 hx181_3 hx181_4 hx181_5 hHeld ⊢
                                        refine pure_ (i := 0) (N := some 60) (v := ?_) (a' := ?_) #[true, false, false, false, false, false, false, false, false, false, false, false, false, false, false, false, false, false] rfl rfl (any_of HT_.out (by kernel_rfl)) (fun _ _ _ h => h) (Or.inl ⟨by rfl, ?_⟩) ?_ ?_
                                        rotate_left
                                        · intro w'
                                          go_simp
                                          with_reducible rfl
                                        rotate_left
                                        · simp only [Act.put, List.setIfInBounds_toArray, List.set_cons_zero, List.set_cons_succ, i64_w, i32_w]
                                          rfl
                                        refine pure_ (i := 1) (N := some 61) (v := ?_) (a' := ?_) #[true, true, false, false, false, false, false, false, false, false, false, false, false, false, false, false, false, false] rfl rfl (any_of HT_.out (by kernel_rfl)) (fun _ _ _ h => h) (Or.inl ⟨by rfl, ?_⟩) ?_ ?_
                                        rotate_left
                                        · intro w'
                                          go_simp
                                          with_reducible rfl
                                        rotate_left
                                        · simp only [Act.put, List.setIfInBounds_toArray, List.set_cons_zero, List.set_cons_succ, i64_w, i32_w]
                                          rfl
                                        refine pure_ (i := 2) (N := some 62) (v := ?_) (a' := ?_) #[true, true, true, false, false, false, false, false, false, false, false, false, false, false, false, false, false, false] rfl rfl (any_of HT_.out (by kernel_rfl)) (fun _ _ _ h => h) (Or.inl ⟨by rfl, ?_⟩) ?_ ?_
                                        rotate_left
                                        · intro w'
                                          go_simp
                                          with_reducible rfl
                                        rotate_left
                                        · simp only [Act.put, List.setIfInBounds_toArray, List.set_cons_zero, List.set_cons_succ, i64_w, i32_w]
                                          rfl
                                        refine pure_ (i := 3) (N := some 63) (v := ?_) (a' := ?_) #[true, true, true, true, false, false, false, false, false, false, false, false, false, false, false, false, false, false] rfl rfl (any_of HT_.out (by kernel_rfl)) (fun _ _ _ h => h) (Or.inl ⟨by rfl, ?_⟩) ?_ ?_
                                        rotate_left
                                        · intro w'
                                          go_simp
                                          with_reducible rfl
                                        rotate_left
                                        · simp only [Act.put, List.setIfInBounds_toArray, List.set_cons_zero, List.set_cons_succ, i64_w, i32_w]
                                          rfl
                                        refine take_ (i := 4) (N := some 64) (v := ?_) (a' := ?_) #[true, true, true, true, true, false, false, false, false, false, false, false, false, false, false, false, false, false] rfl rfl (take_ofW HT_.out HW_.out (by kernel_rfl)) (fun _ _ _ h => h) (Or.inl ⟨by rfl, ?_⟩) hHeld ?_ ?_
                                        rotate_left
                                        · rintro w' ⟨s0, s1, s2, s3, s4, s5, s6, s7, s8, s9, s10, s11⟩
                                          go_simp
                                          with_reducible rfl
                                        rotate_left
                                        · simp only [Act.put, List.setIfInBounds_toArray, List.set_cons_zero, List.set_cons_succ, i64_w, i32_w]
                                          rfl
                                        refine pure_ (i := 5) (N := some 65) (v := ?_) (a' := ?_) #[true, true, true, true, true, true, false, false, false, false, false, false, false, false, false, false, false, false] rfl rfl (any_of HT_.out (by kernel_rfl)) (fun _ _ _ h => h) (Or.inl ⟨by rfl, ?_⟩) ?_ ?_
                                        rotate_left
                                        · intro w'
                                          go_simp
                                          with_reducible rfl
                                        rotate_left
                                        · simp only [Act.put, List.setIfInBounds_toArray, List.set_cons_zero, List.set_cons_succ, i64_w, i32_w]
                                          rfl
                                        refine pure_ (i := 6) (N := some 66) (v := ?_) (a' := ?_) #[true, true, true, true, true, true, true, false, false, false, false, false, false, false, false, false, false, false] rfl rfl (any_of HT_.out (by kernel_rfl)) (fun _ _ _ h => h) (Or.inl ⟨by rfl, ?_⟩) ?_ ?_
                                        rotate_left
                                        · intro w'
                                          go_simp
                                          with_reducible rfl
                                        rotate_left
                                        · simp only [Act.put, List.setIfInBounds_toArray, List.set_cons_zero, List.set_cons_succ, i64_w, i32_w]
                                          rfl
                                        refine pure_ (i := 7) (N := some 67) (v := ?_) (a' := ?_) #[true, true, true, true, true, true, true, true, false, false, false, false, false, false, false, false, false, false] rfl rfl (any_of HT_.out (by kernel_rfl)) (fun _ _ _ h => h) (Or.inl ⟨by rfl, ?_⟩) ?_ ?_
                                        rotate_left
                                        · intro w'
                                          go_simp
                                          with_reducible rfl
                                        rotate_left
                                        · simp only [Act.put, List.setIfInBounds_toArray, List.set_cons_zero, List.set_cons_succ, i64_w, i32_w]
                                          rfl
                                        refine pure_ (i := 8) (N := some 68) (v := ?_) (a' := ?_) #[true, true, true, true, true, true, true, true, true, false, false, false, false, false, false, false, false, false] rfl rfl (any_of HT_.out (by kernel_rfl)) (fun _ _ _ h => h) (Or.inl ⟨by rfl, ?_⟩) ?_ ?_
                                        rotate_left
                                        · intro w'
                                          go_simp
                                          with_reducible rfl
                                        rotate_left
                                        · simp only [Act.put, List.setIfInBounds_toArray, List.set_cons_zero, List.set_cons_succ, i64_w, i32_w]
                                          rfl
                                        refine pure_ (i := 9) (N := some 69) (v := ?_) (a' := ?_) #[true, true, true, true, true, true, true, true, true, true, false, false, false, false, false, false, false, false] rfl rfl (any_of HT_.out (by kernel_rfl)) (fun _ _ _ h => h) (Or.inl ⟨by rfl, ?_⟩) ?_ ?_
                                        rotate_left
                                        · intro w'
                                          go_simp
                                          with_reducible rfl
                                        rotate_left
                                        · simp only [Act.put, List.setIfInBounds_toArray, List.set_cons_zero, List.set_cons_succ, i64_w, i32_w]
                                          rfl
                                        refine pure_ (i := 10) (N := some 70) (v := ?_) (a' := ?_) #[true, true, true, true, true, true, true, true, true, true, true, false, false, false, false, false, false, false] rfl rfl (any_of HT_.out (by kernel_rfl)) (fun _ _ _ h => h) (Or.inl ⟨by rfl, ?_⟩) ?_ ?_
                                        rotate_left
                                        · intro w'
                                          go_simp
                                          with_reducible rfl
                                        rotate_left
                                        · simp only [Act.put, List.setIfInBounds_toArray, List.set_cons_zero, List.set_cons_succ, i64_w, i32_w]
                                          rfl
                                        refine pure_ (i := 11) (N := some 71) (v := ?_) (a' := ?_) #[true, true, true, true, true, true, true, true, true, true, true, true, false, false, false, false, false, false] rfl rfl (any_of HT_.out (by kernel_rfl)) (fun _ _ _ h => h) (Or.inl ⟨by rfl, ?_⟩) ?_ ?_
                                        rotate_left
                                        · intro w'
                                          go_simp
                                          with_reducible rfl
                                        rotate_left
                                        · simp only [Act.put, List.setIfInBounds_toArray, List.set_cons_zero, List.set_cons_succ, i64_w, i32_w]
                                          rfl
                                        refine pure_ (i := 12) (N := some 72) (v := ?_) (a' := ?_) #[true, true, true, true, true, true, true, true, true, true, true, true, true, false, false, false, false, false] rfl rfl (any_of HT_.out (by kernel_rfl)) (fun _ _ _ h => h) (Or.inl ⟨by rfl, ?_⟩) ?_ ?_
                                        rotate_left
                                        · intro w'
                                          go_simp
                                          with_reducible rfl
                                        rotate_left
                                        · simp only [Act.put, List.setIfInBounds_toArray, List.set_cons_zero, List.set_cons_succ, i64_w, i32_w]
                                          rfl
                                        refine pure_ (i := 13) (N := some 73) (v := ?_) (a' := ?_) #[true, true, true, true, true, true, true, true, true, true, true, true, true, true, false, false, false, false] rfl rfl (any_of HT_.out (by kernel_rfl)) (fun _ _ _ h => h) (Or.inl ⟨by rfl, ?_⟩) ?_ ?_
                                        rotate_left
                                        · intro w'
                                          go_simp
                                          with_reducible rfl
                                        rotate_left
                                        · simp only [Act.put, List.setIfInBounds_toArray, List.set_cons_zero, List.set_cons_succ, i64_w, i32_w]
                                          rfl
                                        refine take_ (i := 14) (N := some 74) (v := ?_) (a' := ?_) #[true, true, true, true, true, true, true, true, true, true, true, true, true, true, true, false, false, false] rfl rfl (take_ofW HT_.out HW_.out (by kernel_rfl)) (fun _ _ _ h => h) (Or.inl ⟨by rfl, ?_⟩) hHeld ?_ ?_
                                        rotate_left
                                        · rintro w' ⟨s0, s1, s2, s3, s4, s5, s6, s7, s8, s9, s10, s11⟩
                                          go_simp
                                          with_reducible rfl
                                        rotate_left
                                        · simp only [Act.put, List.setIfInBounds_toArray, List.set_cons_zero, List.set_cons_succ, i64_w, i32_w]
                                          rfl
                                        refine one_ (i := 15) (N := some 75) #[true, true, true, true, true, true, true, true, true, true, true, true, true, true, true, true, false, false] rfl rfl (one_of HT_.out (by kernel_rfl)) (by decide) (fun K hK => ?_)
                                        refine goes_ Tryd.func39 (by kernel_rfl) rfl #[.slice (some ad164) y177.length c0, .string ((rd_T26 l0 x4_1).f5), .int .u8 1] (by rfl) rfl rfl (by (try simp only [List.map_toArray, List.map_cons, List.map_nil]); first | done | rfl | (simp only [List.length_drop, List.length_take]; rfl)) ?_
                                        with_reducible refine (tabularyref11_has.calls kj20 _ _ y177 ((rd_T26 l0 x4_1).f5) 1 true _ ?side1 ?side2 A34.out).mono ?_
                                        (case side1 => repeat (first | exact (Kd.C_below HR180.out HB.out) | (with_reducible refine Kd.C_alloc ?_ _) | (with_reducible refine Kd.C_drewN ?_ _) | (with_reducible refine Kd.C_drew ?_)))
                                        (case side2 => exact HC180.out)
                                        rintro e w' ⟨rfl, ⟨nd, rfl⟩⟩
                                        refine ⟨_, rfl, ?_⟩
                                        refine hK.out _ _ ⟨((HB.out.cell (World.block_lt_of_cell? w _ hw176_0)).trans hw176_0), ((HB.out.cell (World.block_lt_of_cell? w _ hw176_1)).trans hw176_1), ((HB.out.cell (World.block_lt_of_cell? w _ hw176_2)).trans hw176_2), ((HB.out.cell (World.block_lt_of_cell? w _ hw176_3)).trans hw176_3), ((HB.out.cell (World.block_lt_of_cell? w _ hw176_4)).trans hw176_4), ((HB.out.cell (World.block_lt_of_cell? w _ hw176_5)).trans hw176_5), ((HB.out.cell (World.block_lt_of_cell? w _ hw181_0)).trans hw181_0), ((HB.out.cell (World.block_lt_of_cell? w _ hw181_1)).trans hw181_1), ((HB.out.cell (World.block_lt_of_cell? w _ hw181_2)).trans hw181_2), ((HB.out.cell (World.block_lt_of_cell? w _ hw181_3)).trans hw181_3), ((HB.out.cell (World.block_lt_of_cell? w _ hw181_4)).trans hw181_4), ((HB.out.cell (World.block_lt_of_cell? w _ hw181_5)).trans hw181_5)⟩ (fun hHeld => ?_)
                                        clear hK K
                                        refine norm_ (a' := ?_) ?_ ?_
                                        rotate_left
                                        · show Act.put _ (some 75) _ = _
                                          simp only [Act.put, List.setIfInBounds_toArray, List.set_cons_zero, List.set_cons_succ, i64_w, i32_w]
                                          rfl
                                        refine pure_ (i := 16) (N := some 76) (v := ?_) (a' := ?_) #[true, true, true, true, true, true, true, true, true, true, true, true, true, true, true, true, true, false] rfl rfl (any_of HT_.out (by kernel_rfl)) (fun _ _ _ h => h) (Or.inl ⟨by rfl, ?_⟩) ?_ ?_
                                        rotate_left
                                        · intro w'
                                          go_simp
                                          with_reducible rfl
                                        rotate_left
                                        · simp only [Act.put, List.setIfInBounds_toArray, List.set_cons_zero, List.set_cons_succ, i64_w, i32_w]
                                          rfl
                                        refine pure_ (i := 17) (N := some 77) (v := ?_) (a' := ?_) #[true, true, true, true, true, true, true, true, true, true, true, true, true, true, true, true, true, true] rfl rfl (any_of HT_.out (by kernel_rfl)) (fun _ _ _ h => h) (Or.inl ⟨by rfl, ?_⟩) ?_ ?_
                                        rotate_left
                                        · intro w'
                                          go_simp
                                          with_reducible rfl
                                        rotate_left
                                        · simp only [Act.put, List.setIfInBounds_toArray, List.set_cons_zero, List.set_cons_succ, i64_w, i32_w]
                                          rfl
                                        refine done_ (done_of HT_.out (by kernel_rfl)) ?_
                                        try go_wp2
                                        go_roundg kj20
                                        case measure => have := HK1.out; have := HJ6.out; have := HJ20.out; omega
                                        case rel => exact ⟨(wrap64 (x4_1 + 1)), (by first | rfl | (simp; done) | (simp [*]; done)), H', ⟨by have := HK1.out; have := HJ6.out; have := HJ20.out; omega⟩, ⟨by repeat (first | (with_reducible first | exact HB.out | apply below_alloc | apply pw_below_drewN | apply below_drew1) | exact HB.out)⟩⟩
                                      · replace c35 := Bool.eq_false_iff.mpr c35
                                        subst c35
                                        have H1 : (some (x4_1, 113)) = some (r1, r2) := by rw [if_neg (show ¬ (false = true) by decide)] at H; exact H
                                        clear H
                                        have H := H1
                                        clear H1
                                        simp only [Option.some.injEq, Prod.mk.injEq] at H
                                        obtain ⟨rfl, rfl⟩ := H
                                        try go_wp2
                                        have n0_ := Aside0.mk (below_drew1 HB.out)
                                        clear HB
                                        have HB := n0_
                                        clear n0_
                                        have p176 : 0 ≤ (x4_1 : Int) := of_decide_eq_true (by first | (with_reducible assumption) | assumption)
                                        have q176 : x4_1 < (l0.length : Int) := of_decide_eq_true (by first | (with_reducible assumption) | assumption)
                                        obtain ⟨ad176, A176_4, c176_4, e176, hx176_0, hx176_1, hx176_2, hx176_3, hx176_4, hx176_5, hl176_4, hi176_4⟩ := at_T26 HR0.out x4_1 p176 q176
                                        have hw176_5 := hx176_5
                                        have hw176_4 := hx176_4
                                        have hw176_3 := hx176_3
                                        have hw176_2 := hx176_2
                                        have hw176_1 := hx176_1
                                        have hw176_0 := hx176_0
                                        obtain rfl : ad164 = ad176 := (by injection e176)
                                        replace hx176_0 := (HB.out.cell (World.block_lt_of_cell? w _ hx176_0)).trans hx176_0
                                        replace hx176_1 := (HB.out.cell (World.block_lt_of_cell? w _ hx176_1)).trans hx176_1
                                        replace hx176_2 := (HB.out.cell (World.block_lt_of_cell? w _ hx176_2)).trans hx176_2
                                        replace hx176_3 := (HB.out.cell (World.block_lt_of_cell? w _ hx176_3)).trans hx176_3
                                        replace hx176_4 := (HB.out.cell (World.block_lt_of_cell? w _ hx176_4)).trans hx176_4
                                        replace hx176_5 := (HB.out.cell (World.block_lt_of_cell? w _ hx176_5)).trans hx176_5
                                        have HR176_4 := Aside0.mk hi176_4
                                        have HC176_4 := Aside0.mk hl176_4
                                        clear hi176_4 hl176_4
                                        replace p176 := eq_true p176
                                        replace q176 := eq_true q176
                                        have q39 : (x4_1 : Int) ≤ ((l0.length : Int) : Int) := of_decide_eq_true (by first | (with_reducible assumption) | assumption)
                                        obtain ⟨i039, hi039, _, hsz39, _⟩ := info_parts info26
                                        have hroom39 : l0.length ≤ c0 := HC0.out
                                        have hC39 : Kd.C k26 _ (some ad164) l0.length l0 := HR0.out
                                        have hcut39 := cut_to (P := Tryd.prog) 22 26 .i64 Tryd.underlying22 hi039 (some ad164) l0.length c0 x4_1 (of_decide_eq_true (by first | (with_reducible assumption) | assumption)) q39 hroom39
                                        have hr39 := Kd.C_take (m := (x4_1 : Int).toNat) hC39 (by omega)
                                        have hy39 : y177.length = (x4_1 : Int).toNat := (by rw [Ny177.out, List.length_take]; omega)
                                        rw [← Ny177.out] at hr39
                                        rw [← hy39] at hcut39
                                        have HR180 := Aside0.mk hr39
                                        have HC180 := Aside0.mk (show y177.length ≤ c0 from by omega)
                                        clear hr39 hC39 hroom39 hi039 hsz39
                                        have KY39 := Aside0.mk hy39
                                        clear hy39
                                        replace q39 := eq_true q39
                                        have p181 : 0 ≤ (x4_1 : Int) := of_decide_eq_true (by first | (with_reducible assumption) | assumption)
                                        have q181 : x4_1 < (l0.length : Int) := of_decide_eq_true (by first | (with_reducible assumption) | assumption)
                                        obtain ⟨ad181, A181_4, c181_4, e181, hx181_0, hx181_1, hx181_2, hx181_3, hx181_4, hx181_5, hl181_4, hi181_4⟩ := at_T26 HR0.out x4_1 p181 q181
                                        have hw181_5 := hx181_5
                                        have hw181_4 := hx181_4
                                        have hw181_3 := hx181_3
                                        have hw181_2 := hx181_2
                                        have hw181_1 := hx181_1
                                        have hw181_0 := hx181_0
                                        obtain rfl : ad164 = ad181 := (by injection e181)
                                        replace hx181_0 := (HB.out.cell (World.block_lt_of_cell? w _ hx181_0)).trans hx181_0
                                        replace hx181_1 := (HB.out.cell (World.block_lt_of_cell? w _ hx181_1)).trans hx181_1
                                        replace hx181_2 := (HB.out.cell (World.block_lt_of_cell? w _ hx181_2)).trans hx181_2
                                        replace hx181_3 := (HB.out.cell (World.block_lt_of_cell? w _ hx181_3)).trans hx181_3
                                        replace hx181_4 := (HB.out.cell (World.block_lt_of_cell? w _ hx181_4)).trans hx181_4
                                        replace hx181_5 := (HB.out.cell (World.block_lt_of_cell? w _ hx181_5)).trans hx181_5
                                        have HR181_4 := Aside0.mk hi181_4
                                        have HC181_4 := Aside0.mk hl181_4
                                        clear hi181_4 hl181_4
                                        replace p181 := eq_true p181
                                        replace q181 := eq_true q181
                                        have ea_ := Option.some.inj (hx176_4.symm.trans hx181_4)
                                        injection ea_ with ea_ en_ ec_
                                        subst ea_
                                        subst ec_
                                        clear en_
                                        refine start_ (n := 18) (S := fun w' => w'.cell? (ad164.add ((x4_1).toNat * 6)) = some (.string ((rd_T26 l0 x4_1).f0)) ∧ w'.cell? ⟨(ad164.add ((x4_1).toNat * 6)).block, (ad164.add ((x4_1).toNat * 6)).off + 1, none⟩ = some (.int .u8 ((rd_T26 l0 x4_1).f1)) ∧ w'.cell? ⟨(ad164.add ((x4_1).toNat * 6)).block, (ad164.add ((x4_1).toNat * 6)).off + 2, none⟩ = some (.int .i64 ((rd_T26 l0 x4_1).f2)) ∧ w'.cell? ⟨(ad164.add ((x4_1).toNat * 6)).block, (ad164.add ((x4_1).toNat * 6)).off + 3, none⟩ = some (.int .i64 ((rd_T26 l0 x4_1).f3)) ∧ w'.cell? ⟨(ad164.add ((x4_1).toNat * 6)).block, (ad164.add ((x4_1).toNat * 6)).off + 4, none⟩ = some (.slice A176_4 ((rd_T26 l0 x4_1).f4).length c176_4) ∧ w'.cell? ⟨(ad164.add ((x4_1).toNat * 6)).block, (ad164.add ((x4_1).toNat * 6)).off + 5, none⟩ = some (.string ((rd_T26 l0 x4_1).f5)) ∧ w'.cell? (ad164.add ((x4_1).toNat * 6)) = some (.string ((rd_T26 l0 x4_1).f0)) ∧ w'.cell? ⟨(ad164.add ((x4_1).toNat * 6)).block, (ad164.add ((x4_1).toNat * 6)).off + 1, none⟩ = some (.int .u8 ((rd_T26 l0 x4_1).f1)) ∧ w'.cell? ⟨(ad164.add ((x4_1).toNat * 6)).block, (ad164.add ((x4_1).toNat * 6)).off + 2, none⟩ = some (.int .i64 ((rd_T26 l0 x4_1).f2)) ∧ w'.cell? ⟨(ad164.add ((x4_1).toNat * 6)).block, (ad164.add ((x4_1).toNat * 6)).off + 3, none⟩ = some (.int .i64 ((rd_T26 l0 x4_1).f3)) ∧ w'.cell? ⟨(ad164.add ((x4_1).toNat * 6)).block, (ad164.add ((x4_1).toNat * 6)).off + 4, none⟩ = some (.slice A176_4 ((rd_T26 l0 x4_1).f4).length c176_4) ∧ w'.cell? ⟨(ad164.add ((x4_1).toNat * 6)).block, (ad164.add ((x4_1).toNat * 6)).off + 5, none⟩ = some (.string ((rd_T26 l0 x4_1).f5))) (ds := []) #[false, false, false, false, false, false, false, false, false, false, false, false, false, false, false, false, false, false] (by kernel_rfl) rfl rfl ⟨((HB.out.cell (World.block_lt_of_cell? w _ hw176_0)).trans hw176_0), ((HB.out.cell (World.block_lt_of_cell? w _ hw176_1)).trans hw176_1), ((HB.out.cell (World.block_lt_of_cell? w _ hw176_2)).trans hw176_2), ((HB.out.cell (World.block_lt_of_cell? w _ hw176_3)).trans hw176_3), ((HB.out.cell (World.block_lt_of_cell? w _ hw176_4)).trans hw176_4), ((HB.out.cell (World.block_lt_of_cell? w _ hw176_5)).trans hw176_5), ((HB.out.cell (World.block_lt_of_cell? w _ hw181_0)).trans hw181_0), ((HB.out.cell (World.block_lt_of_cell? w _ hw181_1)).trans hw181_1), ((HB.out.cell (World.block_lt_of_cell? w _ hw181_2)).trans hw181_2), ((HB.out.cell (World.block_lt_of_cell? w _ hw181_3)).trans hw181_3), ((HB.out.cell (World.block_lt_of_cell? w _ hw181_4)).trans hw181_4), ((HB.out.cell (World.block_lt_of_cell? w _ hw181_5)).trans hw181_5)⟩ (fun hHeld => ?_); refine with_tabW tabularyref11_Check.tab14 tabularyref11_Check.bits14 (fun HT_ HW_ => ?_)
                                        generalize wc.drew = w38 at HB HR176_4 HR180 HR181_4 hx176_0 hx176_1 hx176_2 hx176_3 hx176_4 hx176_5 hx181_0 hx181_1 hx181_2 hx181_3 hx181_4 hx181_5 hHeld ⊢
                                        refine pure_ (i := 0) (N := some 60) (v := ?_) (a' := ?_) #[true, false, false, false, false, false, false, false, false, false, false, false, false, false, false, false, false, false] rfl rfl (any_of HT_.out (by kernel_rfl)) (fun _ _ _ h => h) (Or.inl ⟨by rfl, ?_⟩) ?_ ?_
                                        rotate_left
                                        · intro w'
                                          go_simp
                                          with_reducible rfl
                                        rotate_left
                                        · simp only [Act.put, List.setIfInBounds_toArray, List.set_cons_zero, List.set_cons_succ, i64_w, i32_w]
                                          rfl
                                        refine pure_ (i := 1) (N := some 61) (v := ?_) (a' := ?_) #[true, true, false, false, false, false, false, false, false, false, false, false, false, false, false, false, false, false] rfl rfl (any_of HT_.out (by kernel_rfl)) (fun _ _ _ h => h) (Or.inl ⟨by rfl, ?_⟩) ?_ ?_
                                        rotate_left
                                        · intro w'
                                          go_simp
                                          with_reducible rfl
                                        rotate_left
                                        · simp only [Act.put, List.setIfInBounds_toArray, List.set_cons_zero, List.set_cons_succ, i64_w, i32_w]
                                          rfl
                                        refine pure_ (i := 2) (N := some 62) (v := ?_) (a' := ?_) #[true, true, true, false, false, false, false, false, false, false, false, false, false, false, false, false, false, false] rfl rfl (any_of HT_.out (by kernel_rfl)) (fun _ _ _ h => h) (Or.inl ⟨by rfl, ?_⟩) ?_ ?_
                                        rotate_left
                                        · intro w'
                                          go_simp
                                          with_reducible rfl
                                        rotate_left
                                        · simp only [Act.put, List.setIfInBounds_toArray, List.set_cons_zero, List.set_cons_succ, i64_w, i32_w]
                                          rfl
                                        refine pure_ (i := 3) (N := some 63) (v := ?_) (a' := ?_) #[true, true, true, true, false, false, false, false, false, false, false, false, false, false, false, false, false, false] rfl rfl (any_of HT_.out (by kernel_rfl)) (fun _ _ _ h => h) (Or.inl ⟨by rfl, ?_⟩) ?_ ?_
                                        rotate_left
                                        · intro w'
                                          go_simp
                                          with_reducible rfl
                                        rotate_left
                                        · simp only [Act.put, List.setIfInBounds_toArray, List.set_cons_zero, List.set_cons_succ, i64_w, i32_w]
                                          rfl
                                        refine take_ (i := 4) (N := some 64) (v := ?_) (a' := ?_) #[true, true, true, true, true, false, false, false, false, false, false, false, false, false, false, false, false, false] rfl rfl (take_ofW HT_.out HW_.out (by kernel_rfl)) (fun _ _ _ h => h) (Or.inl ⟨by rfl, ?_⟩) hHeld ?_ ?_
                                        rotate_left
                                        · rintro w' ⟨s0, s1, s2, s3, s4, s5, s6, s7, s8, s9, s10, s11⟩
                                          go_simp
                                          with_reducible rfl
                                        rotate_left
                                        · simp only [Act.put, List.setIfInBounds_toArray, List.set_cons_zero, List.set_cons_succ, i64_w, i32_w]
                                          rfl
                                        refine pure_ (i := 5) (N := some 65) (v := ?_) (a' := ?_) #[true, true, true, true, true, true, false, false, false, false, false, false, false, false, false, false, false, false] rfl rfl (any_of HT_.out (by kernel_rfl)) (fun _ _ _ h => h) (Or.inl ⟨by rfl, ?_⟩) ?_ ?_
                                        rotate_left
                                        · intro w'
                                          go_simp
                                          with_reducible rfl
                                        rotate_left
                                        · simp only [Act.put, List.setIfInBounds_toArray, List.set_cons_zero, List.set_cons_succ, i64_w, i32_w]
                                          rfl
                                        refine pure_ (i := 6) (N := some 66) (v := ?_) (a' := ?_) #[true, true, true, true, true, true, true, false, false, false, false, false, false, false, false, false, false, false] rfl rfl (any_of HT_.out (by kernel_rfl)) (fun _ _ _ h => h) (Or.inl ⟨by rfl, ?_⟩) ?_ ?_
                                        rotate_left
                                        · intro w'
                                          go_simp
                                          with_reducible rfl
                                        rotate_left
                                        · simp only [Act.put, List.setIfInBounds_toArray, List.set_cons_zero, List.set_cons_succ, i64_w, i32_w]
                                          rfl
                                        refine pure_ (i := 7) (N := some 67) (v := ?_) (a' := ?_) #[true, true, true, true, true, true, true, true, false, false, false, false, false, false, false, false, false, false] rfl rfl (any_of HT_.out (by kernel_rfl)) (fun _ _ _ h => h) (Or.inl ⟨by rfl, ?_⟩) ?_ ?_
                                        rotate_left
                                        · intro w'
                                          go_simp
                                          with_reducible rfl
                                        rotate_left
                                        · simp only [Act.put, List.setIfInBounds_toArray, List.set_cons_zero, List.set_cons_succ, i64_w, i32_w]
                                          rfl
                                        refine pure_ (i := 8) (N := some 68) (v := ?_) (a' := ?_) #[true, true, true, true, true, true, true, true, true, false, false, false, false, false, false, false, false, false] rfl rfl (any_of HT_.out (by kernel_rfl)) (fun _ _ _ h => h) (Or.inl ⟨by rfl, ?_⟩) ?_ ?_
                                        rotate_left
                                        · intro w'
                                          go_simp
                                          with_reducible rfl
                                        rotate_left
                                        · simp only [Act.put, List.setIfInBounds_toArray, List.set_cons_zero, List.set_cons_succ, i64_w, i32_w]
                                          rfl
                                        refine pure_ (i := 9) (N := some 69) (v := ?_) (a' := ?_) #[true, true, true, true, true, true, true, true, true, true, false, false, false, false, false, false, false, false] rfl rfl (any_of HT_.out (by kernel_rfl)) (fun _ _ _ h => h) (Or.inl ⟨by rfl, ?_⟩) ?_ ?_
                                        rotate_left
                                        · intro w'
                                          go_simp
                                          with_reducible rfl
                                        rotate_left
                                        · simp only [Act.put, List.setIfInBounds_toArray, List.set_cons_zero, List.set_cons_succ, i64_w, i32_w]
                                          rfl
                                        refine pure_ (i := 10) (N := some 70) (v := ?_) (a' := ?_) #[true, true, true, true, true, true, true, true, true, true, true, false, false, false, false, false, false, false] rfl rfl (any_of HT_.out (by kernel_rfl)) (fun _ _ _ h => h) (Or.inl ⟨by rfl, ?_⟩) ?_ ?_
                                        rotate_left
                                        · intro w'
                                          go_simp
                                          with_reducible rfl
                                        rotate_left
                                        · simp only [Act.put, List.setIfInBounds_toArray, List.set_cons_zero, List.set_cons_succ, i64_w, i32_w]
                                          rfl
                                        refine pure_ (i := 11) (N := some 71) (v := ?_) (a' := ?_) #[true, true, true, true, true, true, true, true, true, true, true, true, false, false, false, false, false, false] rfl rfl (any_of HT_.out (by kernel_rfl)) (fun _ _ _ h => h) (Or.inl ⟨by rfl, ?_⟩) ?_ ?_
                                        rotate_left
                                        · intro w'
                                          go_simp
                                          with_reducible rfl
                                        rotate_left
                                        · simp only [Act.put, List.setIfInBounds_toArray, List.set_cons_zero, List.set_cons_succ, i64_w, i32_w]
                                          rfl
                                        refine pure_ (i := 12) (N := some 72) (v := ?_) (a' := ?_) #[true, true, true, true, true, true, true, true, true, true, true, true, true, false, false, false, false, false] rfl rfl (any_of HT_.out (by kernel_rfl)) (fun _ _ _ h => h) (Or.inl ⟨by rfl, ?_⟩) ?_ ?_
                                        rotate_left
                                        · intro w'
                                          go_simp
                                          with_reducible rfl
                                        rotate_left
                                        · simp only [Act.put, List.setIfInBounds_toArray, List.set_cons_zero, List.set_cons_succ, i64_w, i32_w]
                                          rfl
                                        refine pure_ (i := 13) (N := some 73) (v := ?_) (a' := ?_) #[true, true, true, true, true, true, true, true, true, true, true, true, true, true, false, false, false, false] rfl rfl (any_of HT_.out (by kernel_rfl)) (fun _ _ _ h => h) (Or.inl ⟨by rfl, ?_⟩) ?_ ?_
                                        rotate_left
                                        · intro w'
                                          go_simp
                                          with_reducible rfl
                                        rotate_left
                                        · simp only [Act.put, List.setIfInBounds_toArray, List.set_cons_zero, List.set_cons_succ, i64_w, i32_w]
                                          rfl
                                        refine take_ (i := 14) (N := some 74) (v := ?_) (a' := ?_) #[true, true, true, true, true, true, true, true, true, true, true, true, true, true, true, false, false, false] rfl rfl (take_ofW HT_.out HW_.out (by kernel_rfl)) (fun _ _ _ h => h) (Or.inl ⟨by rfl, ?_⟩) hHeld ?_ ?_
                                        rotate_left
                                        · rintro w' ⟨s0, s1, s2, s3, s4, s5, s6, s7, s8, s9, s10, s11⟩
                                          go_simp
                                          with_reducible rfl
                                        rotate_left
                                        · simp only [Act.put, List.setIfInBounds_toArray, List.set_cons_zero, List.set_cons_succ, i64_w, i32_w]
                                          rfl
                                        refine one_ (i := 15) (N := some 75) #[true, true, true, true, true, true, true, true, true, true, true, true, true, true, true, true, false, false] rfl rfl (one_of HT_.out (by kernel_rfl)) (by decide) (fun K hK => ?_)
                                        refine goes_ Tryd.func39 (by kernel_rfl) rfl #[.slice (some ad164) y177.length c0, .string ((rd_T26 l0 x4_1).f5), .int .u8 1] (by rfl) rfl rfl (by (try simp only [List.map_toArray, List.map_cons, List.map_nil]); first | done | rfl | (simp only [List.length_drop, List.length_take]; rfl)) ?_
                                        with_reducible refine (tabularyref11_has.calls kj20 _ _ y177 ((rd_T26 l0 x4_1).f5) 1 false _ ?side1 ?side2 A34.out).mono ?_
                                        (case side1 => repeat (first | exact (Kd.C_below HR180.out HB.out) | (with_reducible refine Kd.C_alloc ?_ _) | (with_reducible refine Kd.C_drewN ?_ _) | (with_reducible refine Kd.C_drew ?_)))
                                        (case side2 => exact HC180.out)
                                        rintro e w' ⟨rfl, ⟨nd, rfl⟩⟩
                                        refine ⟨_, rfl, ?_⟩
                                        refine hK.out _ _ ⟨((HB.out.cell (World.block_lt_of_cell? w _ hw176_0)).trans hw176_0), ((HB.out.cell (World.block_lt_of_cell? w _ hw176_1)).trans hw176_1), ((HB.out.cell (World.block_lt_of_cell? w _ hw176_2)).trans hw176_2), ((HB.out.cell (World.block_lt_of_cell? w _ hw176_3)).trans hw176_3), ((HB.out.cell (World.block_lt_of_cell? w _ hw176_4)).trans hw176_4), ((HB.out.cell (World.block_lt_of_cell? w _ hw176_5)).trans hw176_5), ((HB.out.cell (World.block_lt_of_cell? w _ hw181_0)).trans hw181_0), ((HB.out.cell (World.block_lt_of_cell? w _ hw181_1)).trans hw181_1), ((HB.out.cell (World.block_lt_of_cell? w _ hw181_2)).trans hw181_2), ((HB.out.cell (World.block_lt_of_cell? w _ hw181_3)).trans hw181_3), ((HB.out.cell (World.block_lt_of_cell? w _ hw181_4)).trans hw181_4), ((HB.out.cell (World.block_lt_of_cell? w _ hw181_5)).trans hw181_5)⟩ (fun hHeld => ?_)
                                        clear hK K
                                        refine norm_ (a' := ?_) ?_ ?_
                                        rotate_left
                                        · show Act.put _ (some 75) _ = _
                                          simp only [Act.put, List.setIfInBounds_toArray, List.set_cons_zero, List.set_cons_succ, i64_w, i32_w]
                                          rfl
                                        refine pure_ (i := 16) (N := some 76) (v := ?_) (a' := ?_) #[true, true, true, true, true, true, true, true, true, true, true, true, true, true, true, true, true, false] rfl rfl (any_of HT_.out (by kernel_rfl)) (fun _ _ _ h => h) (Or.inl ⟨by rfl, ?_⟩) ?_ ?_
                                        rotate_left
                                        · intro w'
                                          go_simp
                                          with_reducible rfl
                                        rotate_left
                                        · simp only [Act.put, List.setIfInBounds_toArray, List.set_cons_zero, List.set_cons_succ, i64_w, i32_w]
                                          rfl
                                        refine pure_ (i := 17) (N := some 77) (v := ?_) (a' := ?_) #[true, true, true, true, true, true, true, true, true, true, true, true, true, true, true, true, true, true] rfl rfl (any_of HT_.out (by kernel_rfl)) (fun _ _ _ h => h) (Or.inl ⟨by rfl, ?_⟩) ?_ ?_
                                        rotate_left
                                        · intro w'
                                          go_simp
                                          with_reducible rfl
                                        rotate_left
                                        · simp only [Act.put, List.setIfInBounds_toArray, List.set_cons_zero, List.set_cons_succ, i64_w, i32_w]
                                          rfl
                                        refine done_ (done_of HT_.out (by kernel_rfl)) ?_
                                        try go_wp2
                                        go_ret2
                                        exact ⟨by first | rfl | (simp [errW_none, errW_some] <;> rfl) | (simp [*, errW_none, errW_some] <;> rfl), by repeat (first | (with_reducible first | exact HB.out | apply below_alloc | apply pw_below_drewN | apply below_drew1) | exact HB.out)⟩
                                    · rw [if_neg c33] at H
                                      exact absurd H (by simp)
                                  · rw [if_neg c31] at H
                                    have c31b0 : (((rd_T26 l0 x4_1).f1) == 3) = false := beq_eq_false_iff_ne.mpr c31
                                    have c31b1 : (((rd_T26 l0 x4_1).f1) != 3) = true := bne_iff_ne.mpr c31
                                    have H' := Aside0.mk H
                                    clear H
                                    try go_wp2
                                    have n0_ := Aside0.mk (below_drew1 HB.out)
                                    clear HB
                                    have HB := n0_
                                    clear n0_
                                    have p176 : 0 ≤ (x4_1 : Int) := of_decide_eq_true (by first | (with_reducible assumption) | assumption)
                                    have q176 : x4_1 < (l0.length : Int) := of_decide_eq_true (by first | (with_reducible assumption) | assumption)
                                    obtain ⟨ad176, A176_4, c176_4, e176, hx176_0, hx176_1, hx176_2, hx176_3, hx176_4, hx176_5, hl176_4, hi176_4⟩ := at_T26 HR0.out x4_1 p176 q176
                                    have hw176_5 := hx176_5
                                    have hw176_4 := hx176_4
                                    have hw176_3 := hx176_3
                                    have hw176_2 := hx176_2
                                    have hw176_1 := hx176_1
                                    have hw176_0 := hx176_0
                                    obtain rfl : ad164 = ad176 := (by injection e176)
                                    replace hx176_0 := (HB.out.cell (World.block_lt_of_cell? w _ hx176_0)).trans hx176_0
                                    replace hx176_1 := (HB.out.cell (World.block_lt_of_cell? w _ hx176_1)).trans hx176_1
                                    replace hx176_2 := (HB.out.cell (World.block_lt_of_cell? w _ hx176_2)).trans hx176_2
                                    replace hx176_3 := (HB.out.cell (World.block_lt_of_cell? w _ hx176_3)).trans hx176_3
                                    replace hx176_4 := (HB.out.cell (World.block_lt_of_cell? w _ hx176_4)).trans hx176_4
                                    replace hx176_5 := (HB.out.cell (World.block_lt_of_cell? w _ hx176_5)).trans hx176_5
                                    have HR176_4 := Aside0.mk hi176_4
                                    have HC176_4 := Aside0.mk hl176_4
                                    clear hi176_4 hl176_4
                                    replace p176 := eq_true p176
                                    replace q176 := eq_true q176
                                    refine start_ (n := 18) (S := fun w' => w'.cell? (ad164.add ((x4_1).toNat * 6)) = some (.string ((rd_T26 l0 x4_1).f0)) ∧ w'.cell? ⟨(ad164.add ((x4_1).toNat * 6)).block, (ad164.add ((x4_1).toNat * 6)).off + 1, none⟩ = some (.int .u8 ((rd_T26 l0 x4_1).f1)) ∧ w'.cell? ⟨(ad164.add ((x4_1).toNat * 6)).block, (ad164.add ((x4_1).toNat * 6)).off + 2, none⟩ = some (.int .i64 ((rd_T26 l0 x4_1).f2)) ∧ w'.cell? ⟨(ad164.add ((x4_1).toNat * 6)).block, (ad164.add ((x4_1).toNat * 6)).off + 3, none⟩ = some (.int .i64 ((rd_T26 l0 x4_1).f3)) ∧ w'.cell? ⟨(ad164.add ((x4_1).toNat * 6)).block, (ad164.add ((x4_1).toNat * 6)).off + 4, none⟩ = some (.slice A176_4 ((rd_T26 l0 x4_1).f4).length c176_4) ∧ w'.cell? ⟨(ad164.add ((x4_1).toNat * 6)).block, (ad164.add ((x4_1).toNat * 6)).off + 5, none⟩ = some (.string ((rd_T26 l0 x4_1).f5))) (ds := []) #[false, false, false, false, false, false, false, false, false, false, false, false, false, false, false, false, false, false] (by kernel_rfl) rfl rfl ⟨((HB.out.cell (World.block_lt_of_cell? w _ hw176_0)).trans hw176_0), ((HB.out.cell (World.block_lt_of_cell? w _ hw176_1)).trans hw176_1), ((HB.out.cell (World.block_lt_of_cell? w _ hw176_2)).trans hw176_2), ((HB.out.cell (World.block_lt_of_cell? w _ hw176_3)).trans hw176_3), ((HB.out.cell (World.block_lt_of_cell? w _ hw176_4)).trans hw176_4), ((HB.out.cell (World.block_lt_of_cell? w _ hw176_5)).trans hw176_5)⟩ (fun hHeld => ?_); refine with_tabW tabularyref11_Check.tab14 tabularyref11_Check.bits14 (fun HT_ HW_ => ?_)
                                    generalize wc.drew = w40 at HB HR176_4 hx176_0 hx176_1 hx176_2 hx176_3 hx176_4 hx176_5 hHeld ⊢
                                    refine pure_ (i := 0) (N := some 60) (v := ?_) (a' := ?_) #[true, false, false, false, false, false, false, false, false, false, false, false, false, false, false, false, false, false] rfl rfl (any_of HT_.out (by kernel_rfl)) (fun _ _ _ h => h) (Or.inl ⟨by rfl, ?_⟩) ?_ ?_
                                    rotate_left
                                    · intro w'
                                      go_simp
                                      with_reducible rfl
                                    rotate_left
                                    · simp only [Act.put, List.setIfInBounds_toArray, List.set_cons_zero, List.set_cons_succ, i64_w, i32_w]
                                      rfl
                                    refine pure_ (i := 1) (N := some 61) (v := ?_) (a' := ?_) #[true, true, false, false, false, false, false, false, false, false, false, false, false, false, false, false, false, false] rfl rfl (any_of HT_.out (by kernel_rfl)) (fun _ _ _ h => h) (Or.inl ⟨by rfl, ?_⟩) ?_ ?_
                                    rotate_left
                                    · intro w'
                                      go_simp
                                      with_reducible rfl
                                    rotate_left
                                    · simp only [Act.put, List.setIfInBounds_toArray, List.set_cons_zero, List.set_cons_succ, i64_w, i32_w]
                                      rfl
                                    refine pure_ (i := 2) (N := some 62) (v := ?_) (a' := ?_) #[true, true, true, false, false, false, false, false, false, false, false, false, false, false, false, false, false, false] rfl rfl (any_of HT_.out (by kernel_rfl)) (fun _ _ _ h => h) (Or.inl ⟨by rfl, ?_⟩) ?_ ?_
                                    rotate_left
                                    · intro w'
                                      go_simp
                                      with_reducible rfl
                                    rotate_left
                                    · simp only [Act.put, List.setIfInBounds_toArray, List.set_cons_zero, List.set_cons_succ, i64_w, i32_w]
                                      rfl
                                    refine pure_ (i := 3) (N := some 63) (v := ?_) (a' := ?_) #[true, true, true, true, false, false, false, false, false, false, false, false, false, false, false, false, false, false] rfl rfl (any_of HT_.out (by kernel_rfl)) (fun _ _ _ h => h) (Or.inl ⟨by rfl, ?_⟩) ?_ ?_
                                    rotate_left
                                    · intro w'
                                      go_simp
                                      with_reducible rfl
                                    rotate_left
                                    · simp only [Act.put, List.setIfInBounds_toArray, List.set_cons_zero, List.set_cons_succ, i64_w, i32_w]
                                      rfl
                                    refine take_ (i := 4) (N := some 64) (v := ?_) (a' := ?_) #[true, true, true, true, true, false, false, false, false, false, false, false, false, false, false, false, false, false] rfl rfl (take_ofW HT_.out HW_.out (by kernel_rfl)) (fun _ _ _ h => h) (Or.inl ⟨by rfl, ?_⟩) hHeld ?_ ?_
                                    rotate_left
                                    · rintro w' ⟨s0, s1, s2, s3, s4, s5⟩
                                      go_simp
                                      with_reducible rfl
                                    rotate_left
                                    · simp only [Act.put, List.setIfInBounds_toArray, List.set_cons_zero, List.set_cons_succ, i64_w, i32_w]
                                      rfl
                                    refine pure_ (i := 5) (N := some 65) (v := ?_) (a' := ?_) #[true, true, true, true, true, true, false, false, false, false, false, false, false, false, false, false, false, false] rfl rfl (any_of HT_.out (by kernel_rfl)) (fun _ _ _ h => h) (Or.inl ⟨by rfl, ?_⟩) ?_ ?_
                                    rotate_left
                                    · intro w'
                                      go_simp
                                      with_reducible rfl
                                    rotate_left
                                    · simp only [Act.put, List.setIfInBounds_toArray, List.set_cons_zero, List.set_cons_succ, i64_w, i32_w]
                                      rfl
                                    refine pure_ (i := 6) (N := some 66) (v := ?_) (a' := ?_) #[true, true, true, true, true, true, true, false, false, false, false, false, false, false, false, false, false, false] rfl rfl (any_of HT_.out (by kernel_rfl)) (fun _ _ _ h => h) (Or.inl ⟨by rfl, ?_⟩) ?_ ?_
                                    rotate_left
                                    · intro w'
                                      go_simp
                                      with_reducible rfl
                                    rotate_left
                                    · simp only [Act.put, List.setIfInBounds_toArray, List.set_cons_zero, List.set_cons_succ, i64_w, i32_w]
                                      rfl
                                    refine pure_ (i := 7) (N := some 67) (v := undef) (a' := ?_) #[true, true, true, true, true, true, true, true, false, false, false, false, false, false, false, false, false, false] rfl rfl (any_of HT_.out (by kernel_rfl)) (fun _ _ _ h => h) (Or.inr ⟨by rfl, rfl⟩) ?_ ?_
                                    rotate_left
                                    · simp only [Act.put, List.setIfInBounds_toArray, List.set_cons_zero, List.set_cons_succ, i64_w, i32_w]
                                      rfl
                                    refine pure_ (i := 8) (N := some 68) (v := undef) (a' := ?_) #[true, true, true, true, true, true, true, true, true, false, false, false, false, false, false, false, false, false] rfl rfl (any_of HT_.out (by kernel_rfl)) (fun _ _ _ h => h) (Or.inr ⟨by rfl, rfl⟩) ?_ ?_
                                    rotate_left
                                    · simp only [Act.put, List.setIfInBounds_toArray, List.set_cons_zero, List.set_cons_succ, i64_w, i32_w]
                                      rfl
                                    refine pure_ (i := 9) (N := some 69) (v := undef) (a' := ?_) #[true, true, true, true, true, true, true, true, true, true, false, false, false, false, false, false, false, false] rfl rfl (any_of HT_.out (by kernel_rfl)) (fun _ _ _ h => h) (Or.inr ⟨by rfl, rfl⟩) ?_ ?_
                                    rotate_left
                                    · simp only [Act.put, List.setIfInBounds_toArray, List.set_cons_zero, List.set_cons_succ, i64_w, i32_w]
                                      rfl
                                    refine pure_ (i := 10) (N := some 70) (v := undef) (a' := ?_) #[true, true, true, true, true, true, true, true, true, true, true, false, false, false, false, false, false, false] rfl rfl (any_of HT_.out (by kernel_rfl)) (fun _ _ _ h => h) (Or.inr ⟨by rfl, rfl⟩) ?_ ?_
                                    rotate_left
                                    · simp only [Act.put, List.setIfInBounds_toArray, List.set_cons_zero, List.set_cons_succ, i64_w, i32_w]
                                      rfl
                                    refine pure_ (i := 11) (N := some 71) (v := undef) (a' := ?_) #[true, true, true, true, true, true, true, true, true, true, true, true, false, false, false, false, false, false] rfl rfl (any_of HT_.out (by kernel_rfl)) (fun _ _ _ h => h) (Or.inr ⟨by rfl, rfl⟩) ?_ ?_
                                    rotate_left
                                    · simp only [Act.put, List.setIfInBounds_toArray, List.set_cons_zero, List.set_cons_succ, i64_w, i32_w]
                                      rfl
                                    refine pure_ (i := 12) (N := some 72) (v := undef) (a' := ?_) #[true, true, true, true, true, true, true, true, true, true, true, true, true, false, false, false, false, false] rfl rfl (any_of HT_.out (by kernel_rfl)) (fun _ _ _ h => h) (Or.inr ⟨by rfl, rfl⟩) ?_ ?_
                                    rotate_left
                                    · simp only [Act.put, List.setIfInBounds_toArray, List.set_cons_zero, List.set_cons_succ, i64_w, i32_w]
                                      rfl
                                    refine pure_ (i := 13) (N := some 73) (v := undef) (a' := ?_) #[true, true, true, true, true, true, true, true, true, true, true, true, true, true, false, false, false, false] rfl rfl (any_of HT_.out (by kernel_rfl)) (fun _ _ _ h => h) (Or.inr ⟨by rfl, rfl⟩) ?_ ?_
                                    rotate_left
                                    · simp only [Act.put, List.setIfInBounds_toArray, List.set_cons_zero, List.set_cons_succ, i64_w, i32_w]
                                      rfl
                                    refine pure_ (i := 14) (N := some 74) (v := undef) (a' := ?_) #[true, true, true, true, true, true, true, true, true, true, true, true, true, true, true, false, false, false] rfl rfl (any_of HT_.out (by kernel_rfl)) (fun _ _ _ h => h) (Or.inr ⟨by rfl, rfl⟩) ?_ ?_
                                    rotate_left
                                    · simp only [Act.put, List.setIfInBounds_toArray, List.set_cons_zero, List.set_cons_succ, i64_w, i32_w]
                                      rfl
                                    refine pure_ (i := 15) (N := some 75) (v := undef) (a' := ?_) #[true, true, true, true, true, true, true, true, true, true, true, true, true, true, true, true, false, false] rfl rfl (any_of HT_.out (by kernel_rfl)) (fun _ _ _ h => h) (Or.inr ⟨by rfl, rfl⟩) ?_ ?_
                                    rotate_left
                                    · simp only [Act.put, List.setIfInBounds_toArray, List.set_cons_zero, List.set_cons_succ, i64_w, i32_w]
                                      rfl
                                    refine pure_ (i := 16) (N := some 76) (v := undef) (a' := ?_) #[true, true, true, true, true, true, true, true, true, true, true, true, true, true, true, true, true, false] rfl rfl (any_of HT_.out (by kernel_rfl)) (fun _ _ _ h => h) (Or.inr ⟨by rfl, rfl⟩) ?_ ?_
                                    rotate_left
                                    · simp only [Act.put, List.setIfInBounds_toArray, List.set_cons_zero, List.set_cons_succ, i64_w, i32_w]
                                      rfl
                                    refine pure_ (i := 17) (N := some 77) (v := ?_) (a' := ?_) #[true, true, true, true, true, true, true, true, true, true, true, true, true, true, true, true, true, true] rfl rfl (any_of HT_.out (by kernel_rfl)) (fun _ _ _ h => h) (Or.inl ⟨by rfl, ?_⟩) ?_ ?_
                                    rotate_left
                                    · intro w'
                                      go_simp
                                      with_reducible rfl
                                    rotate_left
                                    · simp only [Act.put, List.setIfInBounds_toArray, List.set_cons_zero, List.set_cons_succ, i64_w, i32_w]
                                      rfl
                                    refine done_ (done_of HT_.out (by kernel_rfl)) ?_
                                    try go_wp2
                                    go_roundg kj20
                                    case measure => have := HK1.out; have := HJ6.out; have := HJ20.out; omega
                                    case rel => exact ⟨(wrap64 (x4_1 + 1)), (by first | rfl | (simp; done) | (simp [*]; done)), H', ⟨by have := HK1.out; have := HJ6.out; have := HJ20.out; omega⟩, ⟨by repeat (first | (with_reducible first | exact HB.out | apply below_alloc | apply pw_below_drewN | apply below_drew1) | exact HB.out)⟩⟩
                                · rw [if_neg c30] at H
                                  exact absurd H (by simp)
                              · rw [if_neg c29] at H
                                exact absurd H (by simp)
                      · rw [if_neg c19] at H
                        exact absurd H (by simp)
                    · rw [if_neg c18] at H
                      exact absurd H (by simp)
            · rw [if_neg c6] at H
              have c6b0 : (t165 == 0) = false := beq_eq_false_iff_ne.mpr c6
              have c6b1 : (t165 != 0) = true := bne_iff_ne.mpr c6
              simp only [Option.some.injEq, Prod.mk.injEq] at H
              obtain ⟨rfl, rfl⟩ := H
              have p164 : 0 ≤ (x4_1 : Int) := of_decide_eq_true (by first | (with_reducible assumption) | assumption)
              have q164 : x4_1 < (l0.length : Int) := of_decide_eq_true (by first | (with_reducible assumption) | assumption)
              obtain ⟨ad164, A164_4, c164_4, e164, hx164_0, hx164_1, hx164_2, hx164_3, hx164_4, hx164_5, hl164_4, hi164_4⟩ := at_T26 HR0.out x4_1 p164 q164
              cases e164
              replace hx164_0 := (HB.out.cell (World.block_lt_of_cell? w _ hx164_0)).trans hx164_0
              replace hx164_1 := (HB.out.cell (World.block_lt_of_cell? w _ hx164_1)).trans hx164_1
              replace hx164_2 := (HB.out.cell (World.block_lt_of_cell? w _ hx164_2)).trans hx164_2
              replace hx164_3 := (HB.out.cell (World.block_lt_of_cell? w _ hx164_3)).trans hx164_3
              replace hx164_4 := (HB.out.cell (World.block_lt_of_cell? w _ hx164_4)).trans hx164_4
              replace hx164_5 := (HB.out.cell (World.block_lt_of_cell? w _ hx164_5)).trans hx164_5
              have HR164_4 := Aside0.mk hi164_4
              have HC164_4 := Aside0.mk hl164_4
              clear hi164_4 hl164_4
              replace p164 := eq_true p164
              replace q164 := eq_true q164
              go_wp2_with (first | ((with_reducible refine gate_callee (f := 16) rfl ?_); refine goesL_ (some 20) rfl rfl Tryd.func16 (by kernel_rfl) rfl #[.agg #[.string ((rd_T26 l0 x4_1).f0), .int .u8 ((rd_T26 l0 x4_1).f1), .int .i64 ((rd_T26 l0 x4_1).f2), .int .i64 ((rd_T26 l0 x4_1).f3), .slice A164_4 ((rd_T26 l0 x4_1).f4).length c164_4, .string ((rd_T26 l0 x4_1).f5)]] rfl (by (try simp only [List.map_toArray, List.map_cons, List.map_nil]); first | done | rfl | (simp only [List.length_drop, List.length_take]; rfl)) ?_; (with_reducible refine (tabularyref11_May.calls k1 ((rd_T26 l0 x4_1).f0) ((rd_T26 l0 x4_1).f1) ((rd_T26 l0 x4_1).f2) ((rd_T26 l0 x4_1).f3) _ _ ((rd_T26 l0 x4_1).f4) ((rd_T26 l0 x4_1).f5) t165 _ ?side1 ?side2 A5.out).mono ?_); (case side1 => repeat (first | exact (Kd.C_below HR164_4.out HB.out) | (with_reducible refine Kd.C_alloc ?_ _) | (with_reducible refine Kd.C_drewN ?_ _) | (with_reducible refine Kd.C_drew ?_))); (case side2 => exact HC164_4.out); rintro e w41 ⟨rfl, hb⟩; refine ⟨_, rfl, ?_⟩; have n0_ := Aside0.mk (below_step (by repeat (first | (with_reducible first | exact HB.out | apply below_alloc | apply pw_below_drewN | apply below_drew1) | exact HB.out)) hb); clear HB; have HB := n0_; clear n0_; (try clear hb); (try clear hb2); (try clear hk); (try clear hi)))
              go_ret2
              exact ⟨by first | rfl | (simp [errW_none, errW_some] <;> rfl) | (simp [*, errW_none, errW_some] <;> rfl), by repeat (first | (with_reducible first | exact HB.out | apply below_alloc | apply pw_below_drewN | apply below_drew1) | exact HB.out)⟩
          · rw [if_neg c4] at H
            exact absurd H (by simp)
        · rw [if_neg c3] at H
          have c3b0 : decide (x4_1 < (l0.length : Int)) = false := decide_eq_false c3
          clear c3
          simp only [Option.some.injEq, Prod.mk.injEq] at H
          obtain ⟨rfl, rfl⟩ := H
          go_wp2
          go_ret2
          exact ⟨by first | rfl | (simp [errW_none, errW_some] <;> rfl) | (simp [*, errW_none, errW_some] <;> rfl), by repeat (first | (with_reducible first | exact HB.out | apply below_alloc | apply pw_below_drewN | apply below_drew1) | exact HB.out)⟩
end Go.Proofs.YthpecpkncifngaaDoor.X
end

-- PRINTED by print.py (a twelfth state) out of the translation. Not trusted: Lean checks it.
section
namespace Go.Proofs.YthpecpkncifngaaDoor.X
open Go.RowKit Go.Proofs.YthpecpkncifngaaDoorW.PrintWords Go.Proofs.YthpecpkncifngaaDoorW.PrintLast Go.Proofs.YthpecpkncifngaaDoorW.PrintMore
attribute [local go_sem] max2_int min2_int max_two min_two max_three min_three max_four min_four   -- for this text's walks alone
def tabularyref11_Find.l0 : Nat → List (S26) → ByteArray → Int → Option (Int × Int)
  | 0, _, _, _ => none
  | k + 1, x0, x1, x6 => if x6 < (x0.length : Int) then (if 0 ≤ x6 then (if ((rd_T26 x0 x6).f0).toList = x1.toList then (some (x6, 0)) else (tabularyref11_Find.l0 k x0 x1 (wrap64 (x6 + 1)))) else (none)) else (some (0, 4))
def tabularyref11_Find.f (k : Nat) (l0 : List (S26)) (a1 : ByteArray) : Option (Int × Int) := tabularyref11_Find.l0 k l0 a1 0
set_option maxHeartbeats 8000000 in
set_option maxRecDepth 100000 in
theorem tabularyref11_Find.calls (k : Nat) (A0 : Option Addr) (c0 : Nat) (l0 : List (S26)) (a1 : ByteArray) (r1 : Int) (r2 : Int) (w : World) (hr0 : Kd.C k26 w A0 l0.length l0) (hc0 : l0.length ≤ c0) (h : tabularyref11_Find.f k l0 a1 = some (r1, r2)) :
    Calls Tryd.prog 49 #[.slice A0 l0.length c0, .string a1] w fun e w' => e = .returned (.tuple #[.int .i64 r1, .int .i64 r2]) ∧ Drawn0 w w' := by
  have HR0 := Aside0.mk hr0
  have HC0 := Aside0.mk hc0
  clear hr0 hc0
  have H : (tabularyref11_Find.l0 k l0 a1 0) = some (r1, r2) := h
  clear h
  have H' := Aside0.mk H
  clear H
  go_enter Tryd.func49, Tryd.ntmps49
  go_wp2
  go_loopg [6] k (fun kq v6 w' => ∃ (x6_1 : Int), v6 = .int .i64 x6_1 ∧ Aside0 (tabularyref11_Find.l0 kq l0 a1 x6_1 = some (r1, r2)) ∧ Aside0 (kq ≤ k) ∧ Drawn0 w w')
  case atStart => exact ⟨(0), (by first | rfl | (simp; done) | (simp [*]; done)), H', ⟨Nat.le_refl _⟩, by repeat (first | exact Drawn0.refl _ | apply Drawn0.step)⟩
  case round =>
    clear H'
    try clear p2
    obtain ⟨x6_1, rfl, HA, HK1, ⟨m1, rfl⟩⟩ := hrel
    cases gk with
    | zero => exact absurd HA.out (by simp [tabularyref11_Find.l0])
    | succ k1 =>
      have H := HA.out
      clear HA
      simp only [tabularyref11_Find.l0] at H
      by_cases c3 : x6_1 < (l0.length : Int)
      · rw [if_pos c3] at H
        have c3b0 : decide (x6_1 < (l0.length : Int)) = true := decide_eq_true c3
        clear c3
        by_cases c4 : 0 ≤ x6_1
        · rw [if_pos c4] at H
          have c4b0 : decide (0 ≤ x6_1) = true := decide_eq_true c4
          clear c4
          by_cases c5 : ((rd_T26 l0 x6_1).f0).toList = a1.toList
          · rw [if_pos c5] at H
            have c5b0 : (((rd_T26 l0 x6_1).f0).toList == a1.toList) = true := beq_iff_eq.mpr c5
            have c5b1 : (((rd_T26 l0 x6_1).f0).toList != a1.toList) = false := bne_eq_false_iff_eq.mpr c5
            clear c5
            simp only [Option.some.injEq, Prod.mk.injEq] at H
            obtain ⟨rfl, rfl⟩ := H
            have p183 : 0 ≤ (x6_1 : Int) := of_decide_eq_true (by first | (with_reducible assumption) | assumption)
            have q183 : x6_1 < (l0.length : Int) := of_decide_eq_true (by first | (with_reducible assumption) | assumption)
            obtain ⟨ad183, A183_4, c183_4, e183, hx183_0, hx183_1, hx183_2, hx183_3, hx183_4, hx183_5, hl183_4, hi183_4⟩ := at_T26 HR0.out x6_1 p183 q183
            cases e183
            have HR183_4 := Aside0.mk hi183_4
            have HC183_4 := Aside0.mk hl183_4
            clear hi183_4 hl183_4
            replace p183 := eq_true p183
            replace q183 := eq_true q183
            go_wp2
            go_ret2
            exact ⟨by first | rfl | (simp; done) | (simp [*]; done), by repeat (first | exact Drawn0.refl _ | apply Drawn0.step)⟩
          · rw [if_neg c5] at H
            have c5b0 : (((rd_T26 l0 x6_1).f0).toList == a1.toList) = false := beq_eq_false_iff_ne.mpr c5
            have c5b1 : (((rd_T26 l0 x6_1).f0).toList != a1.toList) = true := bne_iff_ne.mpr c5
            have H' := Aside0.mk H
            clear H
            have p183 : 0 ≤ (x6_1 : Int) := of_decide_eq_true (by first | (with_reducible assumption) | assumption)
            have q183 : x6_1 < (l0.length : Int) := of_decide_eq_true (by first | (with_reducible assumption) | assumption)
            obtain ⟨ad183, A183_4, c183_4, e183, hx183_0, hx183_1, hx183_2, hx183_3, hx183_4, hx183_5, hl183_4, hi183_4⟩ := at_T26 HR0.out x6_1 p183 q183
            cases e183
            have HR183_4 := Aside0.mk hi183_4
            have HC183_4 := Aside0.mk hl183_4
            clear hi183_4 hl183_4
            replace p183 := eq_true p183
            replace q183 := eq_true q183
            go_wp2
            go_roundg k1
            case measure => have := HK1.out; omega
            case rel => exact ⟨(wrap64 (x6_1 + 1)), (by first | rfl | (simp; done) | (simp [*]; done)), H', ⟨by have := HK1.out; omega⟩, by repeat (first | exact Drawn0.refl _ | apply Drawn0.step)⟩
        · rw [if_neg c4] at H
          exact absurd H (by simp)
      · rw [if_neg c3] at H
        have c3b0 : decide (x6_1 < (l0.length : Int)) = false := decide_eq_false c3
        clear c3
        simp only [Option.some.injEq, Prod.mk.injEq] at H
        obtain ⟨rfl, rfl⟩ := H
        go_wp2
        go_ret2
        exact ⟨by first | rfl | (simp; done) | (simp [*]; done), by repeat (first | exact Drawn0.refl _ | apply Drawn0.step)⟩
end Go.Proofs.YthpecpkncifngaaDoor.X
end

-- PRINTED by print.py (a twelfth state) out of the translation. Not trusted: Lean checks it.
section
namespace Go.Proofs.YthpecpkncifngaaDoor.X
open Go.RowKit Go.Proofs.YthpecpkncifngaaDoorW.PrintWords Go.Proofs.YthpecpkncifngaaDoorW.PrintLast Go.Proofs.YthpecpkncifngaaDoorW.PrintMore
attribute [local go_sem] max2_int min2_int max_two min_two max_three min_three max_four min_four   -- for this text's walks alone
-- NOT PRINTED: function 22 (tabularyref11_With)
def tabularyref11_parts.l0 : Nat → List ByteArray → List (S99) → Int → Option (List ByteArray)
  | 0, _, _, _ => none
  | k + 1, x3, x4, x5 => if x5 < (x4.length : Int) then (if 0 ≤ x5 then (if x3.length < 8796093022208 then (tabularyref11_parts.l0 k (x3 ++ [(rd_T99 x4 x5).f1]) x4 (wrap64 (x5 + 1))) else (none)) else (none)) else (some x3)
def tabularyref11_parts.f (k : Nat) (a0 : ByteArray) : Option (List ByteArray) := if a0.toList = ([] : List UInt8) then (some ([] : List ByteArray)) else ((tabularyref08_Pieces.f k a0).bind fun t232 => (tabularyref11_parts.l0 k ([] : List ByteArray) t232 0))
set_option maxHeartbeats 8000000 in
set_option maxRecDepth 100000 in
theorem tabularyref11_parts.calls (k : Nat) (a0 : ByteArray) (r : List ByteArray) (w : World) (h : tabularyref11_parts.f k a0 = some r) :
    Calls Tryd.prog 61 #[.string a0] w fun e w' => ∃ v0_ : Value, e = .returned (v0_) ∧ Kd.R Kd.string 9 w' w.heap.size (fun _ => True) v0_ r ∧ Below w.heap.size w w' := by
  have HB := Aside0.mk (Below.refl w.heap.size w)
  have H : (if a0.toList = ([] : List UInt8) then (some ([] : List ByteArray)) else ((tabularyref08_Pieces.f k a0).bind fun t232 => (tabularyref11_parts.l0 k ([] : List ByteArray) t232 0))) = some r := h
  clear h
  by_cases c2 : a0.toList = ([] : List UInt8)
  · rw [if_pos c2] at H
    have c2b0 : (a0.toList == ([] : List UInt8)) = true := beq_iff_eq.mpr c2
    have c2b1 : (a0.toList != ([] : List UInt8)) = false := bne_eq_false_iff_eq.mpr c2
    clear c2
    obtain rfl := Option.some.inj H
    go_enter Tryd.func61, Tryd.ntmps61
    go_wp2
    go_ret
    exact ⟨_, by first | rfl | (simp [errW_none, errW_some] <;> rfl) | (simp [*, errW_none, errW_some] <;> rfl), by first | exact Kd.R_nil _ _ _ _ _ | exact Kd.N_nil _ _ _ _ _ | exact Kd.V_nil _ _ _ _ _ | exact Kd.Q_nil _ _ _ _ _ | exact Kd.S_nil _ _ _ _ _, by repeat (first | (with_reducible first | exact HB.out | apply below_alloc | apply pw_below_drewN | apply below_drew1) | exact HB.out)⟩
  · rw [if_neg c2] at H
    have c2b0 : (a0.toList == ([] : List UInt8)) = false := beq_eq_false_iff_ne.mpr c2
    have c2b1 : (a0.toList != ([] : List UInt8)) = true := bne_iff_ne.mpr c2
    replace H := Option.bind_eq_some_iff.mp H
    obtain ⟨t232, A30, H⟩ := H
    replace H : (tabularyref11_parts.l0 k ([] : List ByteArray) t232 0) = some r := H
    have A3 := Aside0.mk A30
    clear A30
    have H' := Aside0.mk H
    clear H
    go_enter Tryd.func61, Tryd.ntmps61
    go_wp2_with (first | ((with_reducible refine gate_callee (f := 72) rfl ?_); refine goesL_ (some 10) rfl rfl Tryd.func72 (by kernel_rfl) rfl #[.string a0] rfl (by (try simp only [List.map_toArray, List.map_cons, List.map_nil]); first | done | rfl | (simp only [List.length_drop, List.length_take]; rfl)) ?_; (with_reducible refine (tabularyref08_Pieces.calls k a0 t232 _ A3.out).mono ?_); rintro e w4 ⟨v233, rfl, ho0, hb⟩; refine ⟨_, rfl, ?_⟩; have n0_ := Aside0.mk (Kd.R_lower ho0 (below_size (by repeat (first | (with_reducible first | exact HB.out | apply below_alloc | apply pw_below_drewN | apply below_drew1) | exact HB.out)))); have n1_ := Aside0.mk (below_step (by repeat (first | (with_reducible first | exact HB.out | apply below_alloc | apply pw_below_drewN | apply below_drew1) | exact HB.out)) hb); clear HB; have HO234 := n0_; have HB := n1_; clear n0_ n1_; (try clear hb); (try clear hb2); (try clear hk); (try clear hi); (try clear ho0)))
    go_loopg [3, 5] k (fun kq v3 v5 w' => ∃ (x3_1 : List ByteArray) (x5_1 : Int), v5 = .int .i64 x5_1 ∧ Aside0 (tabularyref11_parts.l0 kq x3_1 t232 x5_1 = some r) ∧ Aside0 (kq ≤ k) ∧ Aside0 (Kd.R Kd.string 9 w' w.heap.size (fun _ => True) v3 x3_1) ∧ Aside0 (Kd.R k99 99 w' w.heap.size (fun _ => True) v233 t232) ∧ Aside0 (Below w.heap.size w w'))
    case atStart => exact ⟨(([] : List ByteArray)), (0), (by first | rfl | (simp; done) | (simp [*]; done)), H', ⟨Nat.le_refl _⟩, ⟨by first | exact Kd.R_nil _ _ _ _ _ | exact Kd.N_nil _ _ _ _ _ | exact Kd.V_nil _ _ _ _ _ | exact Kd.Q_nil _ _ _ _ _ | exact Kd.S_nil _ _ _ _ _⟩, ⟨by (with_reducible repeat (first | apply Kd.R_alloc | apply Kd.R_drewN | apply Kd.R_drew)); exact HO234.out⟩, ⟨by repeat (first | (with_reducible first | exact HB.out | apply below_alloc | apply pw_below_drewN | apply below_drew1) | exact HB.out)⟩⟩
    case round =>
      clear H'
      try clear c2
      try clear c2b0
      try clear c2b1
      try clear p2
      obtain ⟨x3_1, x5_1, rfl, HA, HK1, HO_3, HO_4, HB⟩ := hrel
      cases gk with
      | zero => exact absurd HA.out (by simp [tabularyref11_parts.l0])
      | succ k1 =>
        have H := HA.out
        clear HA
        simp only [tabularyref11_parts.l0] at H
        by_cases c5 : x5_1 < (t232.length : Int)
        · rw [if_pos c5] at H
          have c5b0 : decide (x5_1 < (t232.length : Int)) = true := decide_eq_true c5
          clear c5
          by_cases c6 : 0 ≤ x5_1
          · rw [if_pos c6] at H
            have c6b0 : decide (0 ≤ x5_1) = true := decide_eq_true c6
            clear c6
            by_cases c7 : x3_1.length < 8796093022208
            · rw [if_pos c7] at H
              have LMc7 := Aside0.mk c7
              clear c7
              obtain ⟨y236, hy236⟩ : ∃ y_ : List ByteArray, y_ = (x3_1 ++ [(rd_T99 t232 x5_1).f1]) := ⟨_, rfl⟩
              replace H : (tabularyref11_parts.l0 k1 y236 t232 (wrap64 (x5_1 + 1))) = some r := by first | (rw [hy236]; with_reducible exact H) | (have H2_ := (Option.bind_some _ _).symm.trans H; rw [hy236]; with_reducible exact H2_) | (have H2_ := (Option.bind_some _ _).symm.trans H; with_reducible exact H2_) | with_reducible exact H | (rw [hy236]; exact H) | exact H
              have Ny236 := Aside0.mk hy236
              clear hy236
              have H' := Aside0.mk H
              clear H
              obtain ⟨Ao8, co8, eo8⟩ := Kd.R_slice HO_4.out
              subst eo8
              have p235 : 0 ≤ (x5_1 : Int) := of_decide_eq_true (by first | (with_reducible assumption) | assumption)
              have q235 : x5_1 < (t232.length : Int) := of_decide_eq_true (by first | (with_reducible assumption) | assumption)
              obtain ⟨ad235, e235, hx235_0, hx235_1⟩ := at_T99 (Kd.R_reads' HO_4.out).2.2 x5_1 p235 q235
              cases e235
              replace p235 := eq_true p235
              replace q235 := eq_true q235
              go_wp2_with (first | ((with_reducible refine gate_builtin (b := .append) (xs := #[.tmp 17, .tmp 23]) rfl ?_); at_builtin; refine Kd.R_append Kd.string (w0 := w) w.heap.size rfl (.tmp 17) (.tmp 23) 60 9 (.string ⟨#[]⟩) 16 rfl Tryd.underlying60 info9 rfl (by decide) (by omega) u3 x3_1 ((rd_T99 t232 x5_1).f1) [.string ((rd_T99 t232 x5_1).f1)] (fun _ => True) (fun _ => False) rfl rfl ?aP (fun _ hk => hk.elim) ?aF ?aO ?aB ?aS ?aL ?_; (case aP => exact rfl); (case aB => exact (by repeat (first | (with_reducible first | exact HB.out | apply below_alloc | apply pw_below_drewN | apply below_drew1) | exact HB.out))); (case aF => exact (fun _ _ => trivial)); (case aO => exact (by (with_reducible repeat (first | apply Kd.R_alloc | apply Kd.R_drewN | apply Kd.R_drew)); exact HO_3.out)); (case aS => exact (below_size (by repeat (first | (with_reducible first | exact HB.out | apply below_alloc | apply pw_below_drewN | apply below_drew1) | exact HB.out)))); (case aL => have := LMc7.out; omega); intro v237 w9 ho hb hg hat; rw [← Ny236.out] at ho; have n0_ := Aside0.mk (Kd.R_over' (by (with_reducible repeat (first | apply Kd.R_alloc | apply Kd.R_drewN | apply Kd.R_drew)); exact HO_4.out) (Kd.R_typed (by (with_reducible repeat (first | apply Kd.R_alloc | apply Kd.R_drewN | apply Kd.R_drew)); exact HO_3.out)) (by decide) hg); have n1_ := Aside0.mk (hb); have n2_ := Aside0.mk (ho); clear HO_4; clear HB; clear HO_3; have HO_4 := n0_; have HB := n1_; have HO238 := n2_; clear n0_ n1_ n2_; clear ho hb hg hat))
              go_roundg k1
              case measure => have := HK1.out; omega
              case rel => exact ⟨(y236), (wrap64 (x5_1 + 1)), (by first | rfl | (simp; done) | (simp [*]; done)), H', ⟨by have := HK1.out; omega⟩, ⟨by (with_reducible repeat (first | apply Kd.R_alloc | apply Kd.R_drewN | apply Kd.R_drew)); exact HO238.out⟩, ⟨by (with_reducible repeat (first | apply Kd.R_alloc | apply Kd.R_drewN | apply Kd.R_drew)); exact HO_4.out⟩, ⟨by repeat (first | (with_reducible first | exact HB.out | apply below_alloc | apply pw_below_drewN | apply below_drew1) | exact HB.out)⟩⟩
            · rw [if_neg c7] at H
              exact absurd H (by simp)
          · rw [if_neg c6] at H
            exact absurd H (by simp)
        · rw [if_neg c5] at H
          have c5b0 : decide (x5_1 < (t232.length : Int)) = false := decide_eq_false c5
          clear c5
          obtain rfl := Option.some.inj H
          obtain ⟨Ao10, co10, eo10⟩ := Kd.R_slice HO_4.out
          subst eo10
          go_wp2
          go_ret
          exact ⟨_, by first | rfl | (simp [errW_none, errW_some] <;> rfl) | (simp [*, errW_none, errW_some] <;> rfl), by (with_reducible repeat (first | apply Kd.R_alloc | apply Kd.R_drewN | apply Kd.R_drew)); exact HO_3.out, by repeat (first | (with_reducible first | exact HB.out | apply below_alloc | apply pw_below_drewN | apply below_drew1) | exact HB.out)⟩
def strings_IndexByte.f (a0 : ByteArray) (a1 : Int) : Option Int := some (Lib.indexByte a0.data.toList a1.toNat.toUInt8)
theorem strings_IndexByte.calls (a0 : ByteArray) (a1 : Int) (r : Int) (w : World) (h : strings_IndexByte.f a0 a1 = some r) :
    Calls Tryd.prog 70 #[.string a0, .int .u8 a1] w fun e w' => e = .returned (.int .i64 r) ∧ Drawn0 w w' := by
  obtain rfl := Option.some.inj h
  refine (Tryd.strings_IndexByte a0 a1 w).mono ?_
  rintro e w' ⟨rfl, rfl⟩
  exact ⟨rfl, Drawn0.refl _⟩
def cmp_isNaN_string.f (a0 : ByteArray) : Option (Bool) := some (a0.toList != a0.toList)
set_option maxHeartbeats 8000000 in
set_option maxRecDepth 100000 in
theorem cmp_isNaN_string.calls (a0 : ByteArray) (r : Bool) (w : World) (h : cmp_isNaN_string.f a0 = some r) :
    Calls Tryd.prog 96 #[.string a0] w fun e w' => e = .returned (.bool r) ∧ Drawn0 w w' := by
  have H : (some (a0.toList != a0.toList)) = some r := h
  clear h
  obtain rfl := Option.some.inj H
  go_enter Tryd.func96, Tryd.ntmps96
  go_wp2
  go_ret
  exact ⟨by first | rfl | (simp; done) | (simp [*]; done), by repeat (first | exact Drawn0.refl _ | apply Drawn0.step)⟩
def cmp_Compare_string.f (a0 : ByteArray) (a1 : ByteArray) : Option (Int) := (cmp_isNaN_string.f a0).bind fun t271 => ((cmp_isNaN_string.f a1).bind fun t272 => (if t271 = true then (if t272 = true then (some 0) else (some (-1))) else (if t272 = true then (some 1) else (if (Op.bytesLess a0.toList a1.toList) = true then (some (-1)) else (if (Op.bytesLess a1.toList a0.toList) = true then (some 1) else (some 0))))))
set_option maxHeartbeats 8000000 in
set_option maxRecDepth 100000 in
theorem cmp_Compare_string.calls (a0 : ByteArray) (a1 : ByteArray) (r : Int) (w : World) (h : cmp_Compare_string.f a0 a1 = some r) :
    Calls Tryd.prog 71 #[.string a0, .string a1] w fun e w' => e = .returned (.int .i64 r) ∧ Drawn0 w w' := by
  have H : ((cmp_isNaN_string.f a0).bind fun t271 => ((cmp_isNaN_string.f a1).bind fun t272 => (if t271 = true then (if t272 = true then (some 0) else (some (-1))) else (if t272 = true then (some 1) else (if (Op.bytesLess a0.toList a1.toList) = true then (some (-1)) else (if (Op.bytesLess a1.toList a0.toList) = true then (some 1) else (some 0))))))) = some r := h
  clear h
  replace H := Option.bind_eq_some_iff.mp H
  obtain ⟨t271, A30, H⟩ := H
  replace H : ((cmp_isNaN_string.f a1).bind fun t272 => (if t271 = true then (if t272 = true then (some 0) else (some (-1))) else (if t272 = true then (some 1) else (if (Op.bytesLess a0.toList a1.toList) = true then (some (-1)) else (if (Op.bytesLess a1.toList a0.toList) = true then (some 1) else (some 0)))))) = some r := H
  have A3 := Aside0.mk A30
  clear A30
  replace H := Option.bind_eq_some_iff.mp H
  obtain ⟨t272, A40, H⟩ := H
  replace H : (if t271 = true then (if t272 = true then (some 0) else (some (-1))) else (if t272 = true then (some 1) else (if (Op.bytesLess a0.toList a1.toList) = true then (some (-1)) else (if (Op.bytesLess a1.toList a0.toList) = true then (some 1) else (some 0))))) = some r := H
  have A4 := Aside0.mk A40
  clear A40
  by_cases c5 : t271 = true
  · subst c5
    have H1 : (if t272 = true then (some 0) else (some (-1))) = some r := by rw [if_pos rfl] at H; exact H
    clear H
    have H := H1
    clear H1
    by_cases c6 : t272 = true
    · subst c6
      have H1 : (some 0) = some r := by rw [if_pos rfl] at H; exact H
      clear H
      have H := H1
      clear H1
      obtain rfl := Option.some.inj H
      go_enter Tryd.func71, Tryd.ntmps71
      go_wp2_with (first | ((with_reducible refine gate_callee (f := 96) rfl ?_); refine goesL_ (some 8) rfl rfl Tryd.func96 (by kernel_rfl) rfl #[.string a0] rfl (by (try simp only [List.map_toArray, List.map_cons, List.map_nil]); first | done | rfl | (simp only [List.length_drop, List.length_take]; rfl)) ?_; (with_reducible refine (cmp_isNaN_string.calls a0 true _ A3.out).mono ?_); rintro e w' ⟨rfl, ⟨nd, rfl⟩⟩; refine ⟨_, rfl, ?_⟩) | ((with_reducible refine gate_callee (f := 96) rfl ?_); refine goesL_ (some 10) rfl rfl Tryd.func96 (by kernel_rfl) rfl #[.string a1] rfl (by (try simp only [List.map_toArray, List.map_cons, List.map_nil]); first | done | rfl | (simp only [List.length_drop, List.length_take]; rfl)) ?_; (with_reducible refine (cmp_isNaN_string.calls a1 true _ A4.out).mono ?_); rintro e w' ⟨rfl, ⟨nd, rfl⟩⟩; refine ⟨_, rfl, ?_⟩))
      go_ret
      exact ⟨by first | rfl | (simp; done) | (simp [*]; done), by repeat (first | exact Drawn0.refl _ | apply Drawn0.step)⟩
    · replace c6 := Bool.eq_false_iff.mpr c6
      subst c6
      have H1 : (some (-1)) = some r := by rw [if_neg (show ¬ (false = true) by decide)] at H; exact H
      clear H
      have H := H1
      clear H1
      obtain rfl := Option.some.inj H
      go_enter Tryd.func71, Tryd.ntmps71
      go_wp2_with (first | ((with_reducible refine gate_callee (f := 96) rfl ?_); refine goesL_ (some 8) rfl rfl Tryd.func96 (by kernel_rfl) rfl #[.string a0] rfl (by (try simp only [List.map_toArray, List.map_cons, List.map_nil]); first | done | rfl | (simp only [List.length_drop, List.length_take]; rfl)) ?_; (with_reducible refine (cmp_isNaN_string.calls a0 true _ A3.out).mono ?_); rintro e w' ⟨rfl, ⟨nd, rfl⟩⟩; refine ⟨_, rfl, ?_⟩) | ((with_reducible refine gate_callee (f := 96) rfl ?_); refine goesL_ (some 10) rfl rfl Tryd.func96 (by kernel_rfl) rfl #[.string a1] rfl (by (try simp only [List.map_toArray, List.map_cons, List.map_nil]); first | done | rfl | (simp only [List.length_drop, List.length_take]; rfl)) ?_; (with_reducible refine (cmp_isNaN_string.calls a1 false _ A4.out).mono ?_); rintro e w' ⟨rfl, ⟨nd, rfl⟩⟩; refine ⟨_, rfl, ?_⟩))
      go_ret
      exact ⟨by first | rfl | (simp; done) | (simp [*]; done), by repeat (first | exact Drawn0.refl _ | apply Drawn0.step)⟩
  · replace c5 := Bool.eq_false_iff.mpr c5
    subst c5
    have H1 : (if t272 = true then (some 1) else (if (Op.bytesLess a0.toList a1.toList) = true then (some (-1)) else (if (Op.bytesLess a1.toList a0.toList) = true then (some 1) else (some 0)))) = some r := by rw [if_neg (show ¬ (false = true) by decide)] at H; exact H
    clear H
    have H := H1
    clear H1
    by_cases c7 : t272 = true
    · subst c7
      have H1 : (some 1) = some r := by rw [if_pos rfl] at H; exact H
      clear H
      have H := H1
      clear H1
      obtain rfl := Option.some.inj H
      go_enter Tryd.func71, Tryd.ntmps71
      go_wp2_with (first | ((with_reducible refine gate_callee (f := 96) rfl ?_); refine goesL_ (some 8) rfl rfl Tryd.func96 (by kernel_rfl) rfl #[.string a0] rfl (by (try simp only [List.map_toArray, List.map_cons, List.map_nil]); first | done | rfl | (simp only [List.length_drop, List.length_take]; rfl)) ?_; (with_reducible refine (cmp_isNaN_string.calls a0 false _ A3.out).mono ?_); rintro e w' ⟨rfl, ⟨nd, rfl⟩⟩; refine ⟨_, rfl, ?_⟩) | ((with_reducible refine gate_callee (f := 96) rfl ?_); refine goesL_ (some 10) rfl rfl Tryd.func96 (by kernel_rfl) rfl #[.string a1] rfl (by (try simp only [List.map_toArray, List.map_cons, List.map_nil]); first | done | rfl | (simp only [List.length_drop, List.length_take]; rfl)) ?_; (with_reducible refine (cmp_isNaN_string.calls a1 true _ A4.out).mono ?_); rintro e w' ⟨rfl, ⟨nd, rfl⟩⟩; refine ⟨_, rfl, ?_⟩))
      go_ret
      exact ⟨by first | rfl | (simp; done) | (simp [*]; done), by repeat (first | exact Drawn0.refl _ | apply Drawn0.step)⟩
    · replace c7 := Bool.eq_false_iff.mpr c7
      subst c7
      have H1 : (if (Op.bytesLess a0.toList a1.toList) = true then (some (-1)) else (if (Op.bytesLess a1.toList a0.toList) = true then (some 1) else (some 0))) = some r := by rw [if_neg (show ¬ (false = true) by decide)] at H; exact H
      clear H
      have H := H1
      clear H1
      by_cases c8 : (Op.bytesLess a0.toList a1.toList) = true
      · rw [if_pos c8] at H
        have c8b0 : (Op.bytesLess a0.toList a1.toList) = true := c8
        clear c8
        obtain rfl := Option.some.inj H
        go_enter Tryd.func71, Tryd.ntmps71
        go_wp2_with (first | ((with_reducible refine gate_callee (f := 96) rfl ?_); refine goesL_ (some 8) rfl rfl Tryd.func96 (by kernel_rfl) rfl #[.string a0] rfl (by (try simp only [List.map_toArray, List.map_cons, List.map_nil]); first | done | rfl | (simp only [List.length_drop, List.length_take]; rfl)) ?_; (with_reducible refine (cmp_isNaN_string.calls a0 false _ A3.out).mono ?_); rintro e w' ⟨rfl, ⟨nd, rfl⟩⟩; refine ⟨_, rfl, ?_⟩) | ((with_reducible refine gate_callee (f := 96) rfl ?_); refine goesL_ (some 10) rfl rfl Tryd.func96 (by kernel_rfl) rfl #[.string a1] rfl (by (try simp only [List.map_toArray, List.map_cons, List.map_nil]); first | done | rfl | (simp only [List.length_drop, List.length_take]; rfl)) ?_; (with_reducible refine (cmp_isNaN_string.calls a1 false _ A4.out).mono ?_); rintro e w' ⟨rfl, ⟨nd, rfl⟩⟩; refine ⟨_, rfl, ?_⟩))
        go_ret
        exact ⟨by first | rfl | (simp; done) | (simp [*]; done), by repeat (first | exact Drawn0.refl _ | apply Drawn0.step)⟩
      · rw [if_neg c8] at H
        have c8b0 : (Op.bytesLess a0.toList a1.toList) = false := by simpa using c8
        clear c8
        by_cases c9 : (Op.bytesLess a1.toList a0.toList) = true
        · rw [if_pos c9] at H
          have c9b0 : (Op.bytesLess a1.toList a0.toList) = true := c9
          clear c9
          obtain rfl := Option.some.inj H
          go_enter Tryd.func71, Tryd.ntmps71
          go_wp2_with (first | ((with_reducible refine gate_callee (f := 96) rfl ?_); refine goesL_ (some 8) rfl rfl Tryd.func96 (by kernel_rfl) rfl #[.string a0] rfl (by (try simp only [List.map_toArray, List.map_cons, List.map_nil]); first | done | rfl | (simp only [List.length_drop, List.length_take]; rfl)) ?_; (with_reducible refine (cmp_isNaN_string.calls a0 false _ A3.out).mono ?_); rintro e w' ⟨rfl, ⟨nd, rfl⟩⟩; refine ⟨_, rfl, ?_⟩) | ((with_reducible refine gate_callee (f := 96) rfl ?_); refine goesL_ (some 10) rfl rfl Tryd.func96 (by kernel_rfl) rfl #[.string a1] rfl (by (try simp only [List.map_toArray, List.map_cons, List.map_nil]); first | done | rfl | (simp only [List.length_drop, List.length_take]; rfl)) ?_; (with_reducible refine (cmp_isNaN_string.calls a1 false _ A4.out).mono ?_); rintro e w' ⟨rfl, ⟨nd, rfl⟩⟩; refine ⟨_, rfl, ?_⟩))
          go_ret
          exact ⟨by first | rfl | (simp; done) | (simp [*]; done), by repeat (first | exact Drawn0.refl _ | apply Drawn0.step)⟩
        · rw [if_neg c9] at H
          have c9b0 : (Op.bytesLess a1.toList a0.toList) = false := by simpa using c9
          clear c9
          obtain rfl := Option.some.inj H
          go_enter Tryd.func71, Tryd.ntmps71
          go_wp2_with (first | ((with_reducible refine gate_callee (f := 96) rfl ?_); refine goesL_ (some 8) rfl rfl Tryd.func96 (by kernel_rfl) rfl #[.string a0] rfl (by (try simp only [List.map_toArray, List.map_cons, List.map_nil]); first | done | rfl | (simp only [List.length_drop, List.length_take]; rfl)) ?_; (with_reducible refine (cmp_isNaN_string.calls a0 false _ A3.out).mono ?_); rintro e w' ⟨rfl, ⟨nd, rfl⟩⟩; refine ⟨_, rfl, ?_⟩) | ((with_reducible refine gate_callee (f := 96) rfl ?_); refine goesL_ (some 10) rfl rfl Tryd.func96 (by kernel_rfl) rfl #[.string a1] rfl (by (try simp only [List.map_toArray, List.map_cons, List.map_nil]); first | done | rfl | (simp only [List.length_drop, List.length_take]; rfl)) ?_; (with_reducible refine (cmp_isNaN_string.calls a1 false _ A4.out).mono ?_); rintro e w' ⟨rfl, ⟨nd, rfl⟩⟩; refine ⟨_, rfl, ?_⟩))
          go_ret
          exact ⟨by first | rfl | (simp; done) | (simp [*]; done), by repeat (first | exact Drawn0.refl _ | apply Drawn0.step)⟩
end Go.Proofs.YthpecpkncifngaaDoor.X
end

-- PRINTED by print.py (a twelfth state) out of the translation. Not trusted: Lean checks it.
section
namespace Go.Proofs.YthpecpkncifngaaDoor.X
open Go.RowKit Go.Proofs.YthpecpkncifngaaDoorW.PrintWords Go.Proofs.YthpecpkncifngaaDoorW.PrintLast Go.Proofs.YthpecpkncifngaaDoorW.PrintMore
attribute [local go_sem] max2_int min2_int max_two min_two max_three min_three max_four min_four   -- for this text's walks alone
mutual
def name_Compare.l0 : Nat → ByteArray → ByteArray → Option (Int)
  | 0, _, _ => none
  | k + 1, x0, x1 => (strings_IndexByte.f x0 47).bind fun t273 => ((strings_IndexByte.f x1 47).bind fun t274 => (if t273 ≥ 0 then (if 0 ≤ t273 then (if t273 ≤ (x0.size : Int) then (name_Compare.j1 k x0 x1 t273 t274 (x0.extract 0 (t273 : Int).toNat) x1) else (none)) else (none)) else (name_Compare.j1 k x0 x1 t273 t274 x0 x1)))
def name_Compare.j1 : Nat → ByteArray → ByteArray → Int → Int → ByteArray → ByteArray → Option (Int)
  | 0, _, _, _, _, _, _ => none
  | k + 1, x0, x1, x5, x6, x7, x8 => if x6 ≥ 0 then (if 0 ≤ x6 then (if x6 ≤ (x1.size : Int) then (name_Compare.j2 k x0 x1 x5 x6 x7 (x1.extract 0 (x6 : Int).toNat)) else (none)) else (none)) else (name_Compare.j2 k x0 x1 x5 x6 x7 x8)
def name_Compare.j2 : Nat → ByteArray → ByteArray → Int → Int → ByteArray → ByteArray → Option (Int)
  | 0, _, _, _, _, _, _ => none
  | k + 1, x0, x1, x5, x6, x7, x8 => (cmp_Compare_string.f x7 x8).bind fun t275 => (if t275 = 0 then (if x5 < 0 then (name_Compare.j3 k x0 x1 x5 x6 (decide (x6 < 0))) else (name_Compare.j3 k x0 x1 x5 x6 false)) else (some t275))
def name_Compare.j3 : Nat → ByteArray → ByteArray → Int → Int → Bool → Option (Int)
  | 0, _, _, _, _, _ => none
  | k + 1, x0, x1, x5, x6, x32 => if x32 = true then (some 0) else (if x5 < 0 then (some (-1)) else (if x6 < 0 then (some 1) else (if 0 ≤ (wrap64 (x5 + 1)) then (if (wrap64 (x5 + 1)) ≤ (x0.size : Int) then (if 0 ≤ (wrap64 (x6 + 1)) then (if (wrap64 (x6 + 1)) ≤ (x1.size : Int) then (name_Compare.l0 k (x0.extract ((wrap64 (x5 + 1)) : Int).toNat x0.size) (x1.extract ((wrap64 (x6 + 1)) : Int).toNat x1.size)) else (none)) else (none)) else (none)) else (none))))
end
def name_Compare.f (k : Nat) (a0 : ByteArray) (a1 : ByteArray) : Option (Int) := name_Compare.l0 k a0 a1
set_option maxHeartbeats 8000000 in
set_option maxRecDepth 100000 in
theorem name_Compare.calls (k : Nat) (a0 : ByteArray) (a1 : ByteArray) (r : Int) (w : World) (h : name_Compare.f k a0 a1 = some r) :
    Calls Tryd.prog 36 #[.string a0, .string a1] w fun e w' => e = .returned (.int .i64 r) ∧ Drawn0 w w' := by
  have H : (name_Compare.l0 k a0 a1) = some r := h
  clear h
  have H' := Aside0.mk H
  clear H
  go_enter Tryd.func36, Tryd.ntmps36
  go_wp2
  repeat (go_quiet (fail); try go_wp2)
  go_loopg [0, 1] k (fun kq v0 v1 w' => ∃ (x0_1 : ByteArray) (x1_1 : ByteArray), v0 = .string x0_1 ∧ v1 = .string x1_1 ∧ Aside0 (name_Compare.l0 kq x0_1 x1_1 = some r) ∧ Aside0 (kq ≤ k) ∧ Drawn0 w w')
  case atStart => exact ⟨(a0), (a1), (by first | rfl | (simp; done) | (simp [*]; done)), (by first | rfl | (simp; done) | (simp [*]; done)), H', ⟨Nat.le_refl _⟩, by repeat (first | exact Drawn0.refl _ | apply Drawn0.step)⟩
  case round =>
    clear H'
    try clear p2
    obtain ⟨x0_1, x1_1, rfl, rfl, HA, HK1, ⟨m1, rfl⟩⟩ := hrel
    cases gk with
    | zero => exact absurd HA.out (by simp [name_Compare.l0])
    | succ k1 =>
      have H := HA.out
      clear HA
      simp only [name_Compare.l0] at H
      replace H := Option.bind_eq_some_iff.mp H
      obtain ⟨t273, A30, H⟩ := H
      replace H : ((strings_IndexByte.f x1_1 47).bind fun t274 => (if t273 ≥ 0 then (if 0 ≤ t273 then (if t273 ≤ (x0_1.size : Int) then (name_Compare.j1 k1 x0_1 x1_1 t273 t274 (x0_1.extract 0 (t273 : Int).toNat) x1_1) else (none)) else (none)) else (name_Compare.j1 k1 x0_1 x1_1 t273 t274 x0_1 x1_1))) = some r := H
      have A3 := Aside0.mk A30
      clear A30
      replace H := Option.bind_eq_some_iff.mp H
      obtain ⟨t274, A40, H⟩ := H
      replace H : (if t273 ≥ 0 then (if 0 ≤ t273 then (if t273 ≤ (x0_1.size : Int) then (name_Compare.j1 k1 x0_1 x1_1 t273 t274 (x0_1.extract 0 (t273 : Int).toNat) x1_1) else (none)) else (none)) else (name_Compare.j1 k1 x0_1 x1_1 t273 t274 x0_1 x1_1)) = some r := H
      have A4 := Aside0.mk A40
      clear A40
      have HC5 := Aside0.mk H
      clear H
      go_upto_if 17 with (first | (go_at_call 70; (with_reducible refine (strings_IndexByte.calls x0_1 47 t273 _ A3.out).mono ?_); rintro e w' ⟨rfl, ⟨nd, rfl⟩⟩; (try first | exact ⟨rfl, _, World.drewN_drewN _ _ _⟩ | exact ⟨rfl, _, Eq.trans (World.drewN_drewN _ _ _) (congrArg (World.drewN _) (Nat.add_assoc _ _ _))⟩)) | (go_at_call 70; (with_reducible refine (strings_IndexByte.calls x1_1 47 t274 _ A4.out).mono ?_); rintro e w' ⟨rfl, ⟨nd, rfl⟩⟩; (try first | exact ⟨rfl, _, World.drewN_drewN _ _ _⟩ | exact ⟨rfl, _, Eq.trans (World.drewN_drewN _ _ _) (congrArg (World.drewN _) (Nat.add_assoc _ _ _))⟩)))
      repeat (go_quiet (first | (go_at_call 70; (with_reducible refine (strings_IndexByte.calls x0_1 47 t273 _ A3.out).mono ?_); rintro e w' ⟨rfl, ⟨nd, rfl⟩⟩; (try first | exact ⟨rfl, _, World.drewN_drewN _ _ _⟩ | exact ⟨rfl, _, Eq.trans (World.drewN_drewN _ _ _) (congrArg (World.drewN _) (Nat.add_assoc _ _ _))⟩)) | (go_at_call 70; (with_reducible refine (strings_IndexByte.calls x1_1 47 t274 _ A4.out).mono ?_); rintro e w' ⟨rfl, ⟨nd, rfl⟩⟩; (try first | exact ⟨rfl, _, World.drewN_drewN _ _ _⟩ | exact ⟨rfl, _, Eq.trans (World.drewN_drewN _ _ _) (congrArg (World.drewN _) (Nat.add_assoc _ _ _))⟩))); go_upto_if 17 with (first | (go_at_call 70; (with_reducible refine (strings_IndexByte.calls x0_1 47 t273 _ A3.out).mono ?_); rintro e w' ⟨rfl, ⟨nd, rfl⟩⟩; (try first | exact ⟨rfl, _, World.drewN_drewN _ _ _⟩ | exact ⟨rfl, _, Eq.trans (World.drewN_drewN _ _ _) (congrArg (World.drewN _) (Nat.add_assoc _ _ _))⟩)) | (go_at_call 70; (with_reducible refine (strings_IndexByte.calls x1_1 47 t274 _ A4.out).mono ?_); rintro e w' ⟨rfl, ⟨nd, rfl⟩⟩; (try first | exact ⟨rfl, _, World.drewN_drewN _ _ _⟩ | exact ⟨rfl, _, Eq.trans (World.drewN_drewN _ _ _) (congrArg (World.drewN _) (Nat.add_assoc _ _ _))⟩))))
      (try simp only [Act.put, List.setIfInBounds_toArray, List.set_cons_zero, List.set_cons_succ])
      go_cut [7] (fun v7 wc => ∃ (kq : Nat) (x7_4 : ByteArray), v7 = .string x7_4 ∧ Aside0 (name_Compare.j1 kq x0_1 x1_1 t273 t274 x7_4 x1_1 = some r) ∧ Aside0 (kq ≤ k1) ∧ Drawn0 w wc)
      case first =>
        have H := HC5.out
        clear HC5
        by_cases c6 : t273 ≥ 0
        · rw [if_pos c6] at H
          have c6b0 : decide (0 ≤ t273) = true := decide_eq_true c6
          clear c6
          (first | rw [c6b0] | (simp only [i64_w, i32_w]; rw [c6b0]) | skip)
          by_cases c7 : 0 ≤ t273
          · rw [if_pos c7] at H
            have c7b0 := eq_true c7
            have c7b1 : decide (0 ≤ t273) = true := decide_eq_true c7
            clear c7
            by_cases c8 : t273 ≤ (x0_1.size : Int)
            · rw [if_pos c8] at H
              have c8b0 := eq_true c8
              have c8b1 : decide (t273 ≤ (x0_1.size : Int)) = true := decide_eq_true c8
              clear c8
              have H' := Aside0.mk H
              clear H
              go_wp2
              repeat (go_quiet (fail); try go_wp2)
              go_meet
              case rel => exact ⟨_, (x0_1.extract 0 (t273 : Int).toNat), (by first | rfl | (simp; done) | (simp [*]; done)), H', ⟨by have := HK1.out; first | omega | exact Nat.le_refl _⟩, by repeat (first | exact Drawn0.refl _ | apply Drawn0.step)⟩
            · rw [if_neg c8] at H
              exact absurd H (by simp)
          · rw [if_neg c7] at H
            exact absurd H (by simp)
        · rw [if_neg c6] at H
          have c6b0 : decide (0 ≤ t273) = false := decide_eq_false c6
          clear c6
          (first | rw [c6b0] | (simp only [i64_w, i32_w]; rw [c6b0]) | skip)
          have H' := Aside0.mk H
          clear H
          go_wp2
          repeat (go_quiet (fail); try go_wp2)
          go_meet
          case rel => exact ⟨_, (x0_1), (by first | rfl | (simp; done) | (simp [*]; done)), H', ⟨by have := HK1.out; first | omega | exact Nat.le_refl _⟩, by repeat (first | exact Drawn0.refl _ | apply Drawn0.step)⟩
      case rest =>
        clear HC5
        try clear p2
        try clear c3
        try clear c6
        try clear c6b0
        try clear c7
        try clear c7b0
        try clear c7b1
        try clear c8
        try clear c8b0
        try clear c8b1
        try clear p2
        obtain ⟨kq, x7_4, rfl, HA, HJ4, ⟨mc4, rfl⟩⟩ := hcut
        cases kq with
        | zero => exact absurd HA.out (by simp [name_Compare.j1])
        | succ kj4 =>
          have H := HA.out
          clear HA
          simp only [name_Compare.j1] at H
          have HC9 := Aside0.mk H
          clear H
          go_upto_if 22 with (fail)
          repeat (go_quiet (fail); go_upto_if 22 with (fail))
          go_cut [8] (fun v8 wc => ∃ (kq : Nat) (x8_8 : ByteArray), v8 = .string x8_8 ∧ Aside0 (name_Compare.j2 kq x0_1 x1_1 t273 t274 x7_4 x8_8 = some r) ∧ Aside0 (kq ≤ kj4) ∧ Drawn0 w wc)
          case first =>
            have H := HC9.out
            clear HC9
            by_cases c10 : t274 ≥ 0
            · rw [if_pos c10] at H
              have c10b0 : decide (0 ≤ t274) = true := decide_eq_true c10
              clear c10
              (first | rw [c10b0] | (simp only [i64_w, i32_w]; rw [c10b0]) | skip)
              by_cases c11 : 0 ≤ t274
              · rw [if_pos c11] at H
                have c11b0 := eq_true c11
                have c11b1 : decide (0 ≤ t274) = true := decide_eq_true c11
                clear c11
                by_cases c12 : t274 ≤ (x1_1.size : Int)
                · rw [if_pos c12] at H
                  have c12b0 := eq_true c12
                  have c12b1 : decide (t274 ≤ (x1_1.size : Int)) = true := decide_eq_true c12
                  clear c12
                  have H' := Aside0.mk H
                  clear H
                  go_wp2
                  repeat (go_quiet (fail); try go_wp2)
                  go_meet
                  case rel => exact ⟨_, (x1_1.extract 0 (t274 : Int).toNat), (by first | rfl | (simp; done) | (simp [*]; done)), H', ⟨by have := HK1.out; have := HJ4.out; first | omega | exact Nat.le_refl _⟩, by repeat (first | exact Drawn0.refl _ | apply Drawn0.step)⟩
                · rw [if_neg c12] at H
                  exact absurd H (by simp)
              · rw [if_neg c11] at H
                exact absurd H (by simp)
            · rw [if_neg c10] at H
              have c10b0 : decide (0 ≤ t274) = false := decide_eq_false c10
              clear c10
              (first | rw [c10b0] | (simp only [i64_w, i32_w]; rw [c10b0]) | skip)
              have H' := Aside0.mk H
              clear H
              go_wp2
              repeat (go_quiet (fail); try go_wp2)
              go_meet
              case rel => exact ⟨_, (x1_1), (by first | rfl | (simp; done) | (simp [*]; done)), H', ⟨by have := HK1.out; have := HJ4.out; first | omega | exact Nat.le_refl _⟩, by repeat (first | exact Drawn0.refl _ | apply Drawn0.step)⟩
          case rest =>
            clear HC9
            try clear c1
            try clear p2
            try clear c3
            try clear c4
            try clear c6
            try clear c6b0
            try clear c7
            try clear c7b0
            try clear c7b1
            try clear c8
            try clear c8b0
            try clear c8b1
            try clear c10
            try clear c10b0
            try clear c11
            try clear c11b0
            try clear c11b1
            try clear c12
            try clear c12b0
            try clear c12b1
            try clear p2
            obtain ⟨kq, x8_8, rfl, HA, HJ8, ⟨mc8, rfl⟩⟩ := hcut
            cases kq with
            | zero => exact absurd HA.out (by simp [name_Compare.j2])
            | succ kj8 =>
              have H := HA.out
              clear HA
              simp only [name_Compare.j2] at H
              replace H := Option.bind_eq_some_iff.mp H
              obtain ⟨t275, A130, H⟩ := H
              replace H : (if t275 = 0 then (if t273 < 0 then (name_Compare.j3 kj8 x0_1 x1_1 t273 t274 (decide (t274 < 0))) else (name_Compare.j3 kj8 x0_1 x1_1 t273 t274 false)) else (some t275)) = some r := H
              have A13 := Aside0.mk A130
              clear A130
              by_cases c14 : t275 = 0
              · rw [if_pos c14] at H
                have c14b0 : (t275 == 0) = true := beq_iff_eq.mpr c14
                have c14b1 : (t275 != 0) = false := bne_eq_false_iff_eq.mpr c14
                clear c14
                have HC15 := Aside0.mk H
                clear H
                go_upto_region 10 with (first | (go_at_call 71; (with_reducible refine (cmp_Compare_string.calls x7_4 x8_8 t275 _ A13.out).mono ?_); rintro e w' ⟨rfl, ⟨nd, rfl⟩⟩; (try first | exact ⟨rfl, _, World.drewN_drewN _ _ _⟩ | exact ⟨rfl, _, Eq.trans (World.drewN_drewN _ _ _) (congrArg (World.drewN _) (Nat.add_assoc _ _ _))⟩)))
                repeat (go_quiet (first | (go_at_call 71; (with_reducible refine (cmp_Compare_string.calls x7_4 x8_8 t275 _ A13.out).mono ?_); rintro e w' ⟨rfl, ⟨nd, rfl⟩⟩; (try first | exact ⟨rfl, _, World.drewN_drewN _ _ _⟩ | exact ⟨rfl, _, Eq.trans (World.drewN_drewN _ _ _) (congrArg (World.drewN _) (Nat.add_assoc _ _ _))⟩))); go_upto_region 10 with (first | (go_at_call 71; (with_reducible refine (cmp_Compare_string.calls x7_4 x8_8 t275 _ A13.out).mono ?_); rintro e w' ⟨rfl, ⟨nd, rfl⟩⟩; (try first | exact ⟨rfl, _, World.drewN_drewN _ _ _⟩ | exact ⟨rfl, _, Eq.trans (World.drewN_drewN _ _ _) (congrArg (World.drewN _) (Nat.add_assoc _ _ _))⟩))))
                (try simp only [Act.put, List.setIfInBounds_toArray, List.set_cons_zero, List.set_cons_succ])
                go_cut [32] (fun v32 wc => ∃ (kq : Nat) (x32_14 : Bool), v32 = .bool x32_14 ∧ Aside0 (name_Compare.j3 kq x0_1 x1_1 t273 t274 x32_14 = some r) ∧ Aside0 (kq ≤ kj8) ∧ Drawn0 w wc)
                case first =>
                  have H := HC15.out
                  clear HC15
                  by_cases c16 : t273 < 0
                  · rw [if_pos c16] at H
                    have c16b0 : decide (t273 < 0) = true := decide_eq_true c16
                    clear c16
                    (first | rw [c16b0] | (simp only [i64_w, i32_w]; rw [c16b0]) | skip)
                    have H' := Aside0.mk H
                    clear H
                    go_wp2
                    repeat (go_quiet (fail); try go_wp2)
                    go_meet
                    case rel => exact ⟨_, (decide (t274 < 0)), (by first | rfl | (simp; done) | (simp [*]; done)), H', ⟨by have := HK1.out; have := HJ4.out; have := HJ8.out; first | omega | exact Nat.le_refl _⟩, by repeat (first | exact Drawn0.refl _ | apply Drawn0.step)⟩
                  · rw [if_neg c16] at H
                    have c16b0 : decide (t273 < 0) = false := decide_eq_false c16
                    clear c16
                    (first | rw [c16b0] | (simp only [i64_w, i32_w]; rw [c16b0]) | skip)
                    have H' := Aside0.mk H
                    clear H
                    go_wp2
                    repeat (go_quiet (fail); try go_wp2)
                    go_meet
                    case rel => exact ⟨_, (false), (by first | rfl | (simp; done) | (simp [*]; done)), H', ⟨by have := HK1.out; have := HJ4.out; have := HJ8.out; first | omega | exact Nat.le_refl _⟩, by repeat (first | exact Drawn0.refl _ | apply Drawn0.step)⟩
                case rest =>
                  clear HC15
                  try clear c1
                  try clear p2
                  try clear c3
                  try clear c4
                  try clear c6
                  try clear c6b0
                  try clear c7
                  try clear c7b0
                  try clear c7b1
                  try clear c8
                  try clear c8b0
                  try clear c8b1
                  try clear c10
                  try clear c10b0
                  try clear c11
                  try clear c11b0
                  try clear c11b1
                  try clear c12
                  try clear c12b0
                  try clear c12b1
                  try clear c14
                  try clear c14b0
                  try clear c14b1
                  try clear c16
                  try clear c16b0
                  try clear p2
                  obtain ⟨kq, x32_14, rfl, HA, HJ14, ⟨mc14, rfl⟩⟩ := hcut
                  cases kq with
                  | zero => exact absurd HA.out (by simp [name_Compare.j3])
                  | succ kj14 =>
                    have H := HA.out
                    clear HA
                    simp only [name_Compare.j3] at H
                    by_cases c17 : x32_14 = true
                    · subst c17
                      have H1 : (some 0) = some r := by rw [if_pos rfl] at H; exact H
                      clear H
                      have H := H1
                      clear H1
                      obtain rfl := Option.some.inj H
                      go_wp2
                      repeat (go_quiet (fail); try go_wp2)
                      go_ret
                      exact ⟨by first | rfl | (simp; done) | (simp [*]; done), by repeat (first | exact Drawn0.refl _ | apply Drawn0.step)⟩
                    · replace c17 := Bool.eq_false_iff.mpr c17
                      subst c17
                      have H1 : (if t273 < 0 then (some (-1)) else (if t274 < 0 then (some 1) else (if 0 ≤ (wrap64 (t273 + 1)) then (if (wrap64 (t273 + 1)) ≤ (x0_1.size : Int) then (if 0 ≤ (wrap64 (t274 + 1)) then (if (wrap64 (t274 + 1)) ≤ (x1_1.size : Int) then (name_Compare.l0 kj14 (x0_1.extract ((wrap64 (t273 + 1)) : Int).toNat x0_1.size) (x1_1.extract ((wrap64 (t274 + 1)) : Int).toNat x1_1.size)) else (none)) else (none)) else (none)) else (none)))) = some r := by rw [if_neg (show ¬ (false = true) by decide)] at H; exact H
                      clear H
                      have H := H1
                      clear H1
                      by_cases c18 : t273 < 0
                      · rw [if_pos c18] at H
                        have c18b0 : decide (t273 < 0) = true := decide_eq_true c18
                        clear c18
                        obtain rfl := Option.some.inj H
                        go_wp2
                        repeat (go_quiet (fail); try go_wp2)
                        go_ret
                        exact ⟨by first | rfl | (simp; done) | (simp [*]; done), by repeat (first | exact Drawn0.refl _ | apply Drawn0.step)⟩
                      · rw [if_neg c18] at H
                        have c18b0 : decide (t273 < 0) = false := decide_eq_false c18
                        clear c18
                        by_cases c19 : t274 < 0
                        · rw [if_pos c19] at H
                          have c19b0 : decide (t274 < 0) = true := decide_eq_true c19
                          clear c19
                          obtain rfl := Option.some.inj H
                          go_wp2
                          repeat (go_quiet (fail); try go_wp2)
                          go_ret
                          exact ⟨by first | rfl | (simp; done) | (simp [*]; done), by repeat (first | exact Drawn0.refl _ | apply Drawn0.step)⟩
                        · rw [if_neg c19] at H
                          have c19b0 : decide (t274 < 0) = false := decide_eq_false c19
                          clear c19
                          obtain ⟨ji20, hji20⟩ : ∃ j_ : Int, (wrap64 (t273 + 1)) = j_ := ⟨_, rfl⟩
                          replace H : (if 0 ≤ (ji20) then (if (ji20) ≤ (x0_1.size : Int) then (if 0 ≤ (wrap64 (t274 + 1)) then (if (wrap64 (t274 + 1)) ≤ (x1_1.size : Int) then (name_Compare.l0 kj14 (x0_1.extract ((ji20) : Int).toNat x0_1.size) (x1_1.extract ((wrap64 (t274 + 1)) : Int).toNat x1_1.size)) else (none)) else (none)) else (none)) else (none)) = some r := by first | (rw [hji20] at H; exact H) | (simp only [hji20] at H ⊢; exact H)
                          have hji20w : (IntKind.i64.wrap (t273 + 1)) = ji20 := (i64_w _).trans hji20
                          by_cases c21 : 0 ≤ (ji20)
                          · rw [if_pos c21] at H
                            have c21b0 := eq_true c21
                            have c21b1 : decide (0 ≤ (ji20)) = true := decide_eq_true c21
                            clear c21
                            by_cases c22 : (ji20) ≤ (x0_1.size : Int)
                            · rw [if_pos c22] at H
                              have c22b0 := eq_true c22
                              have c22b1 : decide ((ji20) ≤ (x0_1.size : Int)) = true := decide_eq_true c22
                              clear c22
                              obtain ⟨ji23, hji23⟩ : ∃ j_ : Int, (wrap64 (t274 + 1)) = j_ := ⟨_, rfl⟩
                              replace H : (if 0 ≤ (ji23) then (if (ji23) ≤ (x1_1.size : Int) then (name_Compare.l0 kj14 (x0_1.extract ((ji20) : Int).toNat x0_1.size) (x1_1.extract ((ji23) : Int).toNat x1_1.size)) else (none)) else (none)) = some r := by first | (rw [hji23] at H; exact H) | (simp only [hji23] at H ⊢; exact H)
                              have hji23w : (IntKind.i64.wrap (t274 + 1)) = ji23 := (i64_w _).trans hji23
                              by_cases c24 : 0 ≤ (ji23)
                              · rw [if_pos c24] at H
                                have c24b0 := eq_true c24
                                have c24b1 : decide (0 ≤ (ji23)) = true := decide_eq_true c24
                                clear c24
                                by_cases c25 : (ji23) ≤ (x1_1.size : Int)
                                · rw [if_pos c25] at H
                                  have c25b0 := eq_true c25
                                  have c25b1 : decide ((ji23) ≤ (x1_1.size : Int)) = true := decide_eq_true c25
                                  clear c25
                                  have H' := Aside0.mk H
                                  clear H
                                  go_wp2
                                  repeat (go_quiet (fail); try go_wp2)
                                  go_roundg kj14
                                  case measure => have := HK1.out; have := HJ4.out; have := HJ8.out; have := HJ14.out; omega
                                  case rel => exact ⟨(x0_1.extract ((ji20) : Int).toNat x0_1.size), (x1_1.extract ((ji23) : Int).toNat x1_1.size), (by first | rfl | (simp; done) | (simp only [← hji20] <;> (first | rfl | simp)) | (simp [*]; done)), (by first | rfl | (simp; done) | (simp only [← hji23] <;> (first | rfl | simp)) | (simp [*]; done)), H', ⟨by have := HK1.out; have := HJ4.out; have := HJ8.out; have := HJ14.out; omega⟩, by repeat (first | exact Drawn0.refl _ | apply Drawn0.step)⟩
                                · rw [if_neg c25] at H
                                  exact absurd H (by simp)
                              · rw [if_neg c24] at H
                                exact absurd H (by simp)
                            · rw [if_neg c22] at H
                              exact absurd H (by simp)
                          · rw [if_neg c21] at H
                            exact absurd H (by simp)
              · rw [if_neg c14] at H
                have c14b0 : (t275 == 0) = false := beq_eq_false_iff_ne.mpr c14
                have c14b1 : (t275 != 0) = true := bne_iff_ne.mpr c14
                obtain rfl := Option.some.inj H
                go_wp2_with (first | (go_at_call 71; (with_reducible refine (cmp_Compare_string.calls x7_4 x8_8 t275 _ A13.out).mono ?_); rintro e w' ⟨rfl, ⟨nd, rfl⟩⟩; (try first | exact ⟨rfl, _, World.drewN_drewN _ _ _⟩ | exact ⟨rfl, _, Eq.trans (World.drewN_drewN _ _ _) (congrArg (World.drewN _) (Nat.add_assoc _ _ _))⟩)))
                repeat (go_quiet (first | (go_at_call 71; (with_reducible refine (cmp_Compare_string.calls x7_4 x8_8 t275 _ A13.out).mono ?_); rintro e w' ⟨rfl, ⟨nd, rfl⟩⟩; (try first | exact ⟨rfl, _, World.drewN_drewN _ _ _⟩ | exact ⟨rfl, _, Eq.trans (World.drewN_drewN _ _ _) (congrArg (World.drewN _) (Nat.add_assoc _ _ _))⟩))); try go_wp2_with (first | (go_at_call 71; (with_reducible refine (cmp_Compare_string.calls x7_4 x8_8 t275 _ A13.out).mono ?_); rintro e w' ⟨rfl, ⟨nd, rfl⟩⟩; (try first | exact ⟨rfl, _, World.drewN_drewN _ _ _⟩ | exact ⟨rfl, _, Eq.trans (World.drewN_drewN _ _ _) (congrArg (World.drewN _) (Nat.add_assoc _ _ _))⟩))))
                go_ret
                exact ⟨by first | rfl | (simp; done) | (simp [*]; done), by repeat (first | exact Drawn0.refl _ | apply Drawn0.step)⟩
def bytealg_LastIndexByteString.l0 : Nat → ByteArray → Int → Int → Option (Int)
  | 0, _, _, _ => none
  | k + 1, x0, x1, x5 => if x5 ≥ 0 then (if 0 ≤ x5 then (if x5 < (x0.size : Int) then (if (bt x0 x5) = x1 then (some x5) else (bytealg_LastIndexByteString.l0 k x0 x1 (wrap64 (x5 - 1)))) else (none)) else (none)) else (some (-1))
def bytealg_LastIndexByteString.f (k : Nat) (a0 : ByteArray) (a1 : Int) : Option (Int) := bytealg_LastIndexByteString.l0 k a0 a1 (wrap64 ((a0.size : Int) - 1))
theorem bytealg_LastIndexByteString.mono_l : ∀ k, (∀ y0 y1 y2, LeO (bytealg_LastIndexByteString.l0 k y0 y1 y2) (bytealg_LastIndexByteString.l0 (k + 1) y0 y1 y2))
  | 0 => fun _ _ _ r h => by simp [bytealg_LastIndexByteString.l0] at h
  | k + 1 => by
    have ih0 := bytealg_LastIndexByteString.mono_l k
    · intro y0 y1 y2
      unfold bytealg_LastIndexByteString.l0
      repeat' first
      | (with_reducible exact ih0 _ _ _)
      | (with_reducible exact LeO.refl _)
      | (with_reducible exact LeO.none _)
      | (with_reducible refine LeO.ite ?_ ?_)
      | (with_reducible refine LeO.bind ?_ (fun _ => ?_))
      | exact ih0 _ _ _
      | exact LeO.none _
      | refine LeO.ite ?_ ?_
      | refine LeO.bind ?_ (fun _ => ?_)
theorem bytealg_LastIndexByteString.mono : ∀ a0 a1 k, LeO (bytealg_LastIndexByteString.f k a0 a1) (bytealg_LastIndexByteString.f (k + 1) a0 a1) := by
  intro a0 a1 k
  have ih0 := bytealg_LastIndexByteString.mono_l k
  unfold bytealg_LastIndexByteString.f
  repeat' first
      | (with_reducible exact ih0 _ _ _)
      | (with_reducible exact LeO.refl _)
      | (with_reducible exact LeO.none _)
      | (with_reducible refine LeO.ite ?_ ?_)
      | (with_reducible refine LeO.bind ?_ (fun _ => ?_))
      | exact ih0 _ _ _
      | exact LeO.none _
      | refine LeO.ite ?_ ?_
      | refine LeO.bind ?_ (fun _ => ?_)
set_option maxHeartbeats 8000000 in
set_option maxRecDepth 100000 in
theorem bytealg_LastIndexByteString.calls (k : Nat) (a0 : ByteArray) (a1 : Int) (r : Int) (w : World) (h : bytealg_LastIndexByteString.f k a0 a1 = some r) :
    Calls Tryd.prog 93 #[.string a0, .int .u8 a1] w fun e w' => e = .returned (.int .i64 r) ∧ Drawn0 w w' := by
  have H : (bytealg_LastIndexByteString.l0 k a0 a1 (wrap64 ((a0.size : Int) - 1))) = some r := h
  clear h
  have H' := Aside0.mk H
  clear H
  go_enter Tryd.func93, Tryd.ntmps93
  go_wp2
  go_loopg [5] k (fun kq v5 w' => ∃ (x5_1 : Int), v5 = .int .i64 x5_1 ∧ Aside0 (bytealg_LastIndexByteString.l0 kq a0 a1 x5_1 = some r) ∧ Aside0 (kq ≤ k) ∧ Drawn0 w w')
  case atStart => exact ⟨(wrap64 ((a0.size : Int) - 1)), (by first | rfl | (simp; done) | (simp [*]; done)), H', ⟨Nat.le_refl _⟩, by repeat (first | exact Drawn0.refl _ | apply Drawn0.step)⟩
  case round =>
    clear H'
    try clear p2
    obtain ⟨x5_1, rfl, HA, HK1, ⟨m1, rfl⟩⟩ := hrel
    cases gk with
    | zero => exact absurd HA.out (by simp [bytealg_LastIndexByteString.l0])
    | succ k1 =>
      have H := HA.out
      clear HA
      simp only [bytealg_LastIndexByteString.l0] at H
      by_cases c3 : x5_1 ≥ 0
      · rw [if_pos c3] at H
        have c3b0 : decide (0 ≤ x5_1) = true := decide_eq_true c3
        clear c3
        by_cases c4 : 0 ≤ x5_1
        · rw [if_pos c4] at H
          have c4b0 : decide (0 ≤ x5_1) = true := decide_eq_true c4
          clear c4
          by_cases c5 : x5_1 < (a0.size : Int)
          · rw [if_pos c5] at H
            have c5b0 : decide (x5_1 < (a0.size : Int)) = true := decide_eq_true c5
            clear c5
            by_cases c7 : (bt a0 x5_1) = a1
            · rw [if_pos c7] at H
              have c7b0 : ((bt a0 x5_1) == a1) = true := beq_iff_eq.mpr c7
              have c7b1 : ((bt a0 x5_1) != a1) = false := bne_eq_false_iff_eq.mpr c7
              clear c7
              obtain rfl := Option.some.inj H
              have p6 : 0 ≤ (x5_1 : Int) := of_decide_eq_true (by first | (with_reducible assumption) | assumption)
              have q6 : x5_1 < (a0.size : Int) := of_decide_eq_true (by first | (with_reducible assumption) | assumption)
              have hx6 := bt_at a0 x5_1
              replace p6 := eq_true p6
              replace q6 := eq_true q6
              go_wp2
              go_ret
              exact ⟨by first | rfl | (simp; done) | (simp [*]; done), by repeat (first | exact Drawn0.refl _ | apply Drawn0.step)⟩
            · rw [if_neg c7] at H
              have c7b0 : ((bt a0 x5_1) == a1) = false := beq_eq_false_iff_ne.mpr c7
              have c7b1 : ((bt a0 x5_1) != a1) = true := bne_iff_ne.mpr c7
              have H' := Aside0.mk H
              clear H
              have p6 : 0 ≤ (x5_1 : Int) := of_decide_eq_true (by first | (with_reducible assumption) | assumption)
              have q6 : x5_1 < (a0.size : Int) := of_decide_eq_true (by first | (with_reducible assumption) | assumption)
              have hx6 := bt_at a0 x5_1
              replace p6 := eq_true p6
              replace q6 := eq_true q6
              go_wp2
              go_roundg k1
              case measure => have := HK1.out; omega
              case rel => exact ⟨(wrap64 (x5_1 - 1)), (by first | rfl | (simp; done) | (simp [*]; done)), H', ⟨by have := HK1.out; omega⟩, by repeat (first | exact Drawn0.refl _ | apply Drawn0.step)⟩
          · rw [if_neg c5] at H
            exact absurd H (by simp)
        · rw [if_neg c4] at H
          exact absurd H (by simp)
      · rw [if_neg c3] at H
        have c3b0 : decide (0 ≤ x5_1) = false := decide_eq_false c3
        clear c3
        obtain rfl := Option.some.inj H
        go_wp2
        go_ret
        exact ⟨by first | rfl | (simp; done) | (simp [*]; done), by repeat (first | exact Drawn0.refl _ | apply Drawn0.step)⟩
def strings_LastIndexByte.f (k : Nat) (a0 : ByteArray) (a1 : Int) : Option (Int) := (bytealg_LastIndexByteString.f k a0 a1).bind fun t276 => (some t276)
theorem strings_LastIndexByte.mono : ∀ a0 a1 k, LeO (strings_LastIndexByte.f k a0 a1) (strings_LastIndexByte.f (k + 1) a0 a1) := by
  intro a0 a1 k
  unfold strings_LastIndexByte.f
  repeat' first
      | (with_reducible exact bytealg_LastIndexByteString.mono _ _ _)
      | (with_reducible exact LeO.refl _)
      | (with_reducible exact LeO.none _)
      | (with_reducible refine LeO.ite ?_ ?_)
      | (with_reducible refine LeO.bind ?_ (fun _ => ?_))
      | exact bytealg_LastIndexByteString.mono _ _ _
      | exact LeO.none _
      | refine LeO.ite ?_ ?_
      | refine LeO.bind ?_ (fun _ => ?_)
set_option maxHeartbeats 8000000 in
set_option maxRecDepth 100000 in
theorem strings_LastIndexByte.calls (k : Nat) (a0 : ByteArray) (a1 : Int) (r : Int) (w : World) (h : strings_LastIndexByte.f k a0 a1 = some r) :
    Calls Tryd.prog 65 #[.string a0, .int .u8 a1] w fun e w' => e = .returned (.int .i64 r) ∧ Drawn0 w w' := by
  have H : ((bytealg_LastIndexByteString.f k a0 a1).bind fun t276 => (some t276)) = some r := h
  clear h
  replace H := Option.bind_eq_some_iff.mp H
  obtain ⟨t276, A30, H⟩ := H
  replace H : (some t276) = some r := H
  have A3 := Aside0.mk A30
  clear A30
  obtain rfl := Option.some.inj H
  go_enter Tryd.func65, Tryd.ntmps65
  go_wp2_with (first | ((with_reducible refine gate_callee (f := 93) rfl ?_); refine goesL_ (some 7) rfl rfl Tryd.func93 (by kernel_rfl) rfl #[.string a0, .int .u8 a1] rfl (by (try simp only [List.map_toArray, List.map_cons, List.map_nil]); first | done | rfl | (simp only [List.length_drop, List.length_take]; rfl)) ?_; (with_reducible refine (bytealg_LastIndexByteString.calls k a0 a1 t276 _ A3.out).mono ?_); rintro e w' ⟨rfl, ⟨nd, rfl⟩⟩; refine ⟨_, rfl, ?_⟩))
  go_ret
  exact ⟨by first | rfl | (simp; done) | (simp [*]; done), by repeat (first | exact Drawn0.refl _ | apply Drawn0.step)⟩
def name_Up.f (k : Nat) (a0 : ByteArray) : Option (ByteArray) := (strings_LastIndexByte.f k a0 47).bind fun t277 => (if 0 ≤ (mx 0 t277) then (if (mx 0 t277) ≤ (a0.size : Int) then (some (a0.extract 0 ((mx 0 t277) : Int).toNat)) else (none)) else (none))
theorem name_Up.mono : ∀ a0 k, LeO (name_Up.f k a0) (name_Up.f (k + 1) a0) := by
  intro a0 k
  unfold name_Up.f
  repeat' first
      | (with_reducible exact strings_LastIndexByte.mono _ _ _)
      | (with_reducible exact LeO.refl _)
      | (with_reducible exact LeO.none _)
      | (with_reducible refine LeO.ite ?_ ?_)
      | (with_reducible refine LeO.bind ?_ (fun _ => ?_))
      | exact strings_LastIndexByte.mono _ _ _
      | exact LeO.none _
      | refine LeO.ite ?_ ?_
      | refine LeO.bind ?_ (fun _ => ?_)
set_option maxHeartbeats 8000000 in
set_option maxRecDepth 100000 in
theorem name_Up.calls (k : Nat) (a0 : ByteArray) (r : ByteArray) (w : World) (h : name_Up.f k a0 = some r) :
    Calls Tryd.prog 27 #[.string a0] w fun e w' => e = .returned (.string r) ∧ Below w.heap.size w w' := by
  have HB := Aside0.mk (Below.refl w.heap.size w)
  have H : ((strings_LastIndexByte.f k a0 47).bind fun t277 => (if 0 ≤ (mx 0 t277) then (if (mx 0 t277) ≤ (a0.size : Int) then (some (a0.extract 0 ((mx 0 t277) : Int).toNat)) else (none)) else (none))) = some r := h
  clear h
  replace H := Option.bind_eq_some_iff.mp H
  obtain ⟨t277, A20, H⟩ := H
  replace H : (if 0 ≤ (mx 0 t277) then (if (mx 0 t277) ≤ (a0.size : Int) then (some (a0.extract 0 ((mx 0 t277) : Int).toNat)) else (none)) else (none)) = some r := H
  have A2 := Aside0.mk A20
  clear A20
  obtain ⟨ji3, hji3⟩ : ∃ j_ : Int, (mx 0 t277) = j_ := ⟨_, rfl⟩
  replace H : (if 0 ≤ (ji3) then (if (ji3) ≤ (a0.size : Int) then (some (a0.extract 0 ((ji3) : Int).toNat)) else (none)) else (none)) = some r := by first | (rw [hji3] at H; exact H) | (simp only [hji3] at H ⊢; exact H)
  (try rw [hji3] at A2)
  (try (have hji3l : 0 ≤ ji3 := by (rw [← hji3]; unfold mx; (repeat' split) <;> omega)))
  (try (have hji3m : 0 ≤ ji3 := by omega))
  have hji3_ : (if 0 < t277 then t277 else 0) = ji3 := hji3
  by_cases c4 : 0 ≤ (ji3)
  · rw [if_pos c4] at H
    have c4b0 := eq_true c4
    have c4b1 : decide (0 ≤ (ji3)) = true := decide_eq_true c4
    clear c4
    by_cases c5 : (ji3) ≤ (a0.size : Int)
    · rw [if_pos c5] at H
      have c5b0 := eq_true c5
      have c5b1 : decide ((ji3) ≤ (a0.size : Int)) = true := decide_eq_true c5
      clear c5
      obtain rfl := Option.some.inj H
      go_enter Tryd.func27, Tryd.ntmps27
      go_wp2_with (first | ((with_reducible refine gate_callee (f := 65) rfl ?_); refine goesL_ (some 5) rfl rfl Tryd.func65 (by kernel_rfl) rfl #[.string a0, .int .u8 47] rfl (by (try simp only [List.map_toArray, List.map_cons, List.map_nil]); first | done | rfl | (simp only [List.length_drop, List.length_take]; rfl)) ?_; (with_reducible refine (strings_LastIndexByte.calls k a0 47 t277 _ A2.out).mono ?_); rintro e w' ⟨rfl, ⟨nd, rfl⟩⟩; refine ⟨_, rfl, ?_⟩))
      go_ret
      exact ⟨by first | rfl | (simp [errW_none, errW_some] <;> rfl) | (simp only [← hji3]; first | rfl | (simp [errW_none, errW_some] <;> rfl)) | (simp [*, errW_none, errW_some] <;> rfl), by repeat (first | (with_reducible first | exact HB.out | apply below_alloc | apply pw_below_drewN | apply below_drew1) | exact HB.out)⟩
    · rw [if_neg c5] at H
      exact absurd H (by simp)
  · rw [if_neg c4] at H
    exact absurd H (by simp)
end Go.Proofs.YthpecpkncifngaaDoor.X
end

/- The reference's functions on pieces, told by plain words (no program in sight). -/
section
namespace Go.Proofs.YthpecpkncifngaaDoor.Pure
open Go.RowKit Go.Proofs.YthpecpkncifngaaDoor.X Go.Proofs.YthpecpkncifngaaDoorW.PrintWords Go.Proofs.YthpecpkncifngaaDoorW.PrintLast Go.Proofs.YthpecpkncifngaaDoorW.PrintMore
open Go.Proofs.YthpecpkncifngaaDoor
theorem len_eq (p : ByteArray) : p.data.toList.length = p.size := by rw [Array.length_toList]; rfl
theorem drop_at (p : ByteArray) (i : Nat) (h : i < p.size) : ∃ c : UInt8, p.data.toList.drop i = c :: p.data.toList.drop (i + 1) ∧ bt p (i : Int) = (c.toNat : Int) ∧ p.data.toList[i]? = some c := by
  have hl : i < p.data.toList.length := by rw [len_eq]; exact h
  refine ⟨p.data.toList[i], List.drop_eq_getElem_cons hl, ?_, List.getElem?_eq_getElem hl⟩
  unfold bt
  have h2 : ((i : Int)).toNat < p.size := by omega
  rw [dif_pos h2]
  rfl
theorem toNat_eq (c d : UInt8) : ((c.toNat : Int) = (d.toNat : Int)) ↔ c = d := by
  constructor
  · intro h
    exact UInt8.toNat_inj.1 (by omega)
  · rintro rfl; rfl
theorem wrap_succ {n : Nat} (h : n < 9223372036854775807) : wrap64 ((n : Int) + 1) = ((n + 1 : Nat) : Int) := by unfold wrap64; omega
abbrev SP := S99
def toS (x : Nat × List UInt8) : SP := ⟨(x.1 : Int), bytesOfL x.2⟩
theorem pieces_l0 (p : ByteArray) (hp : p.size ≤ 1099511627776) (d : Nat) : ∀ (out : List SP) (a i : Nat), a ≤ i → i ≤ p.size → out.length ≤ i → p.size - i = d →
    Ev (fun k => tabularyref08_Pieces.l0 k p out (a : Int) (i : Int)) (out ++ (toS (a, (p.data.toList.drop a).take (i - a) ++ (Nm.pc i (p.data.toList.drop i)).1) :: (Nm.pc i (p.data.toList.drop i)).2.map toS)) := by
  induction d with
  | zero =>
    intro out a i ha hi ho hd
    have e : i = p.size := by omega
    subst e
    have e2 : p.data.toList.drop p.size = [] := List.drop_eq_nil_of_le (by rw [len_eq]; omega)
    refine Ev.step (fun k => ?_) (Ev.now _)
    simp only [tabularyref08_Pieces.l0]
    rw [if_neg (by omega), if_pos (by omega), if_pos (by omega), if_pos (by omega)]
    rw [e2, Int.toNat_natCast, Lib.extract_eq]
    simp [Nm.pc, toS, bytesOfL]
  | succ d ih =>
    intro out a i ha hi ho hd
    obtain ⟨c, hc, hb, hci⟩ := drop_at p i (by omega)
    by_cases h : c = 47
    · have hb' : bt p (i : Int) = 47 := by rw [hb, h]; rfl
      have step : ∀ k, tabularyref08_Pieces.l0 (k + 1) p out (a : Int) (i : Int) = tabularyref08_Pieces.l0 k p (out ++ [toS (a, (p.data.toList.drop a).take (i - a))]) ((i + 1 : Nat) : Int) ((i + 1 : Nat) : Int) := fun k => by
        simp only [tabularyref08_Pieces.l0]
        rw [if_pos (by omega), if_pos (by omega), if_pos hb', if_pos (by omega), if_pos (by omega), if_pos (by omega), if_pos (by omega), wrap_succ (by omega)]
        rw [Int.toNat_natCast, Int.toNat_natCast, Lib.extract_eq]
        rfl
      refine Ev.step step ?_
      have := ih (out ++ [toS (a, (p.data.toList.drop a).take (i - a))]) (i + 1) (i + 1) (by omega) (by omega) (by simp; omega) (by omega)
      rw [hc, h]
      simpa [Nm.pc] using this
    · have hb' : ¬ bt p (i : Int) = 47 := by
        rw [hb]
        exact fun e => h ((toNat_eq c 47).1 e)
      have step : ∀ k, tabularyref08_Pieces.l0 (k + 1) p out (a : Int) (i : Int) = tabularyref08_Pieces.l0 k p out (a : Int) ((i + 1 : Nat) : Int) := fun k => by
        simp only [tabularyref08_Pieces.l0]
        rw [if_pos (by omega), if_pos (by omega), if_neg hb', wrap_succ (by omega)]
      refine Ev.step step ?_
      have := ih out a (i + 1) (by omega) (by omega) (by omega) (by omega)
      rw [hc]
      simp only [Nm.pc, h, if_false]
      have e : (p.data.toList.drop a).take (i + 1 - a) = (p.data.toList.drop a).take (i - a) ++ [c] := by
        rw [show i + 1 - a = (i - a) + 1 from by omega, List.take_add_one, List.getElem?_drop, show a + (i - a) = i from by omega, hci]
        rfl
      rw [e] at this
      simpa using this
theorem pieces_ev (p : ByteArray) (hp : p.size ≤ 1099511627776) : Ev (fun k => tabularyref08_Pieces.f k p) ((Nm.pieces 0 p.data.toList).map toS) := by
  have := pieces_l0 p hp p.size [] 0 0 (by omega) (by omega) (by simp) (by omega)
  simpa [tabularyref08_Pieces.f, Nm.pieces] using this
theorem toList_eq (p : ByteArray) : p.toList = p.data.toList := Lib.toList_data p
theorem idx_cons (c d : UInt8) (l : List UInt8) : Lib.indexByte (c :: l) d = if c = d then 0 else if Lib.indexByte l d = -1 then -1 else Lib.indexByte l d + 1 := by
  simp only [Lib.indexByte, beq_iff_eq]
theorem nul_l0 (p : ByteArray) (hp : p.size ≤ 1099511627776) (d : Nat) : ∀ (i : Nat), i ≤ p.size → p.size - i = d →
    Ev (fun k => tabularyref08_Nul.l0 k p (i : Int)) (if Lib.indexByte (p.data.toList.drop i) 0 = -1 then -1 else (i : Int) + Lib.indexByte (p.data.toList.drop i) 0) := by
  induction d with
  | zero =>
    intro i hi hd
    obtain rfl : i = p.size := by omega
    have e2 : p.data.toList.drop p.size = [] := List.drop_eq_nil_of_le (by rw [len_eq]; omega)
    refine Ev.step (fun k => ?_) (Ev.now _)
    simp only [tabularyref08_Nul.l0]
    rw [if_neg (by omega), e2]
    rfl
  | succ d ih =>
    intro i hi hd
    obtain ⟨c, hc, hb, _⟩ := drop_at p i (by omega)
    rw [hc, idx_cons]
    by_cases h : c = 0
    · have hb' : bt p (i : Int) = 0 := by rw [hb, h]; rfl
      refine Ev.step (fun k => ?_) (Ev.now _)
      simp only [tabularyref08_Nul.l0]
      rw [if_pos (by omega), if_pos (by omega), if_pos hb', if_pos h]
      simp
    · have hb' : ¬ bt p (i : Int) = 0 := by rw [hb]; exact fun e => h ((toNat_eq c 0).1 e)
      have step : ∀ k, tabularyref08_Nul.l0 (k + 1) p (i : Int) = tabularyref08_Nul.l0 k p ((i + 1 : Nat) : Int) := fun k => by
        simp only [tabularyref08_Nul.l0]
        rw [if_pos (by omega), if_pos (by omega), if_neg hb', wrap_succ (by omega)]
      refine Ev.step step ?_
      have := ih (i + 1) (by omega) (by omega)
      rw [if_neg h]
      have hg := Lib.indexByte_ge (p.data.toList.drop (i + 1)) 0
      by_cases h2 : Lib.indexByte (p.data.toList.drop (i + 1)) 0 = -1
      · rw [if_pos h2] at this; rw [if_pos h2, if_pos rfl]; exact this
      · rw [if_neg h2] at this; rw [if_neg h2, if_neg (by omega)]
        rw [show (i : Int) + (Lib.indexByte (p.data.toList.drop (i + 1)) 0 + 1) = ((i + 1 : Nat) : Int) + Lib.indexByte (p.data.toList.drop (i + 1)) 0 from by omega]
        exact this
theorem nul_ev (p : ByteArray) (hp : p.size ≤ 1099511627776) : Ev (fun k => tabularyref08_Nul.f k p) (Lib.indexByte p.data.toList 0) := by
  have := nul_l0 p hp p.size 0 (by omega) (by omega)
  have e : (if Lib.indexByte (p.data.toList.drop 0) 0 = -1 then -1 else ((0 : Nat) : Int) + Lib.indexByte (p.data.toList.drop 0) 0) = Lib.indexByte p.data.toList 0 := by
    simp only [List.drop_zero]
    split <;> omega
  rw [e] at this
  exact this
def badI (l : List UInt8) : Int × Int := match Nm.bad l with | some (m, e) => ((m : Int), (e : Int)) | none => (0, 0)
theorem part_ev (p : ByteArray) (hp : p.size ≤ 1099511627776) : Ev (fun k => tabularyref08_part.f k p) (badI p.data.toList) := by
  have hl := len_eq p
  unfold badI Nm.bad
  by_cases h1 : p.data.toList = []
  · refine Ev.congr (fun k => ?_) (Ev.now _)
    simp only [tabularyref08_part.f, toList_eq]
    rw [if_pos h1, if_pos h1]; rfl
  · rw [if_neg h1]
    by_cases h2 : 120 < p.data.toList.length
    · rw [if_pos h2]
      refine Ev.congr (fun k => ?_) (Ev.now _)
      simp only [tabularyref08_part.f, toList_eq]
      rw [if_neg h1, if_pos (by omega)]; rfl
    · rw [if_neg h2]
      by_cases h3 : p.data.toList = [46] ∨ p.data.toList = [46, 46]
      · rw [if_pos h3]
        have e : ∀ k, tabularyref08_part.f k p = tabularyref08_part.j0 k p true := fun k => by
          simp only [tabularyref08_part.f, toList_eq]
          rw [if_neg h1, if_neg (by omega)]
          rcases h3 with h3 | h3
          · rw [if_pos h3]
          · rw [if_neg (by rw [h3]; simp), h3]; rfl
        refine Ev.congr e (Ev.step (fun k => ?_) (Ev.now _))
        simp only [tabularyref08_part.j0]; rfl
      · rw [if_neg h3]
        have e : ∀ k, tabularyref08_part.f k p = tabularyref08_part.j0 k p false := fun k => by
          simp only [tabularyref08_part.f, toList_eq]
          rw [if_neg h1, if_neg (by omega), if_neg (fun e => h3 (.inl e))]
          have : (p.data.toList == ([46, 46] : List UInt8)) = false := by simpa using fun e => h3 (.inr e)
          rw [this]
        have s : ∀ k, tabularyref08_part.j0 (k + 1) p false = (tabularyref08_Nul.f k p).bind fun t => if t ≥ 0 then some (t, 82) else some (0, 0) := fun k => by
          simp only [tabularyref08_part.j0]; rfl
        refine Ev.congr e (Ev.step s (Ev.bind (nul_ev p hp) ?_))
        by_cases h4 : 0 ≤ Lib.indexByte p.data.toList 0
        · refine Ev.congr (fun k => ?_) (Ev.now _)
          rw [if_pos h4, if_pos h4]
          simp only
          congr 2
          omega
        · refine Ev.congr (fun k => ?_) (Ev.now _)
          rw [if_neg h4, if_neg (by omega)]
theorem rd_map (l : List (Nat × List UInt8)) (i : Nat) (h : i < l.length) : rd_T99 (l.map toS) (i : Int) = toS l[i] := by
  simp [rd_T99, List.getD_eq_getElem?_getD, h]
theorem bytes_size (l : List UInt8) : (bytesOfL l).size = l.length := by simp [bytesOfL, ByteArray.size]
theorem check_l0 (l : List (Nat × List UInt8)) (hb : ∀ x ∈ l, x.1 + x.2.length ≤ 400) (hl : l.length ≤ 1099511627776) (d : Nat) : ∀ i : Nat, i ≤ l.length → l.length - i = d →
    Ev (fun k => tabularyref08_Check.l0 k (l.map toS) (i : Int)) ((((Nm.firstBad (l.drop i)).getD (0, 0)).1 : Int), (((Nm.firstBad (l.drop i)).getD (0, 0)).2 : Int)) := by
  induction d with
  | zero =>
    intro i hi hd
    obtain rfl : i = l.length := by omega
    refine Ev.step (fun k => ?_) (Ev.now _)
    simp only [tabularyref08_Check.l0, List.length_map]
    rw [if_neg (by omega), List.drop_length]
    rfl
  | succ d ih =>
    intro i hi hd
    have hlt : i < l.length := by omega
    have hx := hb l[i] (List.getElem_mem hlt)
    have hp := part_ev (bytesOfL l[i].2) (by rw [bytes_size]; omega)
    rw [List.drop_eq_getElem_cons hlt, Nm.firstBad]
    have s : ∀ k, tabularyref08_Check.l0 (k + 1) (l.map toS) (i : Int) = (tabularyref08_part.f k (bytesOfL l[i].2)).bind fun b => if b.2 = 0 then tabularyref08_Check.l0 k (l.map toS) ((i + 1 : Nat) : Int) else some (wrap64 ((l[i].1 : Int) + b.1), b.2) := fun k => by
      simp only [tabularyref08_Check.l0, List.length_map]
      rw [if_pos (by omega), if_pos (by omega), rd_map l i hlt, wrap_succ (by omega)]
      rfl
    refine Ev.step s (Ev.bind hp ?_)
    have e : (bytesOfL l[i].2).data.toList = l[i].2 := rfl
    rw [e]
    unfold badI
    cases hbad : Nm.bad l[i].2 with
    | none => exact Ev.congr (fun k => if_pos rfl) (ih (i + 1) (by omega) (by omega))
    | some z =>
      obtain ⟨m, q⟩ := z
      have hm : m ≤ l[i].2.length ∧ q ≠ 0 := by
        rcases Nm.bad_some hbad with ⟨h1, h2⟩ | ⟨h1, h2⟩
        · omega
        · refine ⟨by omega, ?_⟩
          rintro rfl
          unfold Nm.bad at hbad
          repeat' split at hbad
          all_goals simp at hbad
      refine Ev.congr (fun k => ?_) (Ev.now _)
      simp only
      rw [if_neg (by omega)]
      simp only [Option.getD_some, Option.some.injEq, Prod.mk.injEq, and_true]
      unfold wrap64; omega
theorem refcheck_ev (p : ByteArray) : Ev (fun k => tabularyref08_Check.f k p) ((((Nm.check p.data.toList).1 : Nat) : Int), (((Nm.check p.data.toList).2 : Nat) : Int)) := by
  have hl := len_eq p
  unfold Nm.check
  by_cases h : 400 < p.data.toList.length
  · rw [if_pos h]
    refine Ev.congr (fun k => ?_) (Ev.now _)
    simp only [tabularyref08_Check.f]
    rw [if_pos (by omega)]; rfl
  · rw [if_neg h]
    have s : ∀ k, tabularyref08_Check.f k p = (tabularyref08_Pieces.f k p).bind fun t => tabularyref08_Check.l0 k t 0 := fun k => by
      simp only [tabularyref08_Check.f]
      rw [if_neg (by omega)]
    refine Ev.congr s (Ev.bind (pieces_ev p (by omega)) ?_)
    have hb := Nm.pieces_bound p.data.toList 0
    have hn : (Nm.pieces 0 p.data.toList).length ≤ 401 := by
      have := Nm.pieces_length p.data.toList 0
      omega
    have := check_l0 (Nm.pieces 0 p.data.toList) (fun x hx => by have := hb x hx; omega) (by omega) _ 0 (by omega) rfl
    simpa using this
end Go.Proofs.YthpecpkncifngaaDoor.Pure
end

/- NameChecks, NameSplits, NameCompares, NameBeneath: the pure statements. -/
section
namespace Go.Proofs.YthpecpkncifngaaDoor.Pure
open Go.RowKit Go.Proofs.YthpecpkncifngaaDoor.X Go.Proofs.YthpecpkncifngaaDoorW.PrintWords Go.Proofs.YthpecpkncifngaaDoorW.PrintLast Go.Proofs.YthpecpkncifngaaDoorW.PrintMore
open Go.Proofs.YthpecpkncifngaaDoor
theorem lastb_l0 (p : ByteArray) (hp : p.size ≤ 1099511627776) (c : UInt8) : ∀ n : Nat, n ≤ p.size →
    Ev (fun k => bytealg_LastIndexByteString.l0 k p (c.toNat : Int) ((n : Int) - 1)) (Nm.lastIdx c (p.data.toList.take n))
  | 0, _ => by
    refine Ev.step (fun k => ?_) (Ev.now _)
    simp only [bytealg_LastIndexByteString.l0]
    rw [if_neg (by omega)]; rfl
  | n + 1, h => by
    obtain ⟨d, _, hb, hd⟩ := drop_at p n (by omega)
    have e : p.data.toList.take (n + 1) = p.data.toList.take n ++ [d] := by rw [List.take_add_one, hd]; rfl
    rw [e, Nm.lastIdx_snoc]
    have hl : (p.data.toList.take n).length = n := by rw [List.length_take, len_eq]; omega
    rw [hl, show (((n + 1 : Nat) : Int) - 1) = (n : Int) from by omega]
    by_cases hc : d = c
    · refine Ev.step (fun k => ?_) (Ev.now _)
      simp only [bytealg_LastIndexByteString.l0]
      rw [if_pos (by omega), if_pos (by omega), if_pos (by omega), if_pos (by rw [hb, hc]), if_pos hc]
    · have s : ∀ k, bytealg_LastIndexByteString.l0 (k + 1) p (c.toNat : Int) (n : Int) = bytealg_LastIndexByteString.l0 k p (c.toNat : Int) ((n : Int) - 1) := fun k => by
        simp only [bytealg_LastIndexByteString.l0]
        rw [if_pos (by omega), if_pos (by omega), if_pos (by omega), if_neg (by rw [hb]; exact fun e => hc ((toNat_eq d c).1 e)), show wrap64 ((n : Int) - 1) = (n : Int) - 1 from by unfold wrap64; omega]
      rw [if_neg hc]
      exact Ev.step s (lastb_l0 p hp c n (by omega))
theorem lastb_ev (p : ByteArray) (hp : p.size ≤ 1099511627776) : Ev (fun k => strings_LastIndexByte.f k p 47) (Nm.lastIdx 47 p.data.toList) := by
  have := lastb_l0 p hp 47 p.size (by omega)
  rw [List.take_of_length_le (by rw [len_eq]; omega)] at this
  have s : ∀ k, strings_LastIndexByte.f k p 47 = (bytealg_LastIndexByteString.l0 k p 47 ((p.size : Int) - 1)).bind fun t => some t := fun k => by
    simp only [strings_LastIndexByte.f, bytealg_LastIndexByteString.f]
    rw [show wrap64 ((p.size : Int) - 1) = (p.size : Int) - 1 from by unfold wrap64; omega]
  exact Ev.congr s (Ev.bind this (Ev.now _))
def upB (p : ByteArray) : ByteArray := p.extract 0 (Nm.lastIdx 47 p.data.toList).toNat
theorem mx0 (a : Int) (h : -1 ≤ a) : mx 0 a = ((a.toNat : Nat) : Int) := by unfold mx; split <;> omega
theorem up_ev (p : ByteArray) (hp : p.size ≤ 1099511627776) : Ev (fun k => name_Up.f k p) (upB p) := by
  have h1 := Nm.lastIdx_ge 47 p.data.toList
  have h2 := Nm.lastIdx_lt 47 p.data.toList
  rw [len_eq] at h2
  have s : ∀ k, name_Up.f k p = (strings_LastIndexByte.f k p 47).bind fun t => if 0 ≤ mx 0 t then (if mx 0 t ≤ (p.size : Int) then some (p.extract 0 ((mx 0 t : Int)).toNat) else none) else none := fun k => by simp only [name_Up.f]
  refine Ev.congr s (Ev.bind (lastb_ev p hp) (Ev.congr (fun k => ?_) (Ev.now _)))
  rw [mx0 _ h1, if_pos (by omega), if_pos (by omega), Int.toNat_natCast]
  rfl
theorem refup_ev (p : ByteArray) (hp : p.size ≤ 1099511627776) : Ev (fun k => tabularyref08_Up.f k p) (upB p) := by
  have h1 := Nm.lastIdx_ge 47 p.data.toList
  have h2 := Nm.lastIdx_lt 47 p.data.toList
  rw [len_eq] at h2
  obtain ⟨r, x, hr, hx⟩ := Nm.pieces_last p.data.toList
  have hlen : (Nm.pieces 0 p.data.toList).length = r.length + 1 := by rw [hr]; simp
  have hb := Nm.pieces_length p.data.toList 0
  rw [len_eq] at hb
  have hw : wrap64 (((r.length + 1 : Nat) : Int) - 1) = (r.length : Int) := by unfold wrap64; omega
  have hg : (Nm.pieces 0 p.data.toList)[r.length]'(by omega) = x := by simp [hr]
  refine Ev.congr (fun k => by rw [tabularyref08_Up.f]) (Ev.bind (pieces_ev p hp) (Ev.congr (fun k => ?_) (Ev.now _)))
  rw [List.length_map, hlen, hw, if_pos (by omega), if_pos (by omega), rd_map _ r.length (by omega), hg]
  have e0 : (toS x).f0 = (x.1 : Int) := rfl
  by_cases h0 : (toS x).f0 = 0
  · rw [if_pos h0]
    unfold upB
    rw [show (Nm.lastIdx 47 p.data.toList).toNat = 0 from by omega, Lib.extract_eq]
    rfl
  · have hw2 : wrap64 ((toS x).f0 - 1) = Nm.lastIdx 47 p.data.toList := by unfold wrap64; omega
    rw [if_neg h0, hw2, if_pos (by omega), if_pos (by omega)]
    rfl
end Go.Proofs.YthpecpkncifngaaDoor.Pure
end

/- NameBeneath, NameCompares: the pure statements. -/
section
namespace Go.Proofs.YthpecpkncifngaaDoor.Pure
open Go.RowKit Go.Proofs.YthpecpkncifngaaDoor.X Go.Proofs.YthpecpkncifngaaDoorW.PrintWords Go.Proofs.YthpecpkncifngaaDoorW.PrintLast Go.Proofs.YthpecpkncifngaaDoorW.PrintMore
open Go.Proofs.YthpecpkncifngaaDoor
theorem rd_text (l : List (Nat × List UInt8)) (i : Nat) (h : i < l.length) : ((rd_T99 (l.map toS) (i : Int)).f1).toList = l[i].2 := by
  rw [rd_map l i h, toList_eq]; rfl
theorem cmp_ev (a b : ByteArray) : cmp_Compare_string.f a b = some (if Op.bytesLess a.data.toList b.data.toList = true then -1 else if Op.bytesLess b.data.toList a.data.toList = true then 1 else 0) := by
  have n : ∀ x : ByteArray, cmp_isNaN_string.f x = some false := fun x => by simp [cmp_isNaN_string.f]
  simp only [cmp_Compare_string.f, n, Option.bind_some, Bool.false_eq_true, if_false, toList_eq]
  split
  · rfl
  · split <;> rfl
theorem ib (p : ByteArray) : strings_IndexByte.f p 47 = some (Lib.indexByte p.data.toList 47) := rfl
theorem texts_none {l : List UInt8} (h : Lib.indexByte l 47 = -1) : Nm.texts l = [l] := by simp [Nm.texts, Nm.pieces_none l 0 h]
theorem texts_some {l : List UInt8} {n : Nat} (h : Lib.indexByte l 47 = n) : Nm.texts l = l.take n :: Nm.texts (l.drop (n + 1)) := by
  rw [Nm.texts, Nm.pieces_some l 0 n h, List.map_cons, Nm.pieces_texts]
theorem cmp_cases (x y : List UInt8) : (Op.bytesLess x y = true) ∨ (Op.bytesLess x y = false ∧ Op.bytesLess y x = true) ∨ (Op.bytesLess x y = false ∧ Op.bytesLess y x = false) := by
  cases Op.bytesLess x y <;> cases Op.bytesLess y x <;> simp
theorem ncompare_j2 (a b X Y : ByteArray) (i j r : Int) (A B : List (List UInt8))
    (h : ∀ c : Bool, c = (if i < 0 then decide (j < 0) else false) → Ev (fun k => name_Compare.j3 k a b i j c) (Nm.cmpL A B))
    (hr : r = Nm.cmpL (X.data.toList :: A) (Y.data.toList :: B)) : Ev (fun k => name_Compare.j2 k a b i j X Y) r := by
  subst hr
  have s : ∀ k, name_Compare.j2 (k + 1) a b i j X Y = if (if Op.bytesLess X.data.toList Y.data.toList = true then (-1 : Int) else if Op.bytesLess Y.data.toList X.data.toList = true then 1 else 0) = 0 then name_Compare.j3 k a b i j (if i < 0 then decide (j < 0) else false) else some (if Op.bytesLess X.data.toList Y.data.toList = true then (-1 : Int) else if Op.bytesLess Y.data.toList X.data.toList = true then 1 else 0) := fun k => by
    simp only [name_Compare.j2]
    rw [cmp_ev, Option.bind_some]
    by_cases hi : i < 0
    · simp only [hi, if_true]
    · simp only [hi, if_false]
  rcases cmp_cases X.data.toList Y.data.toList with h1 | ⟨h1, h2⟩ | ⟨h1, h2⟩
  · simp only [h1, if_true] at s
    simp only [Nm.cmpL, h1, if_true]
    exact Ev.step s (Ev.congr (fun k => by rw [if_neg (by decide)]) (Ev.now _))
  · simp only [h1, h2, Bool.false_eq_true, if_false, if_true] at s
    simp only [Nm.cmpL, h1, h2, Bool.false_eq_true, if_false, if_true]
    exact Ev.step s (Ev.congr (fun k => by rw [if_neg (by decide)]) (Ev.now _))
  · simp only [h1, h2, Bool.false_eq_true, if_false, if_true] at s
    simp only [Nm.cmpL, h1, h2, Bool.false_eq_true, if_false]
    exact Ev.step s (h _ rfl)
theorem ncompare_j1 (a b X : ByteArray) (i r : Int) (A B : List (List UInt8)) (Y : List UInt8) (hB : Nm.texts b.data.toList = Y :: B)
    (h : ∀ c : Bool, c = (if i < 0 then decide (Lib.indexByte b.data.toList 47 < 0) else false) → Ev (fun k => name_Compare.j3 k a b i (Lib.indexByte b.data.toList 47) c) (Nm.cmpL A B))
    (hr : r = Nm.cmpL (X.data.toList :: A) (Y :: B)) : Ev (fun k => name_Compare.j1 k a b i (Lib.indexByte b.data.toList 47) X b) r := by
  by_cases hj : Lib.indexByte b.data.toList 47 = -1
  · rw [texts_none hj] at hB
    injection hB with h1 h2
    subst h1
    have s : ∀ k, name_Compare.j1 (k + 1) a b i (Lib.indexByte b.data.toList 47) X b = name_Compare.j2 k a b i (Lib.indexByte b.data.toList 47) X b := fun k => by
      simp only [name_Compare.j1]
      rw [if_neg (by omega)]
    exact Ev.step s (ncompare_j2 a b X b i _ r A B h hr)
  · have := Lib.indexByte_ge b.data.toList 47
    obtain ⟨n, hn⟩ : ∃ n : Nat, Lib.indexByte b.data.toList 47 = n := ⟨(Lib.indexByte b.data.toList 47).toNat, by omega⟩
    rw [texts_some hn] at hB
    injection hB with h1 h2
    subst h1
    have hlt := (Nm.pc_some _ 0 n hn).1
    rw [len_eq] at hlt
    have s : ∀ k, name_Compare.j1 (k + 1) a b i (Lib.indexByte b.data.toList 47) X b = name_Compare.j2 k a b i (Lib.indexByte b.data.toList 47) X (b.extract 0 n) := fun k => by
      simp only [name_Compare.j1]
      rw [if_pos (by omega), if_pos (by omega), if_pos (by omega), hn, Int.toNat_natCast]
    refine Ev.step s (ncompare_j2 a b X (b.extract 0 n) i _ r A B h ?_)
    rw [hr, Lib.extract_data]
    simp
theorem ncompare_one (a b : ByteArray) (hai : Lib.indexByte a.data.toList 47 = -1) :
    Ev (fun k => name_Compare.l0 k a b) (Nm.cmpL (Nm.texts a.data.toList) (Nm.texts b.data.toList)) := by
  have s : ∀ k, name_Compare.l0 (k + 1) a b = name_Compare.j1 k a b (-1) (Lib.indexByte b.data.toList 47) a b := fun k => by
    simp only [name_Compare.l0]
    rw [ib, ib, Option.bind_some, Option.bind_some, hai, if_neg (by omega)]
  refine Ev.step s ?_
  obtain ⟨Y, B, hB⟩ : ∃ Y B, Nm.texts b.data.toList = Y :: B := ⟨_, _, rfl⟩
  refine ncompare_j1 a b a (-1) _ [] B Y hB ?_ (by rw [texts_none hai, hB])
  rintro c rfl
  rw [if_pos (by omega)]
  by_cases hj : Lib.indexByte b.data.toList 47 = -1
  · rw [texts_none hj] at hB
    injection hB with h1 h2
    subst h2
    refine Ev.step (fun k => ?_) (Ev.now _)
    simp only [name_Compare.j3, hj]
    rw [if_pos (by decide)]
    rfl
  · have := Lib.indexByte_ge b.data.toList 47
    obtain ⟨m, hm⟩ : ∃ m : Nat, Lib.indexByte b.data.toList 47 = m := ⟨(Lib.indexByte b.data.toList 47).toNat, by omega⟩
    rw [texts_some hm] at hB
    injection hB with h1 h2
    subst h2
    obtain ⟨Z, C, hC⟩ : ∃ Z C, Nm.texts (b.data.toList.drop (m + 1)) = Z :: C := ⟨_, _, rfl⟩
    rw [hC]
    refine Ev.step (fun k => ?_) (Ev.now _)
    simp only [name_Compare.j3, hm]
    rw [if_neg (by simp), if_pos (by omega)]
    rfl
theorem ncompare_l0 (d : Nat) : ∀ (a b : ByteArray), a.size ≤ d → a.size ≤ 140737488355328 → b.size ≤ 140737488355328 →
    Ev (fun k => name_Compare.l0 k a b) (Nm.cmpL (Nm.texts a.data.toList) (Nm.texts b.data.toList)) := by
  induction d with
  | zero =>
    intro a b h0 ha hb
    have hai : Lib.indexByte a.data.toList 47 = -1 := by
      have e : a.data.toList = [] := List.eq_nil_of_length_eq_zero (by rw [len_eq]; omega)
      rw [e]; rfl
    exact ncompare_one a b hai
  | succ d ih =>
    intro a b h0 ha hb
    by_cases hai : Lib.indexByte a.data.toList 47 = -1
    · exact ncompare_one a b hai
    · have := Lib.indexByte_ge a.data.toList 47
      obtain ⟨n, hn⟩ : ∃ n : Nat, Lib.indexByte a.data.toList 47 = n := ⟨(Lib.indexByte a.data.toList 47).toNat, by omega⟩
      have hlt := (Nm.pc_some _ 0 n hn).1
      rw [len_eq] at hlt
      have s : ∀ k, name_Compare.l0 (k + 1) a b = name_Compare.j1 k a b (n : Int) (Lib.indexByte b.data.toList 47) (a.extract 0 n) b := fun k => by
        simp only [name_Compare.l0]
        rw [ib, ib, Option.bind_some, Option.bind_some, hn, if_pos (by omega), if_pos (by omega), if_pos (by omega), Int.toNat_natCast]
      refine Ev.step s ?_
      obtain ⟨Y, B, hB⟩ : ∃ Y B, Nm.texts b.data.toList = Y :: B := ⟨_, _, rfl⟩
      refine ncompare_j1 a b (a.extract 0 n) n _ (Nm.texts (a.data.toList.drop (n + 1))) B Y hB ?_ (by rw [texts_some hn, hB, Lib.extract_data]; simp)
      rintro c rfl
      rw [if_neg (by omega)]
      obtain ⟨Z, C, hC⟩ : ∃ Z C, Nm.texts (a.data.toList.drop (n + 1)) = Z :: C := ⟨_, _, rfl⟩
      by_cases hj : Lib.indexByte b.data.toList 47 = -1
      · rw [texts_none hj] at hB
        injection hB with h1 h2
        subst h2
        rw [hC]
        refine Ev.step (fun k => ?_) (Ev.now _)
        simp only [name_Compare.j3, Bool.false_eq_true, if_false]
        rw [if_neg (by omega), if_pos (by omega)]
        rfl
      · have := Lib.indexByte_ge b.data.toList 47
        obtain ⟨m, hm⟩ : ∃ m : Nat, Lib.indexByte b.data.toList 47 = m := ⟨(Lib.indexByte b.data.toList 47).toNat, by omega⟩
        have hlt2 := (Nm.pc_some _ 0 m hm).1
        rw [len_eq] at hlt2
        rw [texts_some hm] at hB
        injection hB with h1 h2
        subst h2
        have s2 : ∀ k, name_Compare.j3 (k + 1) a b (n : Int) (Lib.indexByte b.data.toList 47) false = name_Compare.l0 k (a.extract (n + 1) a.size) (b.extract (m + 1) b.size) := fun k => by
          simp only [name_Compare.j3, Bool.false_eq_true, if_false]
          rw [if_neg (by omega), if_neg (by omega), hm, wrap_succ (by omega), wrap_succ (by omega), if_pos (by omega), if_pos (by omega), if_pos (by omega), if_pos (by omega), Int.toNat_natCast, Int.toNat_natCast]
        refine Ev.step s2 ?_
        have e1 : (a.extract (n + 1) a.size).data.toList = a.data.toList.drop (n + 1) := Lib.extract_to_end a (n + 1)
        have e2 : (b.extract (m + 1) b.size).data.toList = b.data.toList.drop (m + 1) := Lib.extract_to_end b (m + 1)
        have l1 : (a.extract (n + 1) a.size).size = a.size - (n + 1) := by rw [← len_eq, e1, List.length_drop, len_eq]
        have l2 : (b.extract (m + 1) b.size).size = b.size - (m + 1) := by rw [← len_eq, e2, List.length_drop, len_eq]
        have := ih (a.extract (n + 1) a.size) (b.extract (m + 1) b.size) (by omega) (by omega) (by omega)
        rw [e1, e2] at this
        exact this
theorem refcompare_l0 (x y : List (Nat × List UInt8)) (hx : x.length ≤ 1099511627777) (d : Nat) : ∀ i : Nat, i ≤ x.length → i ≤ y.length → x.length - i = d →
    Ev (fun k => tabularyref08_Compare.l0 k (x.map toS) (y.map toS) (i : Int)) (Nm.cmpL ((x.drop i).map (·.2)) ((y.drop i).map (·.2))) := by
  induction d with
  | zero =>
    intro i hi hj hd
    obtain rfl : i = x.length := by omega
    have s : ∀ k, tabularyref08_Compare.l0 (k + 1) (x.map toS) (y.map toS) (x.length : Int) = tabularyref08_Compare.j1 k (x.map toS) (y.map toS) (x.length : Int) false := fun k => by
      simp only [tabularyref08_Compare.l0, List.length_map]
      rw [if_neg (by omega)]
    refine Ev.step s (Ev.step (fun k => ?_) (Ev.now _))
    simp only [tabularyref08_Compare.j1, Bool.false_eq_true, if_false, List.length_map, List.drop_length, List.map_nil]
    by_cases h : x.length < y.length
    · rw [if_pos (by omega)]
      obtain ⟨z, r, e⟩ : ∃ z r, y.drop x.length = z :: r := ⟨_, _, List.drop_eq_getElem_cons h⟩
      rw [e]; rfl
    · rw [if_neg (by omega), if_neg (by omega)]
      have e : y.drop x.length = [] := List.drop_eq_nil_of_le (by omega)
      rw [e]; rfl
  | succ d ih =>
    intro i hi hj hd
    have h1 : i < x.length := by omega
    rw [List.drop_eq_getElem_cons h1]
    by_cases h2 : i < y.length
    · have s : ∀ k, tabularyref08_Compare.l0 (k + 1) (x.map toS) (y.map toS) (i : Int) = tabularyref08_Compare.j1 k (x.map toS) (y.map toS) (i : Int) true := fun k => by
        simp only [tabularyref08_Compare.l0, List.length_map]
        rw [if_pos (by omega), decide_eq_true (by omega : (i : Int) < (y.length : Int))]
      have s2 : ∀ k, tabularyref08_Compare.j1 (k + 1) (x.map toS) (y.map toS) (i : Int) true = if Op.bytesLess x[i].2 y[i].2 = true then some (-1) else if Op.bytesLess y[i].2 x[i].2 = true then some 1 else tabularyref08_Compare.l0 k (x.map toS) (y.map toS) ((i + 1 : Nat) : Int) := fun k => by
        simp only [tabularyref08_Compare.j1, if_true, List.length_map]
        rw [if_pos (by omega), if_pos (by omega), if_pos (by omega), rd_text x i h1, rd_text y i h2, wrap_succ (by omega)]
      refine Ev.step s ?_
      rw [List.drop_eq_getElem_cons h2]
      rcases cmp_cases x[i].2 y[i].2 with h3 | ⟨h3, h4⟩ | ⟨h3, h4⟩
      · simp only [h3, if_true] at s2
        simp only [List.map_cons, Nm.cmpL, h3, if_true]
        exact Ev.step s2 (Ev.now _)
      · simp only [h3, h4, Bool.false_eq_true, if_false, if_true] at s2
        simp only [List.map_cons, Nm.cmpL, h3, h4, Bool.false_eq_true, if_false, if_true]
        exact Ev.step s2 (Ev.now _)
      · simp only [h3, h4, Bool.false_eq_true, if_false] at s2
        simp only [List.map_cons, Nm.cmpL, h3, h4, Bool.false_eq_true, if_false]
        exact Ev.step s2 (ih (i + 1) (by omega) (by omega) (by omega))
    · have s : ∀ k, tabularyref08_Compare.l0 (k + 1) (x.map toS) (y.map toS) (i : Int) = tabularyref08_Compare.j1 k (x.map toS) (y.map toS) (i : Int) false := fun k => by
        simp only [tabularyref08_Compare.l0, List.length_map]
        rw [if_pos (by omega), decide_eq_false (by omega : ¬ (i : Int) < (y.length : Int))]
      refine Ev.step s (Ev.step (fun k => ?_) (Ev.now _))
      have e : y.drop i = [] := List.drop_eq_nil_of_le (by omega)
      simp only [tabularyref08_Compare.j1, Bool.false_eq_true, if_false, List.length_map, e, List.map_cons, List.map_nil]
      rw [if_neg (by omega), if_pos (by omega)]
      rfl
theorem refcompare_ev (a b : ByteArray) (ha : a.size ≤ 1099511627776) (hb : b.size ≤ 1099511627776) : Ev (fun k => tabularyref08_Compare.f k a b) (Nm.cmpL (Nm.texts a.data.toList) (Nm.texts b.data.toList)) := by
  have h1 := Nm.pieces_length a.data.toList 0
  have h2 := Nm.pieces_length b.data.toList 0
  rw [len_eq] at h1 h2
  exact Ev.congr (fun k => by rw [tabularyref08_Compare.f]) (Ev.bind (pieces_ev a ha) (Ev.bind (pieces_ev b hb) (refcompare_l0 (Nm.pieces 0 a.data.toList) (Nm.pieces 0 b.data.toList) (by omega) _ 0 (by omega) (by omega) rfl)))
end Go.Proofs.YthpecpkncifngaaDoor.Pure
end

/- The contract of tree.Check. -/
section
namespace Go.Proofs.YthpecpkncifngaaDoor.X
open Go.RowKit Go.Shelf Go.Proofs.YthpecpkncifngaaDoor Go.Proofs.YthpecpkncifngaaDoorW.PrintWords Go.Proofs.YthpecpkncifngaaDoorW.PrintLast Go.Proofs.YthpecpkncifngaaDoorW.PrintMore Go.Proofs.YthpecpkncifngaaDoor.Pure
theorem Ev.some_ {α : Type} {g : Nat → Option α} {r : α} (h : Ev g r) : ∃ k, g k = some r := h.imp fun K hK => hK K (Nat.le_refl _)
theorem compare_any (a b : ByteArray) (w : World) (ha : a.size ≤ 140737488355328) (hb : b.size ≤ 140737488355328) :
    Calls Tryd.prog 36 #[.string a, .string b] w fun e w' => e = .returned (.int .i64 (Nm.cmpL (Nm.texts a.data.toList) (Nm.texts b.data.toList))) ∧ ∃ n, w' = w.drewN n := by
  obtain ⟨k, hk⟩ := Ev.some_ (ncompare_l0 a.size a b (Nat.le_refl _) ha hb)
  refine (name_Compare.calls k a b _ w hk).mono ?_
  rintro e w' ⟨rfl, h⟩
  exact ⟨rfl, h.out⟩
theorem up_any (p : ByteArray) (w : World) (hp : p.size ≤ 1099511627776) :
    Calls Tryd.prog 27 #[.string p] w fun e w' => e = .returned (.string (upB p)) ∧ Below w.heap.size w w' := by
  obtain ⟨k, hk⟩ := Ev.some_ (up_ev p hp)
  exact name_Up.calls k p _ w hk
def kd (xs : List S26) : Nat → ByteArray → Int
  | 0, _ => 0
  | k + 1, s => if (rd_T26 xs k).f0 = s then (rd_T26 xs k).f1 else kd xs k s
def kinds (xs : List S26) : Nat → List (ByteArray × Value)
  | 0 => []
  | k + 1 => Mp.mput (kinds xs k) (rd_T26 xs k).f0 (.int .u8 (rd_T26 xs k).f1)
theorem kinds_get (xs : List S26) (k : Nat) (s : ByteArray) : (Mp.mget (kinds xs k) s).getD (.int .u8 0) = .int .u8 (kd xs k s) := by
  induction k with
  | zero => rfl
  | succ k ih =>
    simp only [kinds, Mp.mget_put, kd]
    split
    · rfl
    · exact ih
def cmpA (xs : List S26) (k : Nat) : Int := Nm.cmpL (Nm.texts (rd_T26 xs (k - 1 : Nat)).f0.data.toList) (Nm.texts (rd_T26 xs k).f0.data.toList)
def stepP (xs : List S26) (k : Nat) : Int :=
  if mayP (rd_T26 xs k) ≠ 0 then mayP (rd_T26 xs k) else
  if 0 < k ∧ 0 ≤ cmpA xs k then 111 else
  if (upB (rd_T26 xs k).f0).toList ≠ [] ∧ kd xs k (upB (rd_T26 xs k).f0) ≠ 2 then 112 else
  if (rd_T26 xs k).f1 = 3 ∧ kd xs k (rd_T26 xs k).f5 ≠ 1 then 113 else 0
def chkP (xs : List S26) : Nat → Int × Int
  | k => if h : k < xs.length then (if stepP xs k = 0 then chkP xs (k + 1) else ((k : Int), stepP xs k)) else (0, 0)
termination_by k => xs.length - k
theorem chkP_go {xs : List S26} {k : Nat} (h : k < xs.length) (hs : stepP xs k = 0) : chkP xs k = chkP xs (k + 1) := by rw [chkP, dif_pos h, if_pos hs]
theorem chkP_stop {xs : List S26} {k : Nat} {e : Int} (h : k < xs.length) (hs : stepP xs k = e) (h0 : e ≠ 0) : chkP xs k = ((k : Int), e) := by rw [chkP, dif_pos h, if_neg (by rw [hs]; exact h0), hs]
theorem chkP_end {xs : List S26} {k : Nat} (h : xs.length ≤ k) : chkP xs k = (0, 0) := by rw [chkP, dif_neg (by omega)]
def checkP (xs : List S26) : Int × Int := if 256 < xs.length then (256, 3) else chkP xs 0
theorem may_size {x : S26} (h : mayP x = 0) : x.f0.size ≤ 400 := by
  unfold mayP at h
  split at h
  · rename_i hne
    omega
  · rename_i hne
    have hl := Pure.len_eq x.f0
    unfold Nm.check at hne
    by_cases h4 : 400 < x.f0.data.toList.length
    · rw [if_pos h4] at hne; simp at hne
    · omega
section
variable {xs : List S26} {k : Nat}
theorem step1 (h : mayP (rd_T26 xs k) ≠ 0) : stepP xs k = mayP (rd_T26 xs k) := by rw [stepP, if_pos h]
theorem step2 (h : mayP (rd_T26 xs k) = 0) (h2 : 0 < k ∧ 0 ≤ cmpA xs k) : stepP xs k = 111 := by rw [stepP, if_neg (by simp [h]), if_pos h2]
theorem step3 (h : mayP (rd_T26 xs k) = 0) (h2 : ¬ (0 < k ∧ 0 ≤ cmpA xs k)) (h3 : (upB (rd_T26 xs k).f0).toList ≠ [] ∧ kd xs k (upB (rd_T26 xs k).f0) ≠ 2) : stepP xs k = 112 := by rw [stepP, if_neg (by simp [h]), if_neg h2, if_pos h3]
theorem step4 (h : mayP (rd_T26 xs k) = 0) (h2 : ¬ (0 < k ∧ 0 ≤ cmpA xs k)) (h3 : ¬ ((upB (rd_T26 xs k).f0).toList ≠ [] ∧ kd xs k (upB (rd_T26 xs k).f0) ≠ 2)) (h4 : (rd_T26 xs k).f1 = 3 ∧ kd xs k (rd_T26 xs k).f5 ≠ 1) : stepP xs k = 113 := by rw [stepP, if_neg (by simp [h]), if_neg h2, if_neg h3, if_pos h4]
theorem step5 (h : mayP (rd_T26 xs k) = 0) (h2 : ¬ (0 < k ∧ 0 ≤ cmpA xs k)) (h3 : ¬ ((upB (rd_T26 xs k).f0).toList ≠ [] ∧ kd xs k (upB (rd_T26 xs k).f0) ≠ 2)) (h4 : ¬ ((rd_T26 xs k).f1 = 3 ∧ kd xs k (rd_T26 xs k).f5 ≠ 1)) : stepP xs k = 0 := by rw [stepP, if_neg (by simp [h]), if_neg h2, if_neg h3, if_neg h4]
end
theorem zero23 (w : World) : (zeroValue 23).run Tryd.prog w = .ok (.int .u8 0) w := by kernel_rfl
set_option maxRecDepth 100000 in
set_option maxHeartbeats 4000000 in
theorem check_list (A : Option Addr) (c : Nat) (xs : List S26) (w : World) (hr : Kd.C k26 w A xs.length xs) (hm : xs.length ≤ 256) :
    Calls Tryd.prog 13 #[.slice A xs.length c] w fun e w' => e = .returned (.tuple #[.int .i64 (chkP xs 0).1, .int .i64 (chkP xs 0).2]) ∧ Below w.heap.size w w' := by
  have hmm := @run_makeMap Tryd.prog
  have HR := Aside0.mk hr
  have hd : decide ((256 : Int) < (xs.length : Int)) = false := decide_eq_false (by omega)
  have hd' : decide (256 < xs.length) = false := decide_eq_false (by omega)
  clear hr
  go_enter Tryd.func13, Tryd.ntmps13
  go_wp2
  clear hd hd'
  go_loopw [15] (fun i wr => ∃ k : Nat, k ≤ xs.length ∧ i = .int .i64 k ∧ Hid (chkP xs 0 = chkP xs k) ∧ Aside0 (Below w.heap.size w wr) ∧ Aside0 (Mp.At Mp.strKey wr w.heap.size (kinds xs k)) ∧ Aside0 (0 < k → mayP (rd_T26 xs (k - 1 : Nat)) = 0)) (fun i _ => xs.length - (intOf i).toNat)
  case atStart => exact ⟨0, Nat.zero_le _, rfl, Lib.hid rfl, ⟨(Below.refl _ _).alloc (Nat.le_refl _) _⟩, ⟨Mp.at_made w⟩, ⟨fun h => absurd h (Nat.lt_irrefl 0)⟩⟩
  case round =>
    obtain ⟨k, hk, rfl, hi, hB, hM, hP⟩ := hrel
    by_cases hlt : k < xs.length
    · obtain ⟨ad, A4, c4, rfl, h0, h1, h2, h3, h4, h5, hl, hr4⟩ := at_it HR.out hB.out k hlt
      have HR4 := Aside0.mk hr4
      clear hr4
      go_wp2_with fail
      refine (may_any (rd_T26 xs k) A4 c4 _ hl (Kd.C_below HR4.out ((Below.refl _ _).alloc (Nat.le_refl _) _))).mono ?_
      rintro e w1 ⟨rfl, hb⟩
      obtain ⟨a0, a1, a2, a3, a4, a5, az⟩ := box_it (rd_T26 xs k) A4 c4 hb
      have HB1 := Aside0.mk (hB.out.trans (((Below.refl _ wr).alloc (Nat.le_refl _) _).trans (hb.mono (by simp)) |>.mono hB.out.size))
      have HM1 := Aside0.mk (hM.out.below (((Below.refl _ wr).alloc (Nat.le_refl _) _).trans (hb.mono (by simp))))
      clear hb h0 h1 h2 h3 h4 h5
      by_cases hmay : mayP (rd_T26 xs k) = 0
      case neg =>
        have hne : (mayP (rd_T26 xs k) != 0) = true := by simpa using hmay
        have HI := Lib.hid (hi.out.trans (chkP_stop hlt (step1 hmay) hmay))
        clear hi hmay
        go_wp2
        go_ret2
        exact ⟨by rw [HI.out]; rfl, HB1.out⟩
      have hne : (mayP (rd_T26 xs k) != 0) = false := by simpa using hmay
      have HMay := Lib.hid hmay
      have HSz := Lib.hid (may_size hmay)
      clear hmay
      by_cases hk0 : 0 < k
      · have d0 : decide ((0 : Int) < (k : Int)) = true := decide_eq_true (by omega)
        obtain ⟨ad', A4', c4', ea, p0, -⟩ := at_it HR.out HB1.out (k - 1) (by omega)
        cases ea
        have HPs := Lib.hid (may_size (hP.out hk0))
        by_cases hcm : 0 ≤ cmpA xs k
        · have d1 : decide (0 ≤ Nm.cmpL (Nm.texts (rd_T26 xs (k - 1 : Nat)).f0.data.toList) (Nm.texts (rd_T26 xs k).f0.data.toList)) = true := decide_eq_true hcm
          have HI := Lib.hid (hi.out.trans (chkP_stop hlt (step2 HMay.out ⟨hk0, hcm⟩) (by decide)))
          clear hi hcm
          go_wp2
          go_quiet (exact Calls.quiet_of (compare_any _ _ _ (by have := HPs.out; omega) (by have := HSz.out; omega)))
          go_wp2
          go_ret2
          exact ⟨by rw [HI.out]; rfl, pw_below_drewN HB1.out _⟩
        · have H2 := Lib.hid (show ¬ (0 < k ∧ 0 ≤ cmpA xs k) from fun h => hcm h.2)
          have d1 : decide (0 ≤ Nm.cmpL (Nm.texts (rd_T26 xs (k - 1 : Nat)).f0.data.toList) (Nm.texts (rd_T26 xs k).f0.data.toList)) = false := decide_eq_false hcm
          clear hcm
          go_wp2
          go_quiet (exact Calls.quiet_of (compare_any _ _ _ (by have := HPs.out; omega) (by have := HSz.out; omega)))
          go_wp2_with fail
          refine (up_any _ _ (by have := HSz.out; omega)).mono ?_
          rintro e w2 ⟨rfl, hb⟩
          have st : ∀ {j : Nat} {v : Value}, w1.cell? ⟨wr.heap.size, j, none⟩ = some v → w2.cell? ⟨wr.heap.size, j, none⟩ = some v := fun {j v} hv => (hb.cell (p := ⟨wr.heap.size, j, none⟩) az).trans hv
          have b0 := st a0
          have b1 := st a1
          have b5 := st a5
          have HB2 := Aside0.mk ((pw_below_drewN HB1.out nq).trans (hb.mono HB1.out.size))
          have HM2 := Aside0.mk ((HM1.out.move (W' := w1.drewN nq) rfl).below hb)
          clear hb st a0 a1 a2 a3 a4 a5 HB1 HM1
          have hrun1 : (Instr.lookup 63 (.map (some w.heap.size)) (.string (upB (rd_T26 xs k).f0)) false).run Tryd.prog w2 = .ok (.int .u8 (kd xs k (upB (rd_T26 xs k).f0))) w2 := by
            rw [← kinds_get]; exact HM2.out.lookup (K := Mp.strKey) Tryd.underlying63 Tryd.underlying9 _ zero23 false
          have hrun2 : (Instr.lookup 63 (.map (some w.heap.size)) (.string (rd_T26 xs k).f5) false).run Tryd.prog w2 = .ok (.int .u8 (kd xs k (rd_T26 xs k).f5)) w2 := by
            rw [← kinds_get]; exact HM2.out.lookup (K := Mp.strKey) Tryd.underlying63 Tryd.underlying9 _ zero23 false
          obtain ⟨o, ho, hrun3, hM3⟩ := HM2.out.update (K := Mp.strKey) Tryd.underlying63 Tryd.underlying9 (rd_T26 xs k).f0 (.int .u8 (rd_T26 xs k).f1)
          have HM3 := Aside0.mk hM3
          have hrun4 : (Instr.mapUpdate 63 (.map (some w.heap.size)) (.string (rd_T26 xs k).f0) (.int .u8 (rd_T26 xs k).f1)).run Tryd.prog w2 = .ok () (w2.putObj w.heap.size o) := hrun3
          clear hM3 hrun3
          by_cases k3 : (upB (rd_T26 xs k).f0).toList ≠ [] ∧ kd xs k (upB (rd_T26 xs k).f0) ≠ 2
          · have HI := Lib.hid (hi.out.trans (chkP_stop hlt (step3 HMay.out H2.out k3) (by decide)))
            have e1 : (upB (rd_T26 xs k).f0).toList.isEmpty = false := by simpa using k3.1
            have e2 : (kd xs k (upB (rd_T26 xs k).f0) != 2) = true := by simpa using k3.2
            clear hi k3
            go_wp2
            go_ret2
            exact ⟨by rw [HI.out]; rfl, HB2.out⟩
          have H3 := Lib.hid k3
          have E3 : ((upB (rd_T26 xs k).f0).toList.isEmpty = false ∧ (kd xs k (upB (rd_T26 xs k).f0) != 2) = false) ∨ (upB (rd_T26 xs k).f0).toList.isEmpty = true := by
            by_cases q : (upB (rd_T26 xs k).f0).toList = []
            · right; simpa using q
            · left; exact ⟨by simpa using q, by simpa using fun h => k3 ⟨q, h⟩⟩
          clear k3
          by_cases k4 : (rd_T26 xs k).f1 = 3 ∧ kd xs k (rd_T26 xs k).f5 ≠ 1
          · have HI := Lib.hid (hi.out.trans (chkP_stop hlt (step4 HMay.out H2.out H3.out k4) (by decide)))
            have e3 : ((rd_T26 xs k).f1 == 3) = true := by simpa using k4.1
            have e4 : (kd xs k (rd_T26 xs k).f5 != 1) = true := by simpa using k4.2
            clear hi k4
            rcases E3 with ⟨e1, e2⟩ | e1
            all_goals
              go_wp2
              go_ret2
              exact ⟨by rw [HI.out]; rfl, HB2.out⟩
          have HI := Lib.hid (hi.out.trans (chkP_go hlt (step5 HMay.out H2.out H3.out k4)))
          have E4 : ((rd_T26 xs k).f1 == 3) = false ∨ (((rd_T26 xs k).f1 == 3) = true ∧ (kd xs k (rd_T26 xs k).f5 != 1) = false) := by
            by_cases q : (rd_T26 xs k).f1 = 3
            · right; exact ⟨by simpa using q, by simpa using fun h => k4 ⟨q, h⟩⟩
            · left; simpa using q
          clear hi k4
          rcases E3 with ⟨e1, e2⟩ | e1 <;> rcases E4 with e3 | ⟨e3, e4⟩
          all_goals
            go_wp2
            go_roundw
            case rel => exact ⟨k + 1, by omega, by go_num, HI, ⟨HB2.out.grown (grownBy_putObj' _ _ _) HB2.out.size (fun j hj => by cases hj; exact Nat.le_refl _)⟩, HM3, ⟨fun _ => by rw [Nat.add_sub_cancel]; exact HMay.out⟩⟩
            case measure => simp [intOf]; omega
      · have H2 := Lib.hid (show ¬ (0 < k ∧ 0 ≤ cmpA xs k) from fun h => hk0 h.1)
        have d0 : decide ((0 : Int) < (k : Int)) = false := decide_eq_false (by omega)
        go_wp2
        go_quiet (fail)
        go_wp2_with fail
        refine (up_any _ _ (by have := HSz.out; omega)).mono ?_
        rintro e w2 ⟨rfl, hb⟩
        have st : ∀ {j : Nat} {v : Value}, w1.cell? ⟨wr.heap.size, j, none⟩ = some v → w2.cell? ⟨wr.heap.size, j, none⟩ = some v := fun {j v} hv => (hb.cell (p := ⟨wr.heap.size, j, none⟩) az).trans hv
        have b0 := st a0
        have b1 := st a1
        have b5 := st a5
        have HB2 := Aside0.mk ((pw_below_drewN HB1.out nq).trans (hb.mono HB1.out.size))
        have HM2 := Aside0.mk ((HM1.out.move (W' := w1.drewN nq) rfl).below hb)
        clear hb st a0 a1 a2 a3 a4 a5 HB1 HM1
        have hrun1 : (Instr.lookup 63 (.map (some w.heap.size)) (.string (upB (rd_T26 xs k).f0)) false).run Tryd.prog w2 = .ok (.int .u8 (kd xs k (upB (rd_T26 xs k).f0))) w2 := by
          rw [← kinds_get]; exact HM2.out.lookup (K := Mp.strKey) Tryd.underlying63 Tryd.underlying9 _ zero23 false
        have hrun2 : (Instr.lookup 63 (.map (some w.heap.size)) (.string (rd_T26 xs k).f5) false).run Tryd.prog w2 = .ok (.int .u8 (kd xs k (rd_T26 xs k).f5)) w2 := by
          rw [← kinds_get]; exact HM2.out.lookup (K := Mp.strKey) Tryd.underlying63 Tryd.underlying9 _ zero23 false
        obtain ⟨o, ho, hrun3, hM3⟩ := HM2.out.update (K := Mp.strKey) Tryd.underlying63 Tryd.underlying9 (rd_T26 xs k).f0 (.int .u8 (rd_T26 xs k).f1)
        have HM3 := Aside0.mk hM3
        have hrun4 : (Instr.mapUpdate 63 (.map (some w.heap.size)) (.string (rd_T26 xs k).f0) (.int .u8 (rd_T26 xs k).f1)).run Tryd.prog w2 = .ok () (w2.putObj w.heap.size o) := hrun3
        clear hM3 hrun3
        by_cases k3 : (upB (rd_T26 xs k).f0).toList ≠ [] ∧ kd xs k (upB (rd_T26 xs k).f0) ≠ 2
        · have HI := Lib.hid (hi.out.trans (chkP_stop hlt (step3 HMay.out H2.out k3) (by decide)))
          have e1 : (upB (rd_T26 xs k).f0).toList.isEmpty = false := by simpa using k3.1
          have e2 : (kd xs k (upB (rd_T26 xs k).f0) != 2) = true := by simpa using k3.2
          clear hi k3
          go_wp2
          go_ret2
          exact ⟨by rw [HI.out]; rfl, HB2.out⟩
        have H3 := Lib.hid k3
        have E3 : ((upB (rd_T26 xs k).f0).toList.isEmpty = false ∧ (kd xs k (upB (rd_T26 xs k).f0) != 2) = false) ∨ (upB (rd_T26 xs k).f0).toList.isEmpty = true := by
          by_cases q : (upB (rd_T26 xs k).f0).toList = []
          · right; simpa using q
          · left; exact ⟨by simpa using q, by simpa using fun h => k3 ⟨q, h⟩⟩
        clear k3
        by_cases k4 : (rd_T26 xs k).f1 = 3 ∧ kd xs k (rd_T26 xs k).f5 ≠ 1
        · have HI := Lib.hid (hi.out.trans (chkP_stop hlt (step4 HMay.out H2.out H3.out k4) (by decide)))
          have e3 : ((rd_T26 xs k).f1 == 3) = true := by simpa using k4.1
          have e4 : (kd xs k (rd_T26 xs k).f5 != 1) = true := by simpa using k4.2
          clear hi k4
          rcases E3 with ⟨e1, e2⟩ | e1
          all_goals
            go_wp2
            go_ret2
            exact ⟨by rw [HI.out]; rfl, HB2.out⟩
        have HI := Lib.hid (hi.out.trans (chkP_go hlt (step5 HMay.out H2.out H3.out k4)))
        have E4 : ((rd_T26 xs k).f1 == 3) = false ∨ (((rd_T26 xs k).f1 == 3) = true ∧ (kd xs k (rd_T26 xs k).f5 != 1) = false) := by
          by_cases q : (rd_T26 xs k).f1 = 3
          · right; exact ⟨by simpa using q, by simpa using fun h => k4 ⟨q, h⟩⟩
          · left; simpa using q
        clear hi k4
        rcases E3 with ⟨e1, e2⟩ | e1 <;> rcases E4 with e3 | ⟨e3, e4⟩
        all_goals
          go_wp2
          go_roundw
          case rel => exact ⟨k + 1, by omega, by go_num, HI, ⟨HB2.out.grown (grownBy_putObj' _ _ _) HB2.out.size (fun j hj => by cases hj; exact Nat.le_refl _)⟩, HM3, ⟨fun _ => by rw [Nat.add_sub_cancel]; exact HMay.out⟩⟩
          case measure => simp [intOf]; omega
    · have HI := Lib.hid (hi.out.trans (chkP_end (by omega)))
      clear hi
      go_wp2
      go_ret2
      exact ⟨by rw [HI.out]; rfl, hB.out⟩
theorem check_tree (A : Option Addr) (c : Nat) (xs : List S26) (w : World) (hr : Kd.C k26 w A xs.length xs) :
    Calls Tryd.prog 13 #[.slice A xs.length c] w fun e w' => e = .returned (.tuple #[.int .i64 (checkP xs).1, .int .i64 (checkP xs).2]) ∧ Below w.heap.size w w' := by
  by_cases h : 256 < xs.length
  · have hd : decide ((256 : Int) < (xs.length : Int)) = true := decide_eq_true (by omega)
    have hd' : decide (256 < xs.length) = true := decide_eq_true (by omega)
    have H := Lib.hid h
    clear h hr
    go_enter Tryd.func13, Tryd.ntmps13
    go_wp2
    go_ret2
    exact ⟨by unfold checkP; rw [if_pos H.out]; rfl, Below.refl _ _⟩
  · unfold checkP
    rw [if_neg h]
    exact check_list A c xs w hr (by omega)
end Go.Proofs.YthpecpkncifngaaDoor.X
end

/- The contracts of slices.Clip, tree.own and tree.some. -/
section
namespace Go.Proofs.YthpecpkncifngaaDoor.X
open Go.RowKit Go.Shelf Go.Proofs.YthpecpkncifngaaDoor Go.Proofs.YthpecpkncifngaaDoorW.PrintWords Go.Proofs.YthpecpkncifngaaDoorW.PrintLast Go.Proofs.YthpecpkncifngaaDoorW.PrintMore Go.Proofs.YthpecpkncifngaaDoor.Pure
theorem clip_bytes (A : Option Addr) (n c : Nat) (w : World) (hc : n ≤ c) (hn : c ≤ 9223372036854775807) :
    Calls Tryd.prog 82 #[.slice A n c] w fun e w' => e = .returned (.slice A n n) ∧ w' = w := by
  go_enter Tryd.func82, Tryd.ntmps82
  go_wp2
  go_ret
  exact ⟨rfl, rfl⟩
theorem cells_grown {W w1 : World} {g t : Nat} {cs : Array Value} (h : W.heap[g]? = some (.cells cs t (0, 0))) (hg : W.grownBy w1 none) : w1.heap[g]? = some (.cells cs t (0, 0)) := blk_grown h hg (by simp)
set_option maxRecDepth 100000 in
set_option maxHeartbeats 4000000 in
theorem own_any (x : S26) (A4 : Option Addr) (c4 : Nat) (w : World) (hl : x.f4.length ≤ c4) (hm : x.f4.length ≤ 140737488355328) (hr : (Kd.int .u8).C w A4 x.f4.length x.f4) :
    Calls Tryd.prog 56 #[.agg (cellsIt x A4 c4)] w fun e w' => (∃ A, e = .returned (.agg (cellsIt x A x.f4.length)) ∧ Kd.F (Kd.int .u8) w' (fun k => w.heap.size ≤ k) A x.f4.length x.f4) ∧ Below w.heap.size w w' := by
  have HR := Aside0.mk hr
  clear hr
  unfold cellsIt
  go_enter Tryd.func56, Tryd.ntmps56
  go_wp2_with (refine Kd.R_append_rows (Kd.int .u8) (w0 := w) w.heap.size rfl _ _ 24 5 (.int .u8 0) 1 rfl Tryd.underlying24 info5 rfl (by decide) (by decide) (.slice none 0 0) [] x.f4 A4 x.f4.length c4 (fun k => w.heap.size + 2 ≤ k) (fun _ => False) rfl rfl (Kd.R_nil _ _ _ _ _) (Kd.C_below HR.out (((Below.refl _ w).alloc (Nat.le_refl _) _).alloc (by simp) _)) (fun _ _ h => h) (fun _ h => h.elim) (fun k h => by simp at h; omega) (((Below.refl _ w).alloc (Nat.le_refl _) _).alloc (by simp) _) (by simp; omega) (by simp; omega) ?_)
  intro v1 w1 hR hB hg hat
  obtain ⟨A, c, rfl, hc, hC⟩ := Kd.R_reads hR
  have hcm : c ≤ 9223372036854775807 := by
    obtain ⟨inner, ho⟩ := Kd.R_own hR
    rcases ho.2 with ⟨he, h0⟩ | ⟨g, cap, cur, he, _, _, _, hcm, _⟩
    · injection he with _ _ e3; omega
    · injection he with _ _ e3; unfold maxLen at hcm; omega
  have k0 : w1.heap[w.heap.size]? = some (.cells #[.string x.f0, .int .u8 x.f1, .int .i64 x.f2, .int .i64 x.f3, .slice A4 x.f4.length c4, .string x.f5] 26 (0, 0)) := by
    refine cells_grown ?_ hg
    exact ((Below.refl _ (w.alloc (.cells #[.string x.f0, .int .u8 x.f1, .int .i64 x.f2, .int .i64 x.f3, .slice A4 x.f4.length c4, .string x.f5] 26))).alloc (Nat.le_refl _) _).block w.heap.size (by simp) |>.trans (blk_new w _)
  have k1 : w1.heap[w.heap.size + 1]? = some (.cells #[.string ⟨#[]⟩, .int .u8 0, .int .i64 0, .int .i64 0, .slice none 0 0, .string ⟨#[]⟩] 26 (0, 0)) := by
    refine cells_grown ?_ hg
    have := blk_new (w.alloc (.cells #[.string x.f0, .int .u8 x.f1, .int .i64 x.f2, .int .i64 x.f3, .slice A4 x.f4.length c4, .string x.f5] 26)) (.cells #[.string ⟨#[]⟩, .int .u8 0, .int .i64 0, .int .i64 0, .slice none 0 0, .string ⟨#[]⟩] 26)
    rw [World.size_alloc] at this
    exact this
  have c00 := (blk_cell k0 0).trans rfl
  have c01 := (blk_cell k0 1).trans rfl
  have c02 := (blk_cell k0 2).trans rfl
  have c03 := (blk_cell k0 3).trans rfl
  have c04 := (blk_cell k0 4).trans rfl
  have c05 := (blk_cell k0 5).trans rfl
  have f04 := blk_frozen k0 4
  have c10 := (blk_cell k1 0).trans rfl
  have c11 := (blk_cell k1 1).trans rfl
  have c12 := (blk_cell k1 2).trans rfl
  have c13 := (blk_cell k1 3).trans rfl
  have c14 := (blk_cell k1 4).trans rfl
  have c15 := (blk_cell k1 5).trans rfl
  have f10 := blk_frozen k1 0
  have f11 := blk_frozen k1 1
  have f12 := blk_frozen k1 2
  have f13 := blk_frozen k1 3
  have f14 := blk_frozen k1 4
  have f15 := blk_frozen k1 5
  have HRR := Aside0.mk hR
  have HB := Aside0.mk hB
  have HG := Aside0.mk hg
  clear hR hB hg hat k0 k1 hC
  go_wp2_with fail
  refine (clip_bytes A x.f4.length c _ hc hcm).mono ?_
  rintro e w2 ⟨rfl, rfl⟩
  go_wp2
  have hF0 := Kd.R_F HRR.out
  have hok0 : ∀ k, w.heap.size + 2 ≤ k → ∀ j, k ≠ (⟨w.heap.size, j, none⟩ : Addr).block := fun k hk j => by simp; omega
  have hok1 : ∀ k, w.heap.size + 2 ≤ k → ∀ j, k ≠ (⟨w.heap.size + 1, j, none⟩ : Addr).block := fun k hk j => by simp; omega
  refine bodyPost_ret (v := .agg #[.string x.f0, .int .u8 x.f1, .int .i64 x.f2, .int .i64 x.f3, .slice A x.f4.length x.f4.length, .string x.f5]) (by simp [results, Tryd.results56, go_sem, c00, c01, c02, c03, c04, c05, c10, c11, c12, c13, c14, c15]) rfl ⟨⟨A, rfl, ?_⟩, ?_⟩
  · refine Kd.F_mono ?_ (fun k (hk : w.heap.size + 2 ≤ k) => (by omega : w.heap.size ≤ k))
    exact Kd.F_far (Kd.F_far (Kd.F_far (Kd.F_far (Kd.F_far (Kd.F_far (Kd.F_far (Kd.F_far hF0 (fun k hk => hok0 k hk 4) _) (fun k hk => hok0 k hk 4) _) (fun k hk => hok1 k hk 0) _) (fun k hk => hok1 k hk 1) _) (fun k hk => hok1 k hk 2) _) (fun k hk => hok1 k hk 3) _) (fun k hk => hok1 k hk 4) _) (fun k hk => hok1 k hk 5) _
  · exact below_set (below_set (below_set (below_set (below_set (below_set (below_set (below_set HB.out (Nat.le_refl _)) (Nat.le_refl _)) (Nat.le_succ _)) (Nat.le_succ _)) (Nat.le_succ _)) (Nat.le_succ _)) (Nat.le_succ _)) (Nat.le_succ _)
theorem N_cap {α : Type} {d : Kd α} {e : Nat} {w : World} {base : Nat} {ok : Nat → Prop} {v : Value} {xs : List α} (h : Kd.N d e w base ok v xs) : ∃ A c, v = .slice A xs.length c ∧ xs.length ≤ c ∧ c ≤ 9223372036854775807 := by
  obtain ⟨A, c, rfl, hc, _⟩ := Kd.N_reads h
  refine ⟨A, c, rfl, hc, ?_⟩
  obtain ⟨_, rows, _, hR, _⟩ := h
  obtain ⟨inner, ho⟩ := Kd.R_own hR
  rcases ho.2 with ⟨he, h0⟩ | ⟨g, cap, cur, he, _, _, _, hcm, _⟩
  · injection he with _ _ e3; omega
  · injection he with _ _ e3; unfold maxLen at hcm; omega
end Go.Proofs.YthpecpkncifngaaDoor.X
end

/- Copies and appends of wide elements; a row of one's own that reads foreign elements. No program. -/
section
namespace Go.Proofs.YthpecpkncifngaaDoor.X
open Go Go.RowKit Go.Shelf Go.Proofs.YthpecpkncifngaaDoorW.PrintWords
theorem Reps.take_ {α : Type} {R : α → List Value → Prop} {size : Nat} {ps : List α} {cs : List Value} (h : Reps R size ps cs) (i : Nat) (hi : i ≤ ps.length) : Reps R size (ps.take i) (cs.take (i * size)) := by
  refine ⟨by rw [List.length_take, List.length_take, h.1, Nat.min_eq_left hi, Nat.min_eq_left (Nat.mul_le_mul_right _ hi)], fun j p hj => ?_⟩
  have hji : j < i := by have := (List.getElem?_eq_some_iff.1 hj).1; rw [List.length_take] at this; omega
  rw [List.getElem?_take_of_lt hji] at hj
  have := h.2 j p hj
  have h2 : j * size + size ≤ i * size := by rw [← Nat.succ_mul]; exact Nat.mul_le_mul_right _ hji
  rw [List.drop_take, List.take_take, Nat.min_eq_left (by omega)]
  exact this
theorem Reps.one_ {α : Type} {d : Kd α} {W : World} {ok : Nat → Prop} {xs : List α} {inner : List Value} (h : Reps (Kd.FK d W ok) d.sz xs inner) : ∀ v ∈ inner, v.oneCell' = true := by
  intro v hv
  obtain ⟨k, hk, rfl⟩ := List.getElem_of_mem hv
  have hs : 0 < d.sz := by
    rcases Nat.eq_zero_or_pos d.sz with h0 | h0
    · have := h.1; rw [h0, Nat.mul_zero] at this; omega
    · exact h0
  have hkl : k / d.sz < xs.length := by rw [Nat.div_lt_iff_lt_mul hs, ← h.1]; exact hk
  have hK := Kd.FK_now (h.2 (k / d.sz) _ (List.getElem?_eq_getElem hkl))
  refine d.K_one hK _ ?_
  refine List.mem_iff_getElem?.2 ⟨k % d.sz, ?_⟩
  rw [List.getElem?_take_of_lt (Nat.mod_lt _ hs), List.getElem?_drop, Nat.mul_comm, Nat.div_add_mod]
  exact List.getElem?_eq_getElem hk
end Go.Proofs.YthpecpkncifngaaDoor.X
end

/- The contracts of tree.byPath, slices.BinarySearchFunc. -/
section
namespace Go.Proofs.YthpecpkncifngaaDoor.X
open Go Go.RowKit Go.Shelf Go.Proofs.YthpecpkncifngaaDoor Go.Proofs.YthpecpkncifngaaDoorW.PrintWords Go.Proofs.YthpecpkncifngaaDoorW.PrintLast Go.Proofs.YthpecpkncifngaaDoorW.PrintMore Go.Proofs.YthpecpkncifngaaDoor.Pure
def cmpI (x y : S26) : Int := Nm.cmpL (Nm.texts x.f0.data.toList) (Nm.texts y.f0.data.toList)
theorem rd_get (xs : List S26) (k : Nat) (h : k < xs.length) : rd_T26 xs k = xs[k] := by
  unfold rd_T26
  rw [Int.toNat_natCast, List.getD_eq_getElem?_getD, List.getElem?_eq_getElem h]; rfl
end Go.Proofs.YthpecpkncifngaaDoor.X
end

/- NameJoins: the pure statement. -/
section
namespace Go.Proofs.YthpecpkncifngaaDoor.Pure
open Go.RowKit Go.Proofs.YthpecpkncifngaaDoor.X Go.Proofs.YthpecpkncifngaaDoorW.PrintWords Go.Proofs.YthpecpkncifngaaDoorW.PrintLast Go.Proofs.YthpecpkncifngaaDoorW.PrintMore
open Go.Proofs.YthpecpkncifngaaDoor
def tot (l : List ByteArray) : Nat := (l.map fun x => x.size + 1).sum
theorem tot_cons (x : ByteArray) (l : List ByteArray) : tot (x :: l) = x.size + 1 + tot l := by simp [tot]
theorem tot_append (a b : List ByteArray) : tot (a ++ b) = tot a + tot b := by simp [tot]
theorem tot_len (l : List ByteArray) : l.length ≤ tot l := by
  induction l with
  | nil => simp [tot]
  | cons x l ih => rw [tot_cons, List.length_cons]; omega
def jl (l : List ByteArray) : List UInt8 := Nm.joinT (l.map (·.data.toList))
theorem join_eq (l : List (List UInt8)) : Lib.join l [47] = Nm.joinT l := by
  induction l with
  | nil => rfl
  | cons x l ih =>
    cases l with
    | nil => simp [Lib.join, List.intercalate, Nm.joinT]
    | cons y r =>
      simp only [Lib.join, List.intercalate, List.intersperse] at ih ⊢
      simp only [Nm.joinT]
      rw [← ih]
      simp
theorem jl_len : ∀ (l : List ByteArray), l ≠ [] → (jl l).length + 1 = tot l
  | [x], _ => by simp [jl, Nm.joinT, tot]
  | x :: y :: r, _ => by
    have := jl_len (y :: r) (by simp)
    rw [tot_cons, ← this]
    simp only [jl, List.map_cons, Nm.joinT, List.length_append, List.length_cons, len_eq]
    omega
theorem jl_snoc (l : List ByteArray) (x : ByteArray) (h : l ≠ []) : jl (l ++ [x]) = jl l ++ 47 :: x.data.toList := by
  unfold jl
  rw [List.map_append, Nm.joinT_append _ _ (by simpa using h) (by simp)]
  rfl
theorem rdOf_at (l : List ByteArray) (i : Nat) (h : i < l.length) : rdOf ByteArray.empty l (i : Int) = l[i] := by
  simp [rdOf, List.getD_eq_getElem?_getD, h]
theorem bytes_app (a b : ByteArray) : (a ++ b).data.toList = a.data.toList ++ b.data.toList := by simp
theorem joined_l0 (l : List ByteArray) (ht : tot l ≤ 4294967296) (d : Nat) : ∀ (i : Nat) (s : ByteArray), i ≤ l.length → l.length - i = d → s.data.toList = jl (l.take i) →
    Ev (fun k => tabularyref08_Joined.l0 k l s (i : Int)) (bytesOfL (jl l)) := by
  induction d with
  | zero =>
    intro i s hi hd hs
    obtain rfl : i = l.length := by omega
    refine Ev.step (fun k => ?_) (Ev.now _)
    simp only [tabularyref08_Joined.l0]
    rw [if_neg (by omega)]
    rw [List.take_length] at hs
    congr 1
    exact ByteArray.ext (Array.toList_inj.1 hs)
  | succ d ih =>
    intro i s hi hd hs
    have hlt : i < l.length := by omega
    have hw : wrap64 ((i : Int) + 1) = ((i + 1 : Nat) : Int) := wrap_succ (by have := tot_len l; omega)
    have hsz : s.size = (jl (l.take i)).length := by rw [← len_eq, hs]
    have htk : l.take (i + 1) = l.take i ++ [l[i]] := by rw [List.take_add_one, List.getElem?_eq_getElem hlt]; rfl
    have hT : tot (l.take i) + (l[i].size + 1) ≤ tot l := by
      have := congrArg tot (List.take_append_drop i l)
      rw [tot_append, List.drop_eq_getElem_cons hlt, tot_cons] at this
      omega
    by_cases h0 : i = 0
    · subst h0
      have hs0 : s.data.toList = [] := by rw [hs]; rfl
      have hz : s.size = 0 := by rw [← len_eq, hs0]; rfl
      have st : ∀ k, tabularyref08_Joined.l0 (k + 1) l s ((0 : Nat) : Int) = tabularyref08_Joined.l0 k l (s ++ l[0]) ((0 + 1 : Nat) : Int) := fun k => by
        simp only [tabularyref08_Joined.l0]
        rw [if_pos (by omega), if_neg (by omega), if_pos (by omega), rdOf_at l 0 hlt, if_pos (by omega), hw]
      refine Ev.step st (ih 1 _ (by omega) (by omega) ?_)
      rw [bytes_app, hs0, htk]
      simp [jl, Nm.joinT]
    · have hne : l.take i ≠ [] := by
        intro e
        have := congrArg List.length e
        rw [List.length_take] at this
        simp only [List.length_nil] at this
        omega
      have hj := jl_len (l.take i) hne
      have hsz2 : (s ++ (⟨#[47]⟩ : ByteArray)).size = s.size + 1 := by rw [← len_eq, bytes_app, List.length_append, len_eq]; rfl
      have st : ∀ k, tabularyref08_Joined.l0 (k + 1) l s (i : Int) = tabularyref08_Joined.l0 k l ((s ++ (⟨#[47]⟩ : ByteArray)) ++ l[i]) ((i + 1 : Nat) : Int) := fun k => by
        simp only [tabularyref08_Joined.l0]
        rw [if_pos (by omega), if_pos (by omega), if_pos (by omega), if_pos (by omega), rdOf_at l i hlt, if_pos (by omega), hw]
      refine Ev.step st (ih (i + 1) _ (by omega) (by omega) ?_)
      rw [bytes_app, bytes_app, hs, htk, jl_snoc _ _ hne]
      simp
theorem joined_ev (l : List ByteArray) (ht : tot l ≤ 4294967296) : Ev (fun k => tabularyref08_Joined.f k l) (bytesOfL (jl l)) :=
  joined_l0 l ht l.length 0 ⟨#[]⟩ (by omega) (by omega) rfl
end Go.Proofs.YthpecpkncifngaaDoor.Pure
end

/- NameLeads: the pure statement. -/
section
namespace Go.Proofs.YthpecpkncifngaaDoor.Pure
open Go.RowKit Go.Proofs.YthpecpkncifngaaDoor.X Go.Proofs.YthpecpkncifngaaDoorW.PrintWords Go.Proofs.YthpecpkncifngaaDoorW.PrintLast Go.Proofs.YthpecpkncifngaaDoorW.PrintMore
open Go.Proofs.YthpecpkncifngaaDoor
theorem tot_texts (L : List (List UInt8)) : tot (L.map bytesOfL) = Nm.totL L := by
  induction L with
  | nil => rfl
  | cons x r ih => rw [List.map_cons, tot_cons, ih, bytes_size]; simp [Nm.totL]
theorem jl_texts (L : List (List UInt8)) : jl (L.map bytesOfL) = Nm.joinT L := by
  unfold jl
  rw [List.map_map]
  have : ((fun x : ByteArray => x.data.toList) ∘ bytesOfL) = id := rfl
  rw [this, List.map_id]
def ledI (o : Option (List (List UInt8))) : ByteArray × Int := (bytesOfL (Nm.led o).1, ((Nm.led o).2 : Int))
theorem wrap_pred {n : Nat} (h1 : 1 ≤ n) (h : n ≤ 9223372036854775807) : wrap64 ((n : Int) - 1) = ((n - 1 : Nat) : Int) := by unfold wrap64; omega
theorem rd_f1 (l : List (Nat × List UInt8)) (i : Nat) (h : i < l.length) : (rd_T99 (l.map toS) (i : Int)).f1 = bytesOfL l[i].2 := by rw [rd_map l i h]; rfl
theorem toList_of (l : List UInt8) : (bytesOfL l).toList = l := by rw [toList_eq]; rfl
theorem totL_len (L : List (List UInt8)) : L.length ≤ Nm.totL L := by
  induction L with
  | nil => exact Nat.le_refl _
  | cons x r ih => simp only [Nm.totL, List.map_cons, List.sum_cons, List.length_cons] at ih ⊢; omega
theorem reflead_j2 (L : List (List UInt8)) (m : List (Nat × List UInt8)) (i : Nat) (x : List UInt8) (r : ByteArray × Int) (b : Bool) (hi : i < 1099511627777) (hL : L.length < 8796093022208)
    (h1 : b = true → Ev (fun k => tabularyref08_Lead.l1 k (L.map bytesOfL) (m.map toS) ((i + 1 : Nat) : Int)) r)
    (h2 : b = false → x = [46, 46] → L = [] → r = (⟨#[]⟩, 83))
    (h3 : b = false → x = [46, 46] → L ≠ [] → Ev (fun k => tabularyref08_Lead.l1 k (L.dropLast.map bytesOfL) (m.map toS) ((i + 1 : Nat) : Int)) r)
    (h4 : b = false → x ≠ [46, 46] → Ev (fun k => tabularyref08_Lead.l1 k ((L ++ [x]).map bytesOfL) (m.map toS) ((i + 1 : Nat) : Int)) r) :
    Ev (fun k => tabularyref08_Lead.j2 k (L.map bytesOfL) (m.map toS) (i : Int) (bytesOfL x) b) r := by
  have hw : wrap64 ((i : Int) + 1) = ((i + 1 : Nat) : Int) := wrap_succ (by omega)
  cases b with
  | true =>
    refine Ev.step (fun k => ?_) (h1 rfl)
    rw [tabularyref08_Lead.j2, if_pos rfl, hw]
  | false =>
    by_cases hx : x = [46, 46]
    · by_cases hl : L = []
      · rw [h2 rfl hx hl]
        refine Ev.step (fun k => ?_) (Ev.now _)
        rw [tabularyref08_Lead.j2, if_neg (by decide), toList_of, if_pos hx, if_pos (by rw [hl]; rfl)]
      · refine Ev.step (fun k => ?_) (h3 rfl hx hl)
        have h0 : 1 ≤ (L.map bytesOfL).length := by rw [List.length_map]; exact List.length_pos_iff.2 hl
        have hm : (L.map bytesOfL).length = L.length := List.length_map _
        have hp : wrap64 (((L.map bytesOfL).length : Int) - 1) = (((L.map bytesOfL).length - 1 : Nat) : Int) := wrap_pred h0 (by omega)
        rw [tabularyref08_Lead.j2, if_neg (by decide), toList_of, if_pos hx, if_neg (by omega), hp, if_pos (by omega), if_pos (by omega), hw, Int.toNat_natCast, hm, ← List.map_take, List.dropLast_eq_take]
    · refine Ev.step (fun k => ?_) (h4 rfl hx)
      rw [tabularyref08_Lead.j2, if_neg (by decide), toList_of, if_neg hx, if_pos (by rw [List.length_map]; exact hL), hw, List.map_append]
      rfl
theorem reflead_l1 (m : List (Nat × List UInt8)) (hm : m.length ≤ 1099511627776) (d : Nat) : ∀ (i : Nat) (L : List (List UInt8)), i ≤ m.length → m.length - i = d → Nm.totL L + Nm.totL ((m.drop i).map (·.2)) ≤ 4294967296 →
    Ev (fun k => tabularyref08_Lead.l1 k (L.map bytesOfL) (m.map toS) (i : Int)) (ledI (Nm.way L ((m.drop i).map (·.2)))) := by
  induction d with
  | zero =>
    intro i L hi hd ht
    obtain rfl : i = m.length := by omega
    rw [List.drop_length] at ht ⊢
    have s : ∀ k, tabularyref08_Lead.l1 (k + 1) (L.map bytesOfL) (m.map toS) (m.length : Int) = (tabularyref08_Joined.f k (L.map bytesOfL)).bind fun t => some (t, 0) := fun k => by
      simp only [tabularyref08_Lead.l1, List.length_map]
      rw [if_neg (by omega)]
    refine Ev.step s (Ev.bind (joined_ev (L.map bytesOfL) (by rw [tot_texts]; omega)) ?_)
    rw [jl_texts]
    exact Ev.now _
  | succ d ih =>
    intro i L hi hd ht
    have h1 : i < m.length := by omega
    rw [List.drop_eq_getElem_cons h1, List.map_cons] at ht ⊢
    have hx0 : Nm.totL (m[i].2 :: (m.drop (i + 1)).map (·.2)) = m[i].2.length + 1 + Nm.totL ((m.drop (i + 1)).map (·.2)) := by simp [Nm.totL]
    rw [hx0] at ht
    have hLl : L.length < 8796093022208 := by have := totL_len L; omega
    have hdl := Nm.totL_dropLast L
    have hap : Nm.totL (L ++ [m[i].2]) = Nm.totL L + (m[i].2.length + 1) := by rw [Nm.totL_append]; simp [Nm.totL]
    have s0 : ∀ k, tabularyref08_Lead.l1 (k + 1) (L.map bytesOfL) (m.map toS) (i : Int) = if m[i].2 = [] then tabularyref08_Lead.j2 k (L.map bytesOfL) (m.map toS) (i : Int) (bytesOfL m[i].2) true else tabularyref08_Lead.j2 k (L.map bytesOfL) (m.map toS) (i : Int) (bytesOfL m[i].2) (m[i].2 == [46]) := fun k => by
      simp only [tabularyref08_Lead.l1, List.length_map]
      rw [if_pos (by omega), if_pos (by omega), rd_f1 m i h1, toList_of]
    by_cases e1 : m[i].2 = []
    · have hway : Nm.way L (m[i].2 :: (m.drop (i + 1)).map (·.2)) = Nm.way L ((m.drop (i + 1)).map (·.2)) := by rw [Nm.way, if_pos (.inl e1)]
      rw [hway]
      refine Ev.step (fun k => by rw [s0, if_pos e1]) (reflead_j2 L m i _ _ true (by omega) hLl (fun _ => ih (i + 1) L (by omega) (by omega) (by omega)) (by simp) (by simp) (by simp))
    · by_cases e2 : m[i].2 = [46]
      · have hway : Nm.way L (m[i].2 :: (m.drop (i + 1)).map (·.2)) = Nm.way L ((m.drop (i + 1)).map (·.2)) := by rw [Nm.way, if_pos (.inr e2)]
        rw [hway]
        refine Ev.step (fun k => by rw [s0, if_neg e1, beq_iff_eq.2 e2]) (reflead_j2 L m i _ _ true (by omega) hLl (fun _ => ih (i + 1) L (by omega) (by omega) (by omega)) (by simp) (by simp) (by simp))
      · have hb : (m[i].2 == [46]) = false := by simpa using e2
        refine Ev.step (fun k => by rw [s0, if_neg e1, hb]) (reflead_j2 L m i _ _ false (by omega) hLl (by simp) ?_ ?_ ?_)
        · intro _ h2 h3
          rw [Nm.way, if_neg (by simp [e1, e2]), if_pos h2, if_pos h3]
          rfl
        · intro _ h2 h3
          rw [Nm.way, if_neg (by simp [e1, e2]), if_pos h2, if_neg h3]
          exact ih (i + 1) L.dropLast (by omega) (by omega) (by omega)
        · intro _ h2
          rw [Nm.way, if_neg (by simp [e1, e2]), if_neg h2]
          exact ih (i + 1) (L ++ [m[i].2]) (by omega) (by omega) (by omega)
theorem reflead_l0 (q : ByteArray) (hq : q.size ≤ 400) (l : List (Nat × List UInt8)) (hl : l.length ≤ 1048577) (ht : Nm.totL (l.map (·.2)) ≤ 1048577) (d : Nat) : ∀ i : Nat, i + 1 ≤ l.length → l.length - (i + 1) = d →
    Ev (fun k => tabularyref08_Lead.l0 k q (((l.take i).map (·.2)).map bytesOfL) (l.map toS) (i : Int)) (ledI (Nm.way ((l.map (·.2)).dropLast) (Nm.texts q.data.toList))) := by
  induction d with
  | zero =>
    intro i hi hd
    have hw : wrap64 ((i : Int) + 1) = ((i + 1 : Nat) : Int) := wrap_succ (by omega)
    have s : ∀ k, tabularyref08_Lead.l0 (k + 1) q (((l.take i).map (·.2)).map bytesOfL) (l.map toS) (i : Int) = (tabularyref08_Pieces.f k q).bind fun t => tabularyref08_Lead.l1 k (((l.take i).map (·.2)).map bytesOfL) t 0 := fun k => by
      simp only [tabularyref08_Lead.l0, List.length_map]
      rw [hw, if_neg (by omega)]
    refine Ev.step s (Ev.bind (pieces_ev q (by omega)) ?_)
    have e : (l.take i).map (·.2) = (l.map (·.2)).dropLast := by
      rw [List.dropLast_eq_take, List.length_map, List.map_take]
      congr 1
      omega
    rw [e]
    have hlq := len_eq q
    have h2 := Nm.pieces_length q.data.toList 0
    have h3 := Nm.totL_texts q.data.toList
    have h4 := Nm.totL_dropLast (l.map (·.2))
    have := reflead_l1 (Nm.pieces 0 q.data.toList) (by omega) _ 0 ((l.map (·.2)).dropLast) (by omega) rfl (by
      show _ + Nm.totL (Nm.texts q.data.toList) ≤ _
      omega)
    exact this
  | succ d ih =>
    intro i hi hd
    have hw : wrap64 ((i : Int) + 1) = ((i + 1 : Nat) : Int) := wrap_succ (by omega)
    have h1 : i < l.length := by omega
    have s : ∀ k, tabularyref08_Lead.l0 (k + 1) q (((l.take i).map (·.2)).map bytesOfL) (l.map toS) (i : Int) = tabularyref08_Lead.l0 k q (((l.take (i + 1)).map (·.2)).map bytesOfL) (l.map toS) ((i + 1 : Nat) : Int) := fun k => by
      simp only [tabularyref08_Lead.l0, List.length_map]
      rw [hw, if_pos (by omega), if_pos (by omega), if_pos (by omega), if_pos (by rw [List.length_take]; omega), rd_f1 l i h1, List.take_add_one, List.getElem?_eq_getElem h1]
      simp only [Option.toList_some, List.map_append, List.map_cons, List.map_nil]
    exact Ev.step s (ih (i + 1) (by omega) (by omega))
theorem reflead_ev (p q : ByteArray) : Ev (fun k => tabularyref08_Lead.f k p q) (bytesOfL (Nm.lead p.data.toList q.data.toList).1, ((Nm.lead p.data.toList q.data.toList).2 : Int)) := by
  have hlq := len_eq q
  have hlp := len_eq p
  refine Ev.congr (fun k => by rw [tabularyref08_Lead.f]) (Ev.bind (refcheck_ev p) ?_)
  by_cases h1 : (Nm.check p.data.toList).2 = 0
  · refine Ev.congr (fun k => by rw [if_pos (by simp [h1])]) ?_
    rw [toList_eq]
    by_cases h2 : q.data.toList = []
    · have e : Nm.lead p.data.toList q.data.toList = ([], 80) := by simp only [Nm.lead, h1, h2, ne_eq, not_true_eq_false, if_true, if_false]
      rw [e]
      exact Ev.congr (fun k => by rw [if_pos h2]; rfl) (Ev.now _)
    · by_cases h3 : 400 < q.data.toList.length
      · have e : Nm.lead p.data.toList q.data.toList = ([], 2) := by simp only [Nm.lead, h1, h2, h3, ne_eq, not_true_eq_false, if_true, if_false]
        rw [e]
        exact Ev.congr (fun k => by rw [if_neg h2, if_pos (by omega)]; rfl) (Ev.now _)
      · refine Ev.congr (fun k => by rw [if_neg h2, if_neg (by omega)]) (Ev.bind (nul_ev q (by omega)) ?_)
        by_cases h4 : 0 ≤ Lib.indexByte q.data.toList 0
        · have e : Nm.lead p.data.toList q.data.toList = ([], 82) := by simp only [Nm.lead, h1, h2, h3, h4, ne_eq, not_true_eq_false, if_true, if_false]
          rw [e]
          exact Ev.congr (fun k => by rw [if_pos h4]; rfl) (Ev.now _)
        · have hpos : 0 < q.size := by have := List.length_pos_iff.2 h2; omega
          obtain ⟨c, _, hb, hc⟩ := drop_at q 0 hpos
          have hh : q.data.toList.head? = some c := by rw [List.head?_eq_getElem?]; exact hc
          have hb0 : bt q 0 = (c.toNat : Int) := hb
          refine Ev.congr (fun k => by rw [if_neg (by omega), if_pos (by omega)]) ?_
          by_cases h5 : c = 47
          · have e : Nm.lead p.data.toList q.data.toList = ([], 83) := by simp only [Nm.lead, h1, h2, h3, h4, hh, h5, ne_eq, not_true_eq_false, if_true, if_false]
            rw [e]
            exact Ev.congr (fun k => by rw [if_pos (by rw [hb0, h5]; rfl)]; rfl) (Ev.now _)
          · have h6 : ¬ (some c = some (47 : UInt8)) := fun e => h5 (Option.some.inj e)
            have e : Nm.lead p.data.toList q.data.toList = Nm.led (Nm.way (Nm.texts p.data.toList).dropLast (Nm.texts q.data.toList)) := by simp only [Nm.lead, h1, h2, h3, h4, hh, h6, ne_eq, not_true_eq_false, if_false]
            rw [e]
            have hp4 := ((Nm.check_ok _).1 h1).1
            have hpl := Nm.pieces_length p.data.toList 0
            refine Ev.congr (fun k => by rw [if_neg (by rw [hb0]; exact fun e => h5 ((toNat_eq c 47).1 e))]) (Ev.bind (pieces_ev p (by omega)) ?_)
            have h7 := Nm.totL_texts p.data.toList
            have := reflead_l0 q (by omega) (Nm.pieces 0 p.data.toList) (by omega) (by show Nm.totL (Nm.texts p.data.toList) ≤ _; omega) _ 0 (by simp [Nm.pieces]) rfl
            exact this
  · have e : Nm.lead p.data.toList q.data.toList = ([], (Nm.check p.data.toList).2) := by simp only [Nm.lead, h1, ne_eq, not_false_eq_true, if_true]
    rw [e]
    exact Ev.congr (fun k => by rw [if_neg (by simp; omega)]; rfl) (Ev.now _)
end Go.Proofs.YthpecpkncifngaaDoor.Pure
end

/- Plain words on paths: the order of paths is one, and what is beneath a path stands right behind it. -/
section
namespace Go.Proofs.YthpecpkncifngaaDoor.Nm
theorem bl_irrefl : ∀ x : List UInt8, Op.bytesLess x x = false
  | [] => rfl
  | a :: x => by
    simp only [Op.bytesLess, bl_irrefl x, Bool.and_false, Bool.or_false, decide_eq_false_iff_not]
    exact fun h => by rw [UInt8.lt_iff_toNat_lt] at h; omega
theorem bl_trans : ∀ x y z : List UInt8, Op.bytesLess x y = true → Op.bytesLess y z = true → Op.bytesLess x z = true
  | [], _, [], _, h => by cases ‹List UInt8› <;> simp [Op.bytesLess] at h
  | [], _, _ :: _, _, _ => rfl
  | _ :: _, [], _, h, _ => by simp [Op.bytesLess] at h
  | _ :: _, _ :: _, [], _, h => by simp [Op.bytesLess] at h
  | a :: x, b :: y, c :: z, h1, h2 => by
    simp only [Op.bytesLess, Bool.or_eq_true, decide_eq_true_eq, Bool.and_eq_true, beq_iff_eq] at h1 h2 ⊢
    rcases h1 with h1 | ⟨rfl, h1⟩
    · rcases h2 with h2 | ⟨rfl, h2⟩
      · left; rw [UInt8.lt_iff_toNat_lt] at *; omega
      · left; exact h1
    · rcases h2 with h2 | ⟨rfl, h2⟩
      · left; exact h2
      · right; exact ⟨rfl, bl_trans x y z h1 h2⟩
theorem bl_asymm {x y : List UInt8} (h : Op.bytesLess x y = true) : Op.bytesLess y x = false := by
  cases h2 : Op.bytesLess y x with
  | false => rfl
  | true => have := bl_trans _ _ _ h h2; rw [bl_irrefl] at this; exact this.symm
theorem bl_tri (x y : List UInt8) : x = y ∨ Op.bytesLess x y = true ∨ Op.bytesLess y x = true := by
  cases h1 : Op.bytesLess x y with
  | true => exact .inr (.inl rfl)
  | false =>
    cases h2 : Op.bytesLess y x with
    | true => exact .inr (.inr rfl)
    | false =>
      left
      have := bytesLess_swap x y
      rw [h2, h1] at this
      simpa using this
theorem cmp_cons (x : List UInt8) (a : List (List UInt8)) (y : List UInt8) (b : List (List UInt8)) : cmpL (x :: a) (y :: b) = if x = y then cmpL a b else if Op.bytesLess x y = true then -1 else 1 := by
  simp only [cmpL]
  rcases bl_tri x y with h | h | h
  · subst h; rw [bl_irrefl]; simp
  · rw [if_pos h, if_neg (fun e => by rw [e, bl_irrefl] at h; simp at h), if_pos h]
  · rw [if_neg (by rw [bl_asymm h]; simp), if_pos h, if_neg (fun e => by rw [e, bl_irrefl] at h; simp at h), if_neg (by rw [bl_asymm h]; simp)]
theorem cmp_self : ∀ x : List (List UInt8), cmpL x x = 0
  | [] => rfl
  | x :: a => by rw [cmp_cons, if_pos rfl, cmp_self a]
theorem cmp_vals : ∀ x y : List (List UInt8), cmpL x y = -1 ∨ cmpL x y = 0 ∨ cmpL x y = 1
  | [], [] => .inr (.inl rfl)
  | [], _ :: _ => .inl rfl
  | _ :: _, [] => .inr (.inr rfl)
  | x :: a, y :: b => by
    rw [cmp_cons]
    split
    · exact cmp_vals a b
    · split <;> simp
theorem cmp_lt_trans : ∀ x y z : List (List UInt8), cmpL x y = -1 → cmpL y z = -1 → cmpL x z = -1
  | [], [], _, h, _ => by simp [cmpL] at h
  | _ :: _, [], _, h, _ => by simp [cmpL] at h
  | _, _ :: _, [], _, h => by simp [cmpL] at h
  | [], _ :: _, _ :: _, _, _ => rfl
  | x :: a, y :: b, z :: c, h1, h2 => by
    rw [cmp_cons] at h1 h2 ⊢
    by_cases e1 : x = y
    · rw [if_pos e1] at h1
      subst e1
      by_cases e2 : x = z
      · rw [if_pos e2] at h2 ⊢; exact cmp_lt_trans a b c h1 h2
      · rw [if_neg e2] at h2 ⊢; exact h2
    · rw [if_neg e1] at h1
      have b1 : Op.bytesLess x y = true := by
        cases hb : Op.bytesLess x y with
        | true => rfl
        | false => rw [hb] at h1; simp at h1
      by_cases e2 : y = z
      · subst e2; rw [if_neg e1, if_pos b1]
      · rw [if_neg e2] at h2
        have b2 : Op.bytesLess y z = true := by
          cases hb : Op.bytesLess y z with
          | true => rfl
          | false => rw [hb] at h2; simp at h2
        have b3 := bl_trans _ _ _ b1 b2
        rw [if_neg (fun e => by rw [e, bl_irrefl] at b3; simp at b3), if_pos b3]
end Go.Proofs.YthpecpkncifngaaDoor.Nm
end
