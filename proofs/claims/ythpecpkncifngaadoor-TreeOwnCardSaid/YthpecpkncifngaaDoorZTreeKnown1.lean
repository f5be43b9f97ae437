/- The row of the law tabulary/tabularylaw11.TreeKnown: for every input the call returns true, and each argument reads behind the call as it read before. -/
import Derived.Test.YthpecpkncifngaaDoorZTreeBegins3
set_option linter.unusedVariables false
set_option linter.unusedSimpArgs false
-- PRINTED by print.py (a twelfth state) out of the translation. Not trusted: Lean checks it.
section
namespace Go.Proofs.YthpecpkncifngaaDoor.X
open Go.RowKit Go.Proofs.YthpecpkncifngaaDoorW.PrintWords Go.Proofs.YthpecpkncifngaaDoorW.PrintLast Go.Proofs.YthpecpkncifngaaDoorW.PrintMore
attribute [local go_sem] max2_int min2_int max_two min_two max_three min_three max_four min_four   -- for this text's walks alone
-- the values' own types
theorem k26_openM {w : World} {base : Nat} {ok : Nat → Prop} {x : S26} {cs : List Value} (h : k26.M w base ok x cs) : ∃ v4, cs = [.string x.f0, .int .u8 x.f1, .int .i64 x.f2, .int .i64 x.f3, v4, .string x.f5] ∧ (Kd.int .u8).R 5 w base ok v4 x.f4 := by
  obtain ⟨_, _, rfl, rfl, ⟨_, _, rfl, rfl, ⟨_, _, rfl, rfl, ⟨_, _, rfl, rfl, ⟨_, _, rfl, ⟨v4, rfl, g4⟩, rfl⟩⟩⟩⟩⟩ := h
  exact ⟨v4, rfl, g4⟩
theorem k26_mkM (w : World) (base : Nat) (ok : Nat → Prop) (x : S26) {v4 : Value} (g4 : (Kd.int .u8).R 5 w base ok v4 x.f4) : k26.M w base ok x [.string x.f0, .int .u8 x.f1, .int .i64 x.f2, .int .i64 x.f3, v4, .string x.f5] := ⟨[.string x.f0], [.int .u8 x.f1, .int .i64 x.f2, .int .i64 x.f3, v4, .string x.f5], rfl, rfl, ⟨[.int .u8 x.f1], [.int .i64 x.f2, .int .i64 x.f3, v4, .string x.f5], rfl, rfl, ⟨[.int .i64 x.f2], [.int .i64 x.f3, v4, .string x.f5], rfl, rfl, ⟨[.int .i64 x.f3], [v4, .string x.f5], rfl, rfl, ⟨[v4], [.string x.f5], rfl, ⟨v4, rfl, g4⟩, rfl⟩⟩⟩⟩⟩
end Go.Proofs.YthpecpkncifngaaDoor.X
end

-- PRINTED by print.py (a twelfth state) out of the translation. Not trusted: Lean checks it.
section
namespace Go.Proofs.YthpecpkncifngaaDoor.X
open Go.RowKit Go.Proofs.YthpecpkncifngaaDoorW.PrintWords Go.Proofs.YthpecpkncifngaaDoorW.PrintLast Go.Proofs.YthpecpkncifngaaDoorW.PrintMore
attribute [local go_sem] max2_int min2_int max_two min_two max_three min_three max_four min_four   -- for this text's walks alone
-- NOT PRINTED: function 22 (tabularyref11_With)
def tabularylaw11_file.f (a0 : ByteArray) : Option (ByteArray × Int × Int × Int × List Int × ByteArray) := some (a0, 1, 0, 0, ([] : List Int), (⟨#[]⟩ : ByteArray))
set_option maxHeartbeats 8000000 in
set_option maxRecDepth 100000 in
theorem tabularylaw11_file.calls (a0 : ByteArray) (r1 : ByteArray) (r2 : Int) (r3 : Int) (r4 : Int) (r5 : List Int) (r6 : ByteArray) (w : World) (h : tabularylaw11_file.f a0 = some (r1, r2, r3, r4, r5, r6)) :
    Calls Tryd.prog 32 #[.string a0] w fun e w' => ∃ v4_ : Value, e = .returned (.agg #[.string r1, .int .u8 r2, .int .i64 r3, .int .i64 r4, v4_, .string r6]) ∧ Kd.R (Kd.int .u8) 5 w' w.heap.size (fun _ => True) v4_ r5 ∧ Below w.heap.size w w' := by
  have hu26 := Tryd.underlying26
  have HB := Aside0.mk (Below.refl w.heap.size w)
  have H : (some (a0, 1, 0, 0, ([] : List Int), (⟨#[]⟩ : ByteArray))) = some (r1, r2, r3, r4, r5, r6) := h
  clear h
  simp only [Option.some.injEq, Prod.mk.injEq] at H
  obtain ⟨rfl, rfl, rfl, rfl, rfl, rfl⟩ := H
  go_enter Tryd.func32, Tryd.ntmps32
  go_wp2_with (first | ((with_reducible refine gate_dst (N := 2) rfl ?_); refine box_event ?hg (N := 2) ?hd (cs := #[.string (⟨#[]⟩ : ByteArray), .int .u8 0, .int .i64 0, .int .i64 0, .slice none 0 0, .string (⟨#[]⟩ : ByteArray)]) (t := 26) ?hr ?_; (case hd => rfl); (case hg => rfl); (case hr => first | (go_simp; done) | (go_simp; rfl)); intro gb249 hg w2 hbox hb; have n0_ := Aside0.mk (below_step (by repeat (first | (with_reducible first | exact HB.out | apply below_alloc | apply pw_below_drewN | apply below_drew1) | exact HB.out)) hb); have n1_ := Aside0.mk (hbox); have n2_ := Aside0.mk ((by rw [hg]; exact (below_size (by repeat (first | (with_reducible first | exact HB.out | apply below_alloc | apply pw_below_drewN | apply below_drew1) | exact HB.out))) : w.heap.size ≤ gb249)); have n3_ := Aside0.mk ((by rw [hg]; exact (below_size (by repeat (first | (with_reducible first | exact HB.out | apply below_alloc | apply pw_below_drewN | apply below_drew1) | exact HB.out))) : w.heap.size ≤ gb249)); clear HB; have HB := n0_; have BK249 := n1_; have GW249 := n2_; have GE249 := n3_; clear n0_ n1_ n2_ n3_; clear hb hbox hg; have hcz3_0 : w2.cell? ⟨gb249, 0, none⟩ = some (.string (⟨#[]⟩ : ByteArray)) := (blk_cell BK249.out 0).trans rfl; have hcz3_1 : w2.cell? ⟨gb249, 1, none⟩ = some (.int .u8 0) := (blk_cell BK249.out 1).trans rfl; have hcz3_2 : w2.cell? ⟨gb249, 2, none⟩ = some (.int .i64 0) := (blk_cell BK249.out 2).trans rfl; have hcz3_3 : w2.cell? ⟨gb249, 3, none⟩ = some (.int .i64 0) := (blk_cell BK249.out 3).trans rfl; have hcz3_4 : w2.cell? ⟨gb249, 4, none⟩ = some (.slice none 0 0) := (blk_cell BK249.out 4).trans rfl; have hcz3_5 : w2.cell? ⟨gb249, 5, none⟩ = some (.string (⟨#[]⟩ : ByteArray)) := (blk_cell BK249.out 5).trans rfl; have hfz3_0 := blk_frozen BK249.out 0; have hfz3_1 := blk_frozen BK249.out 1; have hfz3_2 := blk_frozen BK249.out 2; have hfz3_3 := blk_frozen BK249.out 3; have hfz3_4 := blk_frozen BK249.out 4; have hfz3_5 := blk_frozen BK249.out 5))
  refine bodyPost_ret (results_cell_row rfl _ _ gb249 26 #[.string a0, .int .u8 1, .int .i64 0, .int .i64 0, .slice none 0 0, .string (⟨#[]⟩ : ByteArray)] (0, 0) _ rfl (by (with_reducible repeat (first | refine blk_drewN ?_ _ | refine blk_drew ?_ | refine blk_alloc ?_ _)); refine blk_put (cs := #[.string a0, .int .u8 1, .int .i64 0, .int .i64 0, .slice none 0 0, .string (⟨#[]⟩ : ByteArray)]) ?_ 5 _ rfl; (with_reducible repeat (first | refine blk_drewN ?_ _ | refine blk_drew ?_ | refine blk_alloc ?_ _)); refine blk_put (cs := #[.string a0, .int .u8 1, .int .i64 0, .int .i64 0, .slice none 0 0, .string (⟨#[]⟩ : ByteArray)]) ?_ 4 _ rfl; (with_reducible repeat (first | refine blk_drewN ?_ _ | refine blk_drew ?_ | refine blk_alloc ?_ _)); refine blk_put (cs := #[.string a0, .int .u8 1, .int .i64 0, .int .i64 0, .slice none 0 0, .string (⟨#[]⟩ : ByteArray)]) ?_ 3 _ rfl; (with_reducible repeat (first | refine blk_drewN ?_ _ | refine blk_drew ?_ | refine blk_alloc ?_ _)); refine blk_put (cs := #[.string a0, .int .u8 1, .int .i64 0, .int .i64 0, .slice none 0 0, .string (⟨#[]⟩ : ByteArray)]) ?_ 2 _ rfl; (with_reducible repeat (first | refine blk_drewN ?_ _ | refine blk_drew ?_ | refine blk_alloc ?_ _)); refine blk_put (cs := #[.string a0, .int .u8 0, .int .i64 0, .int .i64 0, .slice none 0 0, .string (⟨#[]⟩ : ByteArray)]) ?_ 1 _ rfl; (with_reducible repeat (first | refine blk_drewN ?_ _ | refine blk_drew ?_ | refine blk_alloc ?_ _)); refine blk_put (cs := #[.string (⟨#[]⟩ : ByteArray), .int .u8 0, .int .i64 0, .int .i64 0, .slice none 0 0, .string (⟨#[]⟩ : ByteArray)]) ?_ 0 _ rfl; (with_reducible repeat (first | refine blk_drewN ?_ _ | refine blk_drew ?_ | refine blk_alloc ?_ _)); exact BK249.out) Tryd.underlying26 rfl (by kernel_rfl)) rfl ?_
  exact ⟨_, by first | rfl | (simp [errW_none, errW_some] <;> rfl) | (simp [*, errW_none, errW_some] <;> rfl), by first | exact Kd.R_nil _ _ _ _ _ | exact Kd.N_nil _ _ _ _ _ | exact Kd.V_nil _ _ _ _ _ | exact Kd.Q_nil _ _ _ _ _ | exact Kd.S_nil _ _ _ _ _, by repeat (first | (with_reducible first | exact HB.out | apply below_alloc | apply pw_below_drewN | apply below_drew1 | refine below_set ?_ GE249.out) | exact HB.out)⟩
def tabularylaw11_link.l0 : Nat → Int → ByteArray → Option (ByteArray)
  | 0, _, _ => none
  | k + 1, x0, x3 => if x0 ≥ 26 then (if x3.size + 1 ≤ 9223372036854775807 then (tabularylaw11_link.l0 k (wrap64 (x0 - 26)) (x3 ++ (⟨#[122]⟩ : ByteArray))) else (none)) else ((some (([(wrap64 (97 + x0)) % 256] : List Int) : List Int)).bind fun y250 => (if x3.size + (strOfNums y250).size ≤ 9223372036854775807 then (some (x3 ++ (strOfNums y250))) else (none)))
def tabularylaw11_link.f (k : Nat) (a0 : Int) : Option (ByteArray) := tabularylaw11_link.l0 k a0 (⟨#[108]⟩ : ByteArray)
set_option maxHeartbeats 8000000 in
set_option maxRecDepth 100000 in
theorem tabularylaw11_link.calls (k : Nat) (a0 : Int) (r : ByteArray) (w : World) (h : tabularylaw11_link.f k a0 = some r) :
    Calls Tryd.prog 69 #[.int .i64 a0] w fun e w' => e = .returned (.string r) ∧ Below w.heap.size w w' := by
  have HB := Aside0.mk (Below.refl w.heap.size w)
  have H : (tabularylaw11_link.l0 k a0 (⟨#[108]⟩ : ByteArray)) = some r := h
  clear h
  have H' := Aside0.mk H
  clear H
  go_enter Tryd.func69, Tryd.ntmps69
  go_wp2
  go_loopg [0, 3] k (fun kq v0 v3 w' => ∃ (x0_1 : Int) (x3_1 : ByteArray), v0 = .int .i64 x0_1 ∧ v3 = .string x3_1 ∧ Aside0 (tabularylaw11_link.l0 kq x0_1 x3_1 = some r) ∧ Aside0 (kq ≤ k) ∧ Aside0 (Below w.heap.size w w'))
  case atStart => exact ⟨(a0), ((⟨#[108]⟩ : ByteArray)), (by first | rfl | (simp; done) | (simp [*]; done)), (by first | rfl | (simp; done) | (simp [*]; done)), H', ⟨Nat.le_refl _⟩, ⟨by repeat (first | (with_reducible first | exact HB.out | apply below_alloc | apply pw_below_drewN | apply below_drew1) | exact HB.out)⟩⟩
  case round =>
    clear H'
    obtain ⟨x0_1, x3_1, rfl, rfl, HA, HK1, HB⟩ := hrel
    cases gk with
    | zero => exact absurd HA.out (by simp [tabularylaw11_link.l0])
    | succ k1 =>
      have H := HA.out
      clear HA
      simp only [tabularylaw11_link.l0] at H
      by_cases c2 : x0_1 ≥ 26
      · rw [if_pos c2] at H
        have c2b0 : decide (26 ≤ x0_1) = true := decide_eq_true c2
        clear c2
        by_cases c3 : x3_1.size + 1 ≤ 9223372036854775807
        · rw [if_pos c3] at H
          have c3b0 := eq_true c3
          have c3b1 : decide (x3_1.size + 1 ≤ 9223372036854775807) = true := decide_eq_true c3
          try have c3b2 : (9223372036854775807 < x3_1.size + 1) = False := eq_false (Nat.not_lt.2 c3)
          have H' := Aside0.mk H
          clear H
          go_wp2
          go_roundg k1
          case measure => have := HK1.out; omega
          case rel => exact ⟨(wrap64 (x0_1 - 26)), (x3_1 ++ (⟨#[122]⟩ : ByteArray)), (by first | rfl | (simp; done) | (simp [*]; done)), (by first | rfl | (simp; done) | (simp [*]; done)), H', ⟨by have := HK1.out; omega⟩, ⟨by repeat (first | (with_reducible first | exact HB.out | apply below_alloc | apply pw_below_drewN | apply below_drew1) | exact HB.out)⟩⟩
        · rw [if_neg c3] at H
          exact absurd H (by simp)
      · rw [if_neg c2] at H
        have c2b0 : decide (26 ≤ x0_1) = false := decide_eq_false c2
        clear c2
        obtain ⟨y250, hy250⟩ : ∃ y_ : List Int, y_ = (([(wrap64 (97 + x0_1)) % 256] : List Int)) := ⟨_, rfl⟩
        replace H : (if x3_1.size + (strOfNums y250).size ≤ 9223372036854775807 then (some (x3_1 ++ (strOfNums y250))) else (none)) = some r := by first | (rw [hy250]; with_reducible exact H) | (have H2_ := (Option.bind_some _ _).symm.trans H; rw [hy250]; with_reducible exact H2_) | (have H2_ := (Option.bind_some _ _).symm.trans H; with_reducible exact H2_) | with_reducible exact H | (rw [hy250]; exact H) | exact H
        have Ny250 := Aside0.mk hy250
        clear hy250
        by_cases c4 : x3_1.size + (strOfNums y250).size ≤ 9223372036854775807
        · rw [if_pos c4] at H
          have c4b0 := eq_true c4
          have c4b1 : decide (x3_1.size + (strOfNums y250).size ≤ 9223372036854775807) = true := decide_eq_true c4
          try have c4b2 : (9223372036854775807 < x3_1.size + (strOfNums y250).size) = False := eq_false (Nat.not_lt.2 c4)
          obtain rfl := Option.some.inj H
          go_wp2_with (first | ((with_reducible refine gate_dst (N := 14) rfl ?_); refine Kd.R_lit (Kd.int .u8) _ 5 ?hg (N := 14) ?hd (xs := ([(wrap64 (97 + x0_1)) % 256] : List Int)) (inner := [.int .u8 ((wrap64 (97 + x0_1)) % 256)]) (ok := fun _ => True) (okp := fun _ => True) ?hr ?hp (fun _ hk => hk) trivial (Below.refl _ _) (Nat.le_refl _) (by simp) ?_; (case hd => rfl); (case hg => rfl); (case hr => first | (go_simp; done) | (go_simp; rfl)); (case hp => exact (Reps.one (show Kd.M (Kd.int .u8) _ _ _ ((wrap64 (97 + x0_1)) % 256) [.int .u8 ((wrap64 (97 + x0_1)) % 256)] from rfl) (Reps.none _ _))); intro v251 w5 ho6 hb hg_ hnew_; clear hg_ hnew_; (first | rw [← Ny250.out] at ho6 | (simp only [Int.reduceToNat] at ho6; rw [← Ny250.out] at ho6)); have n0_ := Aside0.mk (Kd.R_lower ho6 (below_size (by repeat (first | (with_reducible first | exact HB.out | apply below_alloc | apply pw_below_drewN | apply below_drew1) | exact HB.out)))); have n1_ := Aside0.mk (below_step (by repeat (first | (with_reducible first | exact HB.out | apply below_alloc | apply pw_below_drewN | apply below_drew1) | exact HB.out)) hb); clear HB; have HO252 := n0_; have HB := n1_; clear n0_ n1_; clear hb ho6; have hcv7 := own_string (P := Tryd.prog) Tryd.underlying24 Tryd.underlying5 Tryd.underlying9 (Kd.own_of_R HO252.out)))
          go_ret
          exact ⟨by first | rfl | (simp [errW_none, errW_some] <;> rfl) | (simp [*, errW_none, errW_some] <;> rfl), by repeat (first | (with_reducible first | exact HB.out | apply below_alloc | apply pw_below_drewN | apply below_drew1) | exact HB.out)⟩
        · rw [if_neg c4] at H
          exact absurd H (by simp)
def tabularylaw11_chain.l0 : Nat → Int → List (S26) → Int → Option ((List (S26)))
  | 0, _, _, _ => none
  | k + 1, x0, x3, x4 => if x4 < x0 then ((tabularylaw11_link.f k x4).bind fun t253 => ((tabularylaw11_link.f k (wrap64 (x4 + 1))).bind fun t254 => (if x3.length < 1759218604441 then (tabularylaw11_chain.l0 k x0 (x3 ++ [(⟨t253, 4, 0, 0, ([] : List Int), t254⟩ : S26)]) (wrap64 (x4 + 1))) else (none)))) else (if 0 ≤ (wrap64 (x0 - 1)) then (if (wrap64 (x0 - 1)) < (x3.length : Int) then ((some (x3.set ((wrap64 (x0 - 1)) : Int).toNat (⟨(rd_T26 x3 (wrap64 (x0 - 1))).f0, (rd_T26 x3 (wrap64 (x0 - 1))).f1, (rd_T26 x3 (wrap64 (x0 - 1))).f2, (rd_T26 x3 (wrap64 (x0 - 1))).f3, (rd_T26 x3 (wrap64 (x0 - 1))).f4, (⟨#[120]⟩ : ByteArray)⟩ : S26) : List (S26))).bind fun y258 => ((tabularylaw11_file.f (⟨#[120]⟩ : ByteArray)).bind fun bt259 => (if y258.length < 1759218604441 then (some (y258 ++ [(⟨bt259.1, bt259.2.1, bt259.2.2.1, bt259.2.2.2.1, bt259.2.2.2.2.1, bt259.2.2.2.2.2⟩ : S26)])) else (none)))) else (none)) else (none))
def tabularylaw11_chain.f (k : Nat) (a0 : Int) : Option ((List (S26))) := tabularylaw11_chain.l0 k a0 ([] : List (S26)) 0
set_option maxHeartbeats 8000000 in
set_option maxRecDepth 100000 in
theorem tabularylaw11_chain.calls (k : Nat) (a0 : Int) (r : List (S26)) (w : World) (h : tabularylaw11_chain.f k a0 = some r) :
    Calls Tryd.prog 35 #[.int .i64 a0] w fun e w' => ∃ v0_ : Value, e = .returned (v0_) ∧ Kd.S k26 26 w' w.heap.size (fun _ => True) v0_ r ∧ Below w.heap.size w w' := by
  have hu26 := Tryd.underlying26
  have HB := Aside0.mk (Below.refl w.heap.size w)
  have H : (tabularylaw11_chain.l0 k a0 ([] : List (S26)) 0) = some r := h
  clear h
  have H' := Aside0.mk H
  clear H
  go_enter Tryd.func35, Tryd.ntmps35
  go_wp2
  go_loopg [3, 4] k (fun kq v3 v4 w' => ∃ (x3_1 : List (S26)) (x4_1 : Int), v4 = .int .i64 x4_1 ∧ Aside0 (tabularylaw11_chain.l0 kq a0 x3_1 x4_1 = some r) ∧ Aside0 (kq ≤ k) ∧ Aside0 (Kd.S k26 26 w' w.heap.size (fun _ => True) v3 x3_1) ∧ Aside0 (Below w.heap.size w w'))
  case atStart => exact ⟨(([] : List (S26))), (0), (by first | rfl | (simp; done) | (simp [*]; done)), H', ⟨Nat.le_refl _⟩, ⟨by first | exact Kd.S_nil _ _ _ _ _ | exact Kd.N_nil _ _ _ _ _ | exact Kd.V_nil _ _ _ _ _ | exact Kd.Q_nil _ _ _ _ _ | exact Kd.R_nil _ _ _ _ _⟩, ⟨by repeat (first | (with_reducible first | exact HB.out | apply below_alloc | apply pw_below_drewN | apply below_drew1) | exact HB.out)⟩⟩
  case round =>
    clear H'
    obtain ⟨x3_1, x4_1, rfl, HA, HK1, HO_3, HB⟩ := hrel
    cases gk with
    | zero => exact absurd HA.out (by simp [tabularylaw11_chain.l0])
    | succ k1 =>
      have H := HA.out
      clear HA
      simp only [tabularylaw11_chain.l0] at H
      by_cases c2 : x4_1 < a0
      · rw [if_pos c2] at H
        have c2b0 : decide (x4_1 < a0) = true := decide_eq_true c2
        clear c2
        replace H := Option.bind_eq_some_iff.mp H
        obtain ⟨t253, A30, H⟩ := H
        replace H : ((tabularylaw11_link.f k1 (wrap64 (x4_1 + 1))).bind fun t254 => (if x3_1.length < 1759218604441 then (tabularylaw11_chain.l0 k1 a0 (x3_1 ++ [(⟨t253, 4, 0, 0, ([] : List Int), t254⟩ : S26)]) (wrap64 (x4_1 + 1))) else (none))) = some r := H
        have A3 := Aside0.mk A30
        clear A30
        replace H := Option.bind_eq_some_iff.mp H
        obtain ⟨t254, A40, H⟩ := H
        replace H : (if x3_1.length < 1759218604441 then (tabularylaw11_chain.l0 k1 a0 (x3_1 ++ [(⟨t253, 4, 0, 0, ([] : List Int), t254⟩ : S26)]) (wrap64 (x4_1 + 1))) else (none)) = some r := H
        have A4 := Aside0.mk A40
        clear A40
        by_cases c5 : x3_1.length < 1759218604441
        · rw [if_pos c5] at H
          have LMc5 := Aside0.mk c5
          clear c5
          obtain ⟨y255, hy255⟩ : ∃ y_ : List (S26), y_ = (x3_1 ++ [(⟨t253, 4, 0, 0, ([] : List Int), t254⟩ : S26)]) := ⟨_, rfl⟩
          replace H : (tabularylaw11_chain.l0 k1 a0 y255 (wrap64 (x4_1 + 1))) = some r := by first | (rw [hy255]; with_reducible exact H) | (have H2_ := (Option.bind_some _ _).symm.trans H; rw [hy255]; with_reducible exact H2_) | (have H2_ := (Option.bind_some _ _).symm.trans H; with_reducible exact H2_) | with_reducible exact H | (rw [hy255]; exact H) | exact H
          have Ny255 := Aside0.mk hy255
          clear hy255
          have H' := Aside0.mk H
          clear H
          go_wp2_with (first | ((with_reducible refine gate_callee (f := 69) rfl ?_); refine goesL_ (some 12) rfl rfl Tryd.func69 (by kernel_rfl) rfl #[.int .i64 x4_1] rfl (by (try simp only [List.map_toArray, List.map_cons, List.map_nil]); first | done | rfl | (simp only [List.length_drop, List.length_take]; rfl)) ?_; (with_reducible refine (tabularylaw11_link.calls k1 x4_1 t253 _ A3.out).mono ?_); rintro e w6 ⟨rfl, hb⟩; refine ⟨_, rfl, ?_⟩; have n0_ := Aside0.mk (Kd.S_below (by (with_reducible repeat (first | apply Kd.S_alloc | apply Kd.S_drewN | apply Kd.S_drew)); exact HO_3.out) hb); have n1_ := Aside0.mk (below_step (by repeat (first | (with_reducible first | exact HB.out | apply below_alloc | apply pw_below_drewN | apply below_drew1) | exact HB.out)) hb); clear HO_3; clear HB; have HO_3 := n0_; have HB := n1_; clear n0_ n1_; (try clear hb); (try clear hb2); (try clear hk); (try clear hi)) | ((with_reducible refine gate_callee (f := 69) rfl ?_); refine goesL_ (some 15) rfl rfl Tryd.func69 (by kernel_rfl) rfl #[.int .i64 (wrap64 (x4_1 + 1))] rfl (by (try simp only [List.map_toArray, List.map_cons, List.map_nil]); first | done | rfl | (simp only [List.length_drop, List.length_take]; rfl)) ?_; (with_reducible refine (tabularylaw11_link.calls k1 (wrap64 (x4_1 + 1)) t254 _ A4.out).mono ?_); rintro e w7 ⟨rfl, hb⟩; refine ⟨_, rfl, ?_⟩; have n0_ := Aside0.mk (Kd.S_below (by (with_reducible repeat (first | apply Kd.S_alloc | apply Kd.S_drewN | apply Kd.S_drew)); exact HO_3.out) hb); have n1_ := Aside0.mk (below_step (by repeat (first | (with_reducible first | exact HB.out | apply below_alloc | apply pw_below_drewN | apply below_drew1) | exact HB.out)) hb); clear HO_3; clear HB; have HO_3 := n0_; have HB := n1_; clear n0_ n1_; (try clear hb); (try clear hb2); (try clear hk); (try clear hi)) | ((with_reducible refine gate_builtin (b := .append) (xs := #[.tmp 10, .tmp 17]) rfl ?_); at_builtin; refine Kd.S_append k26 (w0 := w) w.heap.size rfl (.tmp 10) (.tmp 17) 22 26 (.agg #[(.string ⟨#[]⟩), (.int .u8 0), (.int .i64 0), (.int .i64 0), (.slice none 0 0), (.string ⟨#[]⟩)]) 80 rfl Tryd.underlying22 info26 rfl (by decide) (by omega) u3 x3_1 (⟨t253, 4, 0, 0, ([] : List Int), t254⟩ : S26) [.string t253, .int .u8 4, .int .i64 0, .int .i64 0, .slice none 0 0, .string t254] (fun _ => True) (fun _ => False) rfl rfl ?aP (fun k_ hk_ => hk_.elim) ?aF ?aO ?aB ?aS ?aL ?_; (case aP => exact k26_mkM _ _ _ (⟨t253, 4, 0, 0, ([] : List Int), t254⟩ : S26) (Kd.R_nil _ _ _ _ _)); (case aB => exact (by repeat (first | (with_reducible first | exact HB.out | apply below_alloc | apply pw_below_drewN | apply below_drew1) | exact HB.out))); (case aF => exact (fun _ _ => trivial)); (case aO => exact (by (with_reducible repeat (first | apply Kd.S_alloc | apply Kd.S_drewN | apply Kd.S_drew)); exact Kd.S_mono HO_3.out (fun k_ hk => ⟨trivial, fun e_ => e_⟩))); (case aS => exact (below_size (by repeat (first | (with_reducible first | exact HB.out | apply below_alloc | apply pw_below_drewN | apply below_drew1) | exact HB.out)))); (case aL => have := LMc5.out; omega); intro v256 w8 ho hb hg hat; rw [← Ny255.out] at ho; have n0_ := Aside0.mk (hb); have n1_ := Aside0.mk (ho); clear HB; clear HO_3; have HB := n0_; have HO257 := n1_; clear n0_ n1_; clear ho hb hg hat))
          go_roundg k1
          case measure => have := HK1.out; omega
          case rel => exact ⟨(y255), (wrap64 (x4_1 + 1)), (by first | rfl | (simp; done) | (simp [*]; done)), H', ⟨by have := HK1.out; omega⟩, ⟨by (with_reducible repeat (first | apply Kd.S_alloc | apply Kd.S_drewN | apply Kd.S_drew)); exact HO257.out⟩, ⟨by repeat (first | (with_reducible first | exact HB.out | apply below_alloc | apply pw_below_drewN | apply below_drew1) | exact HB.out)⟩⟩
        · rw [if_neg c5] at H
          exact absurd H (by simp)
      · rw [if_neg c2] at H
        have c2b0 : decide (x4_1 < a0) = false := decide_eq_false c2
        clear c2
        obtain ⟨ji9, hji9⟩ : ∃ j_ : Int, (wrap64 (a0 - 1)) = j_ := ⟨_, rfl⟩
        replace H : (if 0 ≤ (ji9) then (if (ji9) < (x3_1.length : Int) then ((some (x3_1.set ((ji9) : Int).toNat (⟨(rd_T26 x3_1 (ji9)).f0, (rd_T26 x3_1 (ji9)).f1, (rd_T26 x3_1 (ji9)).f2, (rd_T26 x3_1 (ji9)).f3, (rd_T26 x3_1 (ji9)).f4, (⟨#[120]⟩ : ByteArray)⟩ : S26) : List (S26))).bind fun y258 => ((tabularylaw11_file.f (⟨#[120]⟩ : ByteArray)).bind fun bt259 => (if y258.length < 1759218604441 then (some (y258 ++ [(⟨bt259.1, bt259.2.1, bt259.2.2.1, bt259.2.2.2.1, bt259.2.2.2.2.1, bt259.2.2.2.2.2⟩ : S26)])) else (none)))) else (none)) else (none)) = some r := by first | (rw [hji9] at H; exact H) | (simp only [hji9] at H ⊢; exact H)
        have hji9w : (IntKind.i64.wrap (a0 - 1)) = ji9 := (i64_w _).trans hji9
        by_cases c10 : 0 ≤ (ji9)
        · rw [if_pos c10] at H
          have c10b0 : decide (0 ≤ (ji9)) = true := decide_eq_true c10
          clear c10
          by_cases c11 : (ji9) < (x3_1.length : Int)
          · rw [if_pos c11] at H
            have c11b0 : decide ((ji9) < (x3_1.length : Int)) = true := decide_eq_true c11
            clear c11
            obtain ⟨y258, hy258⟩ : ∃ y_ : List (S26), y_ = (x3_1.set ((ji9) : Int).toNat (⟨(rd_T26 x3_1 (ji9)).f0, (rd_T26 x3_1 (ji9)).f1, (rd_T26 x3_1 (ji9)).f2, (rd_T26 x3_1 (ji9)).f3, (rd_T26 x3_1 (ji9)).f4, (⟨#[120]⟩ : ByteArray)⟩ : S26)) := ⟨_, rfl⟩
            replace H : ((tabularylaw11_file.f (⟨#[120]⟩ : ByteArray)).bind fun bt259 => (if y258.length < 1759218604441 then (some (y258 ++ [(⟨bt259.1, bt259.2.1, bt259.2.2.1, bt259.2.2.2.1, bt259.2.2.2.2.1, bt259.2.2.2.2.2⟩ : S26)])) else (none))) = some r := by first | (rw [hy258]; with_reducible exact H) | (have H2_ := (Option.bind_some _ _).symm.trans H; rw [hy258]; with_reducible exact H2_) | (have H2_ := (Option.bind_some _ _).symm.trans H; with_reducible exact H2_) | with_reducible exact H | (rw [hy258]; exact H) | exact H
            have Ny258 := Aside0.mk hy258
            clear hy258
            replace H := Option.bind_eq_some_iff.mp H
            obtain ⟨⟨t259, t260, t261, t262, t263, t266⟩, A130, H⟩ := H
            replace H : (if y258.length < 1759218604441 then (some (y258 ++ [(⟨t259, t260, t261, t262, t263, t266⟩ : S26)])) else (none)) = some r := H
            have A13 := Aside0.mk A130
            clear A130
            by_cases c14 : y258.length < 1759218604441
            · rw [if_pos c14] at H
              have LMc14 := Aside0.mk c14
              clear c14
              obtain ⟨y267, hy267⟩ : ∃ y_ : List (S26), y_ = (y258 ++ [(⟨t259, t260, t261, t262, t263, t266⟩ : S26)]) := ⟨_, rfl⟩
              replace H : (some y267) = some r := by first | (rw [hy267]; with_reducible exact H) | (have H2_ := (Option.bind_some _ _).symm.trans H; rw [hy267]; with_reducible exact H2_) | (have H2_ := (Option.bind_some _ _).symm.trans H; with_reducible exact H2_) | with_reducible exact H | (rw [hy267]; exact H) | exact H
              have Ny267 := Aside0.mk hy267
              clear hy267
              obtain rfl := Option.some.inj H
              have p12 : 0 ≤ ((ji9) : Int) := of_decide_eq_true (by first | (with_reducible assumption) | assumption)
              have q12 : ((ji9) : Int) < ((x3_1.length : Int) : Int) := of_decide_eq_true (by first | (with_reducible assumption) | assumption)
              obtain ⟨go12, co12, eo12, gb12, gl12, cl12, HG12⟩ := Kd.S_form HO_3.out (by omega)
              (first | cases eo12 | (injection eo12 with ea_ en_ ec_; (first | subst ea_ | (injection ea_ with ea_; subst ea_)); subst ec_; clear en_))
              have GB12 := Aside0.mk gb12
              have GG12 := Aside0.mk HG12
              clear gb12 gl12 HG12
              obtain ⟨_, ce12, hcl12, hM12, hcc12, hfr12, _, _⟩ := Kd.S_elem HO_3.out z26 ((ji9) : Int) p12 q12
              obtain ⟨ve12_4, rfl, ge12_4⟩ := k26_openM hM12
              have hx12_0 : wr.cell? ⟨go12, ((ji9) : Int).toNat * 6, none⟩ = some (.string ((rd_T26 x3_1 (ji9)).f0)) := hcc12 0 _ rfl
              have hx12_1 : wr.cell? ⟨go12, ((ji9) : Int).toNat * 6 + 1, none⟩ = some (.int .u8 ((rd_T26 x3_1 (ji9)).f1)) := hcc12 1 _ rfl
              have hx12_2 : wr.cell? ⟨go12, ((ji9) : Int).toNat * 6 + 2, none⟩ = some (.int .i64 ((rd_T26 x3_1 (ji9)).f2)) := hcc12 2 _ rfl
              have hx12_3 : wr.cell? ⟨go12, ((ji9) : Int).toNat * 6 + 3, none⟩ = some (.int .i64 ((rd_T26 x3_1 (ji9)).f3)) := hcc12 3 _ rfl
              have hx12_4 : wr.cell? ⟨go12, ((ji9) : Int).toNat * 6 + 4, none⟩ = some (ve12_4) := hcc12 4 _ rfl
              have hx12_5 : wr.cell? ⟨go12, ((ji9) : Int).toNat * 6 + 5, none⟩ = some (.string ((rd_T26 x3_1 (ji9)).f5)) := hcc12 5 _ rfl
              have hf12_0 : wr.frozen? ⟨go12, ((ji9) : Int).toNat * 6, none⟩ = false := hfr12 0
              have hf12_1 : wr.frozen? ⟨go12, ((ji9) : Int).toNat * 6 + 1, none⟩ = false := hfr12 1
              have hf12_2 : wr.frozen? ⟨go12, ((ji9) : Int).toNat * 6 + 2, none⟩ = false := hfr12 2
              have hf12_3 : wr.frozen? ⟨go12, ((ji9) : Int).toNat * 6 + 3, none⟩ = false := hfr12 3
              have hf12_4 : wr.frozen? ⟨go12, ((ji9) : Int).toNat * 6 + 4, none⟩ = false := hfr12 4
              have hf12_5 : wr.frozen? ⟨go12, ((ji9) : Int).toNat * 6 + 5, none⟩ = false := hfr12 5
              clear hcl12 hcc12 hfr12 hM12
              replace p12 := eq_true p12
              replace q12 := eq_true q12
              have HX15 := Aside0.mk (show Kd.S k26 26 wr w.heap.size (fun k_ => ((fun _ => True)) k_ ∧ ¬ ((fun _ => False)) k_) (.slice (some ⟨go12, 0, none⟩) x3_1.length co12) x3_1 from (by (with_reducible repeat (first | apply Kd.S_alloc | apply Kd.S_drewN | apply Kd.S_drew)); exact Kd.S_mono HO_3.out (fun k_ hk => ⟨trivial, fun e_ => e_⟩)))
              obtain ⟨oki15, ce15, hcl15, hM15, hcc15, hfr15, hoki15, hH15⟩ := Kd.S_elem HX15.out z26 ((ji9) : Int) (of_decide_eq_true (by first | (with_reducible assumption) | assumption)) (by have h_ : ((ji9) : Int) < ((x3_1.length : Int) : Int) := of_decide_eq_true (by first | (with_reducible assumption) | assumption); first | exact h_ | (have e_ := (Kd.S_reads' HO_3.out).1; omega) | simpa using h_)
              obtain ⟨ve15_4, rfl, ge15_4⟩ := k26_openM hM15
              have HP15 := Kd.S_seg hH15 (of_decide_eq_true (by first | (with_reducible assumption) | assumption)) (by have h_ : ((ji9) : Int) < ((x3_1.length : Int) : Int) := of_decide_eq_true (by first | (with_reducible assumption) | assumption); first | exact h_ | (have e_ := (Kd.S_reads' HO_3.out).1; omega) | simpa using h_) (seg := [.string (⟨#[120]⟩ : ByteArray)]) (j := 5) (show 6 ≤ 6 from by decide) (x' := (⟨(rd_T26 x3_1 (ji9)).f0, (rd_T26 x3_1 (ji9)).f1, (rd_T26 x3_1 (ji9)).f2, (rd_T26 x3_1 (ji9)).f3, (rd_T26 x3_1 (ji9)).f4, (⟨#[120]⟩ : ByteArray)⟩ : S26)) (k26_mkM _ _ _ (⟨(rd_T26 x3_1 (ji9)).f0, (rd_T26 x3_1 (ji9)).f1, (rd_T26 x3_1 (ji9)).f2, (rd_T26 x3_1 (ji9)).f3, (rd_T26 x3_1 (ji9)).f4, (⟨#[120]⟩ : ByteArray)⟩ : S26) (Kd.R_mono ge15_4 (fun _ h_ => Or.inl h_))) (fun _ hk => hk) (fun k_ hk_ => hk_.elim)
              have hx15_5 := hcc15 5 _ rfl
              (try simp only [show (k26).sz = 6 from rfl, Nat.mul_one, Nat.add_zero] at hx15_5)
              have hf15_5 := hfr15 5
              (try simp only [show (k26).sz = 6 from rfl, Nat.mul_one, Nat.add_zero] at hf15_5)
              clear hcl15 hcc15 hfr15 hM15 hoki15 hH15
              go_wp2_with (first | ((with_reducible refine gate_store (t := 9) (p := 23) rfl ?_); refine store_event (t := 9) (p := 23) (v := ?vo_w16) (w1 := (wr.setCell ⟨go12, ((ji9) : Int).toNat * 6 + 5, none⟩ (.string (⟨#[120]⟩ : ByteArray)))) ?hg ?ho ?hn ?hr ?_; (case ho => rfl); (case hg => rfl); (case hn => rfl); (case hr => first | (go_simp; done) | (go_simp; rfl)); intro w16 hw; have hg : wr.grownBy w16 (some go12) := (by rw [hw]; exact HP15.2); have hp_ : Kd.S k26 26 w16 w.heap.size (fun _ => True) (.slice (some ⟨go12, 0, none⟩) x3_1.length co12) y258 := (by rw [hw, Ny258.out]; exact HP15.1); clear HP15; have n0_ := Aside0.mk (hp_); have n1_ := Aside0.mk ((by rw [hw]; exact below_set (HB.out) GB12.out : Below w.heap.size w w16)); clear HO_3; clear HB; have HO_3 := n0_; have HB := n1_; clear n0_ n1_; clear hg hw hp_) | ((with_reducible refine gate_callee (f := 32) rfl ?_); refine goesL_ (some 25) rfl rfl Tryd.func32 (by kernel_rfl) rfl #[.string (⟨#[120]⟩ : ByteArray)] rfl (by (try simp only [List.map_toArray, List.map_cons, List.map_nil]); first | done | rfl | (simp only [List.length_drop, List.length_take]; rfl)) ?_; (with_reducible refine (tabularylaw11_file.calls (⟨#[120]⟩ : ByteArray) t259 t260 t261 t262 t263 t266 _ A13.out).mono ?_); rintro e w17 ⟨v264, rfl, ho0, hb⟩; refine ⟨_, rfl, ?_⟩; have n0_ := Aside0.mk (Kd.S_elder' (by (with_reducible repeat (first | apply Kd.S_alloc | apply Kd.S_drewN | apply Kd.S_drew)); exact HO_3.out) (Kd.R_base ho0) hb); have n1_ := Aside0.mk (Kd.R_lower ho0 (below_size (by repeat (first | (with_reducible first | exact HB.out | apply below_alloc | apply pw_below_drewN | apply below_drew1) | exact HB.out)))); have n2_ := Aside0.mk (below_step (by repeat (first | (with_reducible first | exact HB.out | apply below_alloc | apply pw_below_drewN | apply below_drew1) | exact HB.out)) hb); clear HO_3; clear HB; have HO_3 := n0_; have HO265 := n1_; have HB := n2_; clear n0_ n1_ n2_; (try clear hb); (try clear hb2); (try clear hk); (try clear hi); (try clear ho0); obtain ⟨Ao19, co19, eo19⟩ := Kd.R_slice HO265.out; subst eo19) | ((with_reducible refine gate_builtin (b := .append) (xs := #[.tmp 24, .tmp 26]) rfl ?_); at_builtin; refine Kd.S_append k26 (w0 := w) w.heap.size rfl (.tmp 24) (.tmp 26) 22 26 (.agg #[(.string ⟨#[]⟩), (.int .u8 0), (.int .i64 0), (.int .i64 0), (.slice none 0 0), (.string ⟨#[]⟩)]) 80 rfl Tryd.underlying22 info26 rfl (by decide) (by omega) (.slice (some ⟨go12, 0, none⟩) x3_1.length co12) y258 (⟨t259, t260, t261, t262, t263, t266⟩ : S26) [.string t259, .int .u8 t260, .int .i64 t261, .int .i64 t262, .slice Ao19 t263.length co19, .string t266] (fun _ => True) (fun k_ => some k_ = (.slice Ao19 t263.length co19 : Value).ownBlock) rfl rfl ?aP (fun k_ hk_ => ((Kd.R_mono (ok' := fun k_ => ((fun _ => True)) k_ ∧ some k_ ≠ (.slice (some ⟨go12, 0, none⟩) x3_1.length co12 : Value).ownBlock) (Kd.R_apart' (HO265.out) (Kd.S_typed HO_3.out) (by decide)) (fun k_ hk => ⟨trivial, hk.2⟩))).1 k_ hk_.symm) ?aF ?aO ?aB ?aS ?aL ?_; (case aP => exact k26_mkM _ _ _ (⟨t259, t260, t261, t262, t263, t266⟩ : S26) (Kd.R_mono (Kd.R_tight rfl (Kd.R_mono (ok' := fun k_ => ((fun _ => True)) k_ ∧ some k_ ≠ (.slice (some ⟨go12, 0, none⟩) x3_1.length co12 : Value).ownBlock) (Kd.R_apart' (HO265.out) (Kd.S_typed HO_3.out) (by decide)) (fun k_ hk => ⟨trivial, hk.2⟩))) (fun _ h_ => h_))); (case aB => exact (by repeat (first | (with_reducible first | exact HB.out | apply below_alloc | apply pw_below_drewN | apply below_drew1) | exact HB.out))); (case aF => exact (fun _ _ => trivial)); (case aO => exact (by (with_reducible repeat (first | apply Kd.S_alloc | apply Kd.S_drewN | apply Kd.S_drew)); exact Kd.S_mono HO_3.out (fun k_ hk => ⟨trivial, fun e_ => hk.2 e_⟩))); (case aS => exact (below_size (by repeat (first | (with_reducible first | exact HB.out | apply below_alloc | apply pw_below_drewN | apply below_drew1) | exact HB.out)))); (case aL => have := LMc14.out; omega); intro v268 w18 ho hb hg hat; rw [← Ny267.out] at ho; have n0_ := Aside0.mk (hb); have n1_ := Aside0.mk (ho); clear HB; clear HO_3; clear HO265; have HB := n0_; have HO269 := n1_; clear n0_ n1_; clear ho hb hg hat))
              go_ret
              exact ⟨_, by first | rfl | (simp [errW_none, errW_some] <;> rfl) | (simp only [← hji9]; first | rfl | (simp [errW_none, errW_some] <;> rfl)) | (simp [*, errW_none, errW_some] <;> rfl), by (with_reducible repeat (first | apply Kd.S_alloc | apply Kd.S_drewN | apply Kd.S_drew)); exact HO269.out, by repeat (first | (with_reducible first | exact HB.out | apply below_alloc | apply pw_below_drewN | apply below_drew1) | exact HB.out)⟩
            · rw [if_neg c14] at H
              exact absurd H (by simp)
          · rw [if_neg c11] at H
            exact absurd H (by simp)
        · rw [if_neg c10] at H
          exact absurd H (by simp)
def tabularylaw11_folder.f (a0 : ByteArray) : Option (ByteArray × Int × Int × Int × List Int × ByteArray) := some (a0, 2, 0, 0, ([] : List Int), (⟨#[]⟩ : ByteArray))
set_option maxHeartbeats 8000000 in
set_option maxRecDepth 100000 in
theorem tabularylaw11_folder.calls (a0 : ByteArray) (r1 : ByteArray) (r2 : Int) (r3 : Int) (r4 : Int) (r5 : List Int) (r6 : ByteArray) (w : World) (h : tabularylaw11_folder.f a0 = some (r1, r2, r3, r4, r5, r6)) :
    Calls Tryd.prog 33 #[.string a0] w fun e w' => ∃ v4_ : Value, e = .returned (.agg #[.string r1, .int .u8 r2, .int .i64 r3, .int .i64 r4, v4_, .string r6]) ∧ Kd.R (Kd.int .u8) 5 w' w.heap.size (fun _ => True) v4_ r5 ∧ Below w.heap.size w w' := by
  have hu26 := Tryd.underlying26
  have HB := Aside0.mk (Below.refl w.heap.size w)
  have H : (some (a0, 2, 0, 0, ([] : List Int), (⟨#[]⟩ : ByteArray))) = some (r1, r2, r3, r4, r5, r6) := h
  clear h
  simp only [Option.some.injEq, Prod.mk.injEq] at H
  obtain ⟨rfl, rfl, rfl, rfl, rfl, rfl⟩ := H
  go_enter Tryd.func33, Tryd.ntmps33
  go_wp2_with (first | ((with_reducible refine gate_dst (N := 2) rfl ?_); refine box_event ?hg (N := 2) ?hd (cs := #[.string (⟨#[]⟩ : ByteArray), .int .u8 0, .int .i64 0, .int .i64 0, .slice none 0 0, .string (⟨#[]⟩ : ByteArray)]) (t := 26) ?hr ?_; (case hd => rfl); (case hg => rfl); (case hr => first | (go_simp; done) | (go_simp; rfl)); intro gb270 hg w2 hbox hb; have n0_ := Aside0.mk (below_step (by repeat (first | (with_reducible first | exact HB.out | apply below_alloc | apply pw_below_drewN | apply below_drew1) | exact HB.out)) hb); have n1_ := Aside0.mk (hbox); have n2_ := Aside0.mk ((by rw [hg]; exact (below_size (by repeat (first | (with_reducible first | exact HB.out | apply below_alloc | apply pw_below_drewN | apply below_drew1) | exact HB.out))) : w.heap.size ≤ gb270)); have n3_ := Aside0.mk ((by rw [hg]; exact (below_size (by repeat (first | (with_reducible first | exact HB.out | apply below_alloc | apply pw_below_drewN | apply below_drew1) | exact HB.out))) : w.heap.size ≤ gb270)); clear HB; have HB := n0_; have BK270 := n1_; have GW270 := n2_; have GE270 := n3_; clear n0_ n1_ n2_ n3_; clear hb hbox hg; have hcz3_0 : w2.cell? ⟨gb270, 0, none⟩ = some (.string (⟨#[]⟩ : ByteArray)) := (blk_cell BK270.out 0).trans rfl; have hcz3_1 : w2.cell? ⟨gb270, 1, none⟩ = some (.int .u8 0) := (blk_cell BK270.out 1).trans rfl; have hcz3_2 : w2.cell? ⟨gb270, 2, none⟩ = some (.int .i64 0) := (blk_cell BK270.out 2).trans rfl; have hcz3_3 : w2.cell? ⟨gb270, 3, none⟩ = some (.int .i64 0) := (blk_cell BK270.out 3).trans rfl; have hcz3_4 : w2.cell? ⟨gb270, 4, none⟩ = some (.slice none 0 0) := (blk_cell BK270.out 4).trans rfl; have hcz3_5 : w2.cell? ⟨gb270, 5, none⟩ = some (.string (⟨#[]⟩ : ByteArray)) := (blk_cell BK270.out 5).trans rfl; have hfz3_0 := blk_frozen BK270.out 0; have hfz3_1 := blk_frozen BK270.out 1; have hfz3_2 := blk_frozen BK270.out 2; have hfz3_3 := blk_frozen BK270.out 3; have hfz3_4 := blk_frozen BK270.out 4; have hfz3_5 := blk_frozen BK270.out 5))
  refine bodyPost_ret (results_cell_row rfl _ _ gb270 26 #[.string a0, .int .u8 2, .int .i64 0, .int .i64 0, .slice none 0 0, .string (⟨#[]⟩ : ByteArray)] (0, 0) _ rfl (by (with_reducible repeat (first | refine blk_drewN ?_ _ | refine blk_drew ?_ | refine blk_alloc ?_ _)); refine blk_put (cs := #[.string a0, .int .u8 2, .int .i64 0, .int .i64 0, .slice none 0 0, .string (⟨#[]⟩ : ByteArray)]) ?_ 5 _ rfl; (with_reducible repeat (first | refine blk_drewN ?_ _ | refine blk_drew ?_ | refine blk_alloc ?_ _)); refine blk_put (cs := #[.string a0, .int .u8 2, .int .i64 0, .int .i64 0, .slice none 0 0, .string (⟨#[]⟩ : ByteArray)]) ?_ 4 _ rfl; (with_reducible repeat (first | refine blk_drewN ?_ _ | refine blk_drew ?_ | refine blk_alloc ?_ _)); refine blk_put (cs := #[.string a0, .int .u8 2, .int .i64 0, .int .i64 0, .slice none 0 0, .string (⟨#[]⟩ : ByteArray)]) ?_ 3 _ rfl; (with_reducible repeat (first | refine blk_drewN ?_ _ | refine blk_drew ?_ | refine blk_alloc ?_ _)); refine blk_put (cs := #[.string a0, .int .u8 2, .int .i64 0, .int .i64 0, .slice none 0 0, .string (⟨#[]⟩ : ByteArray)]) ?_ 2 _ rfl; (with_reducible repeat (first | refine blk_drewN ?_ _ | refine blk_drew ?_ | refine blk_alloc ?_ _)); refine blk_put (cs := #[.string a0, .int .u8 0, .int .i64 0, .int .i64 0, .slice none 0 0, .string (⟨#[]⟩ : ByteArray)]) ?_ 1 _ rfl; (with_reducible repeat (first | refine blk_drewN ?_ _ | refine blk_drew ?_ | refine blk_alloc ?_ _)); refine blk_put (cs := #[.string (⟨#[]⟩ : ByteArray), .int .u8 0, .int .i64 0, .int .i64 0, .slice none 0 0, .string (⟨#[]⟩ : ByteArray)]) ?_ 0 _ rfl; (with_reducible repeat (first | refine blk_drewN ?_ _ | refine blk_drew ?_ | refine blk_alloc ?_ _)); exact BK270.out) Tryd.underlying26 rfl (by kernel_rfl)) rfl ?_
  exact ⟨_, by first | rfl | (simp [errW_none, errW_some] <;> rfl) | (simp [*, errW_none, errW_some] <;> rfl), by first | exact Kd.R_nil _ _ _ _ _ | exact Kd.N_nil _ _ _ _ _ | exact Kd.V_nil _ _ _ _ _ | exact Kd.Q_nil _ _ _ _ _ | exact Kd.S_nil _ _ _ _ _, by repeat (first | (with_reducible first | exact HB.out | apply below_alloc | apply pw_below_drewN | apply below_drew1 | refine below_set ?_ GE270.out) | exact HB.out)⟩
end Go.Proofs.YthpecpkncifngaaDoor.X
end

/- The contracts of tree.Beneath, tree.checked, tree.Without. -/
section
namespace Go.Proofs.YthpecpkncifngaaDoor.X
open Go.RowKit Go.Shelf Go.Proofs.YthpecpkncifngaaDoor Go.Proofs.YthpecpkncifngaaDoorW.PrintWords Go.Proofs.YthpecpkncifngaaDoorW.PrintLast Go.Proofs.YthpecpkncifngaaDoorW.PrintMore Go.Proofs.YthpecpkncifngaaDoor.Pure
theorem checked_any (A : Option Addr) (c : Nat) (xs : List S26) (w : World) (hr : Kd.C k26 w A xs.length xs) :
    Calls Tryd.prog 45 #[.slice A xs.length c] w fun e w' => e = .returned (if (checkP xs).2 = 0 then .tuple #[.slice A xs.length c, .int .i64 0] else .tuple #[.slice none 0 0, .int .i64 (checkP xs).2]) ∧ Below w.heap.size w w' := by
  have HR := Aside0.mk hr
  clear hr
  by_cases h : (checkP xs).2 = 0
  · have hd : ((checkP xs).2 != 0) = false := by simpa using h
    rw [if_pos h]
    have H := Lib.hid h
    clear h
    go_enter Tryd.func45, Tryd.ntmps45
    go_wp2_with fail
    refine (check_tree A c xs _ HR.out).mono ?_
    rintro e w1 ⟨rfl, hb⟩
    go_wp2
    go_ret2
    exact ⟨rfl, hb⟩
  · have hd : ((checkP xs).2 != 0) = true := by simpa using h
    rw [if_neg h]
    have H := Lib.hid h
    clear h
    go_enter Tryd.func45, Tryd.ntmps45
    go_wp2_with fail
    refine (check_tree A c xs _ HR.out).mono ?_
    rintro e w1 ⟨rfl, hb⟩
    go_wp2
    go_ret2
    exact ⟨rfl, hb⟩
noncomputable def outP (path : ByteArray) (x : S26) : Bool := (x.f0.toList != path.toList) && !ben path.data.toList x.f0.data.toList
theorem without1_tells (path : ByteArray) (B : Nat) (w : World) (hc : w.cell? ⟨B, 0, none⟩ = some (.string path)) : Tells 47 #[.pointer (some ⟨B, 0, none⟩)] (outP path) w := by
  intro W x A4 c4 hB hl hr
  have hb := World.block_lt_of_cell? w _ hc
  have hc' := (hB.cell hb).trans hc
  have hbW : B < W.heap.size := Nat.lt_of_lt_of_le hb hB.size
  clear hc
  unfold cellsIt
  by_cases h : (x.f0.toList != path.toList) = true
  · have H := Lib.hid (show outP path x = !ben path.data.toList x.f0.data.toList by unfold outP; rw [h]; rfl)
    have he : (x.f0.toList == path.toList) = false := by simpa using h
    have hp : ¬ (x.f0.toList = path.toList) := by simpa using h
    clear h
    go_enter Tryd.func47, Tryd.ntmps47
    go_wp2_with fail
    refine (ben_any _ _ _).mono ?_
    rintro e w1 ⟨rfl, h1⟩
    go_wp2
    go_ret
    exact ⟨by rw [H.out]; rfl, ((Below.refl _ W).alloc (Nat.le_refl _) _).trans (h1.mono (by simp))⟩
  · have h' : (x.f0.toList != path.toList) = false := by simpa using h
    have H := Lib.hid (show outP path x = false by unfold outP; rw [h']; rfl)
    have he : (x.f0.toList == path.toList) = true := by simpa using h
    have hp : x.f0.toList = path.toList := by simpa using h
    clear h h'
    go_enter Tryd.func47, Tryd.ntmps47
    go_wp2
    go_ret
    exact ⟨by rw [H.out]; rfl, (Below.refl _ W).alloc (Nat.le_refl _) _⟩
noncomputable def withoutP (xs : List S26) (path : ByteArray) : List S26 × Int :=
  if (checkP xs).2 ≠ 0 then ([], (checkP xs).2) else if (findP xs path).2 ≠ 0 then ([], (findP xs path).2) else
  if (checkP (keepP (outP path) xs xs.length)).2 = 0 then (keepP (outP path) xs xs.length, 0) else ([], (checkP (keepP (outP path) xs xs.length)).2)
theorem without_any (A : Option Addr) (c : Nat) (xs : List S26) (path : ByteArray) (w : World) (hr : Kd.C k26 w A xs.length xs) (hm : xs.length * 80 ≤ 140737488351232) (hb4 : ∀ x ∈ xs, x.f4.length ≤ 140737488355328) :
    Calls Tryd.prog 18 #[.slice A xs.length c, .string path] w fun e w' => (∃ v, e = .returned (.tuple #[v, .int .i64 (withoutP xs path).2]) ∧ Kd.V k26 26 w' w.heap.size (fun k => w.heap.size ≤ k) v (withoutP xs path).1) ∧ Below w.heap.size w w' := by
  have HR := Aside0.mk hr
  have H4 := Aside0.mk hb4
  clear hr hb4
  have hB0 : Below w.heap.size w (w.alloc (.cells #[.string path] 9)) := (Below.refl _ w).alloc (Nat.le_refl _) _
  have hcell : (w.alloc (.cells #[.string path] 9)).cell? ⟨w.heap.size, 0, none⟩ = some (.string path) := (cell_new_l w (.string path) 9).1
  have HC := Aside0.mk hcell
  clear hcell
  have hm' : xs.length ≤ 140737488355328 := by omega
  by_cases h1 : (checkP xs).2 = 0
  case neg =>
    have H := Lib.hid (show withoutP xs path = ([], (checkP xs).2) by unfold withoutP; rw [if_pos h1])
    have hd : ((checkP xs).2 != 0) = true := by simpa using h1
    rw [H.out]
    clear h1
    go_enter Tryd.func18, Tryd.ntmps18
    go_wp2_with fail
    refine (check_tree A c xs _ (Kd.C_below HR.out hB0)).mono ?_
    rintro e w1 ⟨rfl, hb⟩
    go_wp2
    go_ret2
    exact ⟨⟨_, rfl, Kd.V_nil _ _ _ _ _⟩, hB0.trans (hb.mono hB0.size)⟩
  have hd : ((checkP xs).2 != 0) = false := by simpa using h1
  by_cases h2 : (findP xs path).2 = 0
  case neg =>
    have H := Lib.hid (show withoutP xs path = ([], (findP xs path).2) by unfold withoutP; rw [if_neg (by simpa using h1), if_pos h2])
    have hd2 : ((findP xs path).2 != 0) = true := by simpa using h2
    rw [H.out]
    clear h1 h2
    go_enter Tryd.func18, Tryd.ntmps18
    go_wp2_with fail
    refine (check_tree A c xs _ (Kd.C_below HR.out hB0)).mono ?_
    rintro e w1 ⟨rfl, hb⟩
    have HB1 := Aside0.mk (hB0.trans (hb.mono hB0.size))
    have hcell := (hb.cell (p := ⟨w.heap.size, 0, none⟩) (by simp)).trans HC.out
    clear hb
    go_wp2_with fail
    refine (find_any A c xs path _ (Kd.C_below HR.out HB1.out) hm').mono ?_
    rintro e w2 ⟨rfl, hb⟩
    go_wp2
    go_ret2
    exact ⟨⟨_, rfl, Kd.V_nil _ _ _ _ _⟩, HB1.out.trans (hb.mono HB1.out.size)⟩
  have hd2 : ((findP xs path).2 != 0) = false := by simpa using h2
  have H := Lib.hid (show withoutP xs path = if (checkP (keepP (outP path) xs xs.length)).2 = 0 then (keepP (outP path) xs xs.length, 0) else ([], (checkP (keepP (outP path) xs xs.length)).2) by unfold withoutP; rw [if_neg (by simpa using h1), if_neg (by simpa using h2)])
  by_cases h3 : (checkP (keepP (outP path) xs xs.length)).2 = 0
  · rw [H.out, if_pos h3]
    have H3 := Lib.hid h3
    clear h1 h2 h3
    go_enter Tryd.func18, Tryd.ntmps18
    go_wp2_with fail
    refine (check_tree A c xs _ (Kd.C_below HR.out hB0)).mono ?_
    rintro e w1 ⟨rfl, hb⟩
    have HB1 := Aside0.mk (hB0.trans (hb.mono hB0.size))
    have hcell := (hb.cell (p := ⟨w.heap.size, 0, none⟩) (by simp)).trans HC.out
    have hlt1 : w.heap.size < w1.heap.size := Nat.lt_of_lt_of_le (by simp) hb.size
    clear hb
    go_wp2_with fail
    refine (find_any A c xs path _ (Kd.C_below HR.out HB1.out) hm').mono ?_
    rintro e w2 ⟨rfl, hb⟩
    have HB2 := Aside0.mk (HB1.out.trans (hb.mono HB1.out.size))
    have HC2 := Aside0.mk ((hb.cell (p := ⟨w.heap.size, 0, none⟩) hlt1).trans hcell)
    clear hb hcell
    go_wp2_with fail
    refine (some_any 47 _ _ A c xs _ (Kd.C_below HR.out HB2.out) hm H4.out (fun args W => by kernel_rfl) (without1_tells path w.heap.size _ HC2.out)).mono ?_
    rintro e w3 ⟨⟨v, rfl, hV⟩, hb⟩
    have HB3 := Aside0.mk (HB2.out.trans (hb.mono HB2.out.size))
    have HV := Aside0.mk (Kd.V_mono hV (fun k h => Nat.le_trans HB2.out.size h))
    clear hV hb HC2 hlt1
    obtain ⟨A', c', rfl⟩ := Kd.V_slice HV.out
    go_wp2_with fail
    refine (checked_any A' c' (keepP (outP path) xs xs.length) _ (Kd.V_reads' HV.out).2.2).mono ?_
    rw [if_pos H3.out]
    rintro e w4 ⟨rfl, hb⟩
    go_wp2
    go_ret2
    exact ⟨⟨_, rfl, Kd.V_below HV.out hb⟩, HB3.out.trans (hb.mono HB3.out.size)⟩
  · rw [H.out, if_neg h3]
    have H3 := Lib.hid h3
    clear h1 h2 h3
    go_enter Tryd.func18, Tryd.ntmps18
    go_wp2_with fail
    refine (check_tree A c xs _ (Kd.C_below HR.out hB0)).mono ?_
    rintro e w1 ⟨rfl, hb⟩
    have HB1 := Aside0.mk (hB0.trans (hb.mono hB0.size))
    have hcell := (hb.cell (p := ⟨w.heap.size, 0, none⟩) (by simp)).trans HC.out
    have hlt1 : w.heap.size < w1.heap.size := Nat.lt_of_lt_of_le (by simp) hb.size
    clear hb
    go_wp2_with fail
    refine (find_any A c xs path _ (Kd.C_below HR.out HB1.out) hm').mono ?_
    rintro e w2 ⟨rfl, hb⟩
    have HB2 := Aside0.mk (HB1.out.trans (hb.mono HB1.out.size))
    have HC2 := Aside0.mk ((hb.cell (p := ⟨w.heap.size, 0, none⟩) hlt1).trans hcell)
    clear hb hcell
    go_wp2_with fail
    refine (some_any 47 _ _ A c xs _ (Kd.C_below HR.out HB2.out) hm H4.out (fun args W => by kernel_rfl) (without1_tells path w.heap.size _ HC2.out)).mono ?_
    rintro e w3 ⟨⟨v, rfl, hV⟩, hb⟩
    have HB3 := Aside0.mk (HB2.out.trans (hb.mono HB2.out.size))
    have HV := Aside0.mk (Kd.V_mono hV (fun k h => Nat.le_trans HB2.out.size h))
    clear hV hb HC2 hlt1
    obtain ⟨A', c', rfl⟩ := Kd.V_slice HV.out
    go_wp2_with fail
    refine (checked_any A' c' (keepP (outP path) xs xs.length) _ (Kd.V_reads' HV.out).2.2).mono ?_
    rw [if_neg H3.out]
    rintro e w4 ⟨rfl, hb⟩
    go_wp2
    go_ret2
    exact ⟨⟨_, rfl, Kd.V_nil _ _ _ _ _⟩, HB3.out.trans (hb.mono HB3.out.size)⟩
end Go.Proofs.YthpecpkncifngaaDoor.X
end

/- Copies and appends of wide elements; a row of one's own that reads foreign elements. No program. -/
section
namespace Go.Proofs.YthpecpkncifngaaDoor.X
open Go Go.RowKit Go.Shelf Go.Proofs.YthpecpkncifngaaDoorW.PrintWords
theorem run_copy_wide {P : Program} (w : World) (dT sT ty elem : TypeId) (sz g o dLen dCap : Nat) (sp : Option Addr) (sLen sCap : Nat) (cur : Array Value) (t : TypeId) (cs : List Value)
    (hu : P.underlying dT = some (.slice elem)) (hs : (P.info? elem).map (·.size) = some sz)
    (hg : w.heap[g]? = some (.cells cur t (0, 0))) (hn : cs.length = Nat.min sLen dLen * sz)
    (hsrc : 0 < cs.length → ∃ ad, sp = some ad ∧ ∀ j v, cs[j]? = some v → w.cell? (ad.add j) = some v) (hfit : o + cs.length ≤ cur.size) (h1 : ∀ v ∈ cs, v.oneCell' = true) :
    (Builtin.copy_ #[dT, sT] ty #[.slice (some ⟨g, o, none⟩) dLen dCap, .slice sp sLen sCap]).run P w =
      .ok (goInt (Nat.min sLen dLen)) (w.setRow g (cur.toList.take o ++ cs ++ cur.toList.drop (o + cs.length)).toArray) := by
  have hst := run_storeCells_at P g o t cs 0 cur w hg (by simpa using hfit) h1
  cases hq : P.info? elem with
  | none => simp [hq] at hs
  | some i =>
    have hi : i.size = sz := by simpa [hq] using hs
    by_cases h0 : cs.length = 0
    · obtain rfl : cs = [] := List.eq_nil_of_length_eq_zero h0
      cases sp with
      | none => simp [Builtin.copy_, run_underlying hu, Builtin.lenOf, Builtin.firstCells, sizeOf, typeInfo, hq, hi] at hst ⊢; simp [hst]
      | some ad =>
        have hl := run_loadCells_list (P := P) w ad [] (fun j v h => by cases h)
        have hn' : Nat.min sLen dLen * sz = 0 := by rw [← hn]; rfl
        simp at hl hst
        simp [Builtin.copy_, run_underlying hu, Builtin.lenOf, Builtin.firstCells, sizeOf, typeInfo, hq, hi, hn', hl, hst]
    · obtain ⟨ad, rfl, hc⟩ := hsrc (by omega)
      have hl := run_loadCells_list (P := P) w ad cs hc
      simp [Builtin.copy_, run_underlying hu, Builtin.lenOf, Builtin.firstCells, sizeOf, typeInfo, hq, hi, ← hn, hl, hst]
theorem F_block {α : Type} {d : Kd α} {W : World} {ok : Nat → Prop} {g t : Nat} {cur : Array Value} {inner pad : List Value} {xs : List α} (hb : W.heap[g]? = some (.cells cur t (0, 0))) (hcur : cur.toList = inner ++ pad)
    (hR : Reps (Kd.FK d W ok) d.sz xs inner) (hg : ok g) (hm : xs.length ≤ 9223372036854775807) : Kd.F d W ok (some ⟨g, 0, none⟩) xs.length xs := by
  intro W' hW
  have hgl : g < W.heap.size := by
    rcases Nat.lt_or_ge g W.heap.size with h | h
    · exact h
    · rw [Array.getElem?_eq_none h] at hb; cases hb
  have hb' : W'.heap[g]? = some (.cells cur t (0, 0)) := (hW g hg hgl).trans hb
  refine ⟨rfl, hm, fun hn => ⟨_, rfl, fun j p hj => ?_⟩⟩
  have hjl : j < xs.length := (List.getElem?_eq_some_iff.1 hj).1
  have hk := hR.2 j p hj W' hW
  refine ⟨(inner.drop (j * d.sz)).take d.sz, d.K_len hk, hk, fun i u hu => ?_⟩
  have hi : i < d.sz := by
    have := (List.getElem?_eq_some_iff.1 hu).1
    rw [List.length_take] at this
    omega
  rw [List.getElem?_take_of_lt hi, List.getElem?_drop] at hu
  have ha : (⟨g, 0, none⟩ : Addr).add (j * d.sz + i) = ⟨g, j * d.sz + i, none⟩ := by rw [Addr.add_lit, Nat.zero_add]
  rw [ha, blk_cell hb']
  have : cur.toList[j * d.sz + i]? = some u := by rw [hcur, List.getElem?_append_left (List.getElem?_eq_some_iff.1 hu).1]; exact hu
  simpa using this
theorem F_inner {α : Type} {d : Kd α} {e : Nat} {W : World} {base : Nat} {ok : Nat → Prop} {ad : Addr} {n c : Nat} {xs : List α} (z : α) (h : Kd.V d e W base ok (.slice (some ad) n c) xs) :
    ∃ inner, Reps (Kd.FK d W ok) d.sz xs inner ∧ ∀ j u, inner[j]? = some u → W.cell? (ad.add j) = some u := by
  have hn := (Kd.V_at h).1
  have key : ∀ m, m ≤ xs.length → ∃ inner, Reps (Kd.FK d W ok) d.sz (xs.take m) inner ∧ ∀ j u, inner[j]? = some u → W.cell? (ad.add j) = some u := by
    intro m
    induction m with
    | zero => exact fun _ => ⟨[], Reps.none _ _, fun j u hu => by simp at hu⟩
    | succ m ih =>
      intro hm
      obtain ⟨inner, hr, hc⟩ := ih (by omega)
      obtain ⟨c', hcl, hK, hcc⟩ := Kd.V_get h z (m : Int) (by omega) (by omega)
      rw [Int.toNat_natCast] at hK hcc
      refine ⟨inner ++ c', ?_, fun j u hu => ?_⟩
      · rw [List.take_add_one, List.getElem?_eq_getElem (by omega)]
        refine Reps.snoc hr ?_ hcl
        rw [List.getD_eq_getElem?_getD, List.getElem?_eq_getElem (by omega)] at hK
        exact hK
      · have hil : inner.length = m * d.sz := by rw [hr.1, List.length_take]; congr 1; omega
        rcases Nat.lt_or_ge j inner.length with hj | hj
        · rw [List.getElem?_append_left hj] at hu; exact hc j u hu
        · rw [List.getElem?_append_right hj] at hu
          have := hcc _ u hu
          rwa [hil, show m * d.sz + (j - m * d.sz) = j by omega] at this
  obtain ⟨inner, hr, hc⟩ := key xs.length (Nat.le_refl _)
  rw [List.take_length] at hr
  exact ⟨inner, hr, hc⟩
theorem Reps.append_ {α : Type} {R : α → List Value → Prop} {size : Nat} {ps qs : List α} {cs ds : List Value} (h : Reps R size ps cs) (h' : Reps R size qs ds) : Reps R size (ps ++ qs) (cs ++ ds) := by
  refine ⟨by rw [List.length_append, List.length_append, h.1, h'.1, Nat.add_mul], fun j p hj => ?_⟩
  rcases Nat.lt_or_ge j ps.length with hlt | hge
  · rw [List.getElem?_append_left hlt] at hj
    have := h.2 j p hj
    have h2 : j * size + size ≤ cs.length := by rw [h.1, ← Nat.succ_mul]; exact Nat.mul_le_mul_right _ hlt
    rw [List.drop_append_of_le_length (by omega), List.take_append_of_le_length (by rw [List.length_drop]; omega)]
    exact this
  · rw [List.getElem?_append_right hge] at hj
    have := h'.2 _ p hj
    have e : j * size = cs.length + (j - ps.length) * size := by rw [h.1, ← Nat.add_mul]; congr 1; omega
    rw [e, List.drop_append, List.drop_eq_nil_of_le (by omega), List.nil_append, Nat.add_sub_cancel_left]
    exact this
theorem Reps.take_ {α : Type} {R : α → List Value → Prop} {size : Nat} {ps : List α} {cs : List Value} (h : Reps R size ps cs) (i : Nat) (hi : i ≤ ps.length) : Reps R size (ps.take i) (cs.take (i * size)) := by
  refine ⟨by rw [List.length_take, List.length_take, h.1, Nat.min_eq_left hi, Nat.min_eq_left (Nat.mul_le_mul_right _ hi)], fun j p hj => ?_⟩
  have hji : j < i := by have := (List.getElem?_eq_some_iff.1 hj).1; rw [List.length_take] at this; omega
  rw [List.getElem?_take_of_lt hji] at hj
  have := h.2 j p hj
  have h2 : j * size + size ≤ i * size := by rw [← Nat.succ_mul]; exact Nat.mul_le_mul_right _ hji
  rw [List.drop_take, List.take_take, Nat.min_eq_left (by omega)]
  exact this
theorem Reps.drop_ {α : Type} {R : α → List Value → Prop} {size : Nat} {ps : List α} {cs : List Value} (h : Reps R size ps cs) (i : Nat) (hi : i ≤ ps.length) : Reps R size (ps.drop i) (cs.drop (i * size)) := by
  refine ⟨by rw [List.length_drop, List.length_drop, h.1, Nat.sub_mul], fun j p hj => ?_⟩
  rw [List.getElem?_drop] at hj
  have := h.2 _ p hj
  rw [Nat.add_mul] at this
  rw [List.drop_drop]
  exact this
theorem Reps.single_ {α : Type} {R : α → List Value → Prop} {size : Nat} {p : α} {c : List Value} (hp : R p c) (hc : c.length = size) : Reps R size [p] c := by
  have := Reps.snoc (Reps.none R size) hp hc
  simpa using this
theorem Reps.one_ {α : Type} {d : Kd α} {W : World} {ok : Nat → Prop} {xs : List α} {inner : List Value} (h : Reps (Kd.FK d W ok) d.sz xs inner) : ∀ v ∈ inner, v.oneCell' = true := by
  intro v hv
  obtain ⟨k, hk, rfl⟩ := List.getElem_of_mem hv
  have hs : 0 < d.sz := by
    rcases Nat.eq_zero_or_pos d.sz with h0 | h0
    · have := h.1; rw [h0, Nat.mul_zero] at this; omega
    · exact h0
  have hkl : k / d.sz < xs.length := by rw [Nat.div_lt_iff_lt_mul hs, ← h.1]; exact hk
  have hK := Kd.FK_now (h.2 (k / d.sz) _ (List.getElem?_eq_getElem hkl))
  refine d.K_one hK _ ?_
  refine List.mem_iff_getElem?.2 ⟨k % d.sz, ?_⟩
  rw [List.getElem?_take_of_lt (Nat.mod_lt _ hs), List.getElem?_drop, Nat.mul_comm, Nat.div_add_mod]
  exact List.getElem?_eq_getElem hk
end Go.Proofs.YthpecpkncifngaaDoor.X
end

/- The contracts of slices.Insert (of one item, into a row without room), tree.byPath, slices.BinarySearchFunc, tree.With. -/
section
namespace Go.Proofs.YthpecpkncifngaaDoor.X
open Go Go.RowKit Go.Shelf Go.Proofs.YthpecpkncifngaaDoor Go.Proofs.YthpecpkncifngaaDoorW.PrintWords Go.Proofs.YthpecpkncifngaaDoorW.PrintLast Go.Proofs.YthpecpkncifngaaDoorW.PrintMore Go.Proofs.YthpecpkncifngaaDoor.Pure
def zIt : Value := .agg #[.string ⟨#[]⟩, .int .u8 0, .int .i64 0, .int .i64 0, .slice none 0 0, .string ⟨#[]⟩]
theorem zero_size (n : Nat) : (Builtin.zeroCells zIt.cells n).size = n * 6 := by
  simp [Builtin.zeroCells, Value.cells, zIt]
set_option maxRecDepth 100000 in
set_option maxHeartbeats 4000000 in
theorem insert_any (A : Option Addr) (i : Nat) (vd : Addr) (xs : List S26) (x : S26) (c : List Value) (base : Nat) (ok : Nat → Prop) (w : World)
    (hV : Kd.V k26 26 w base ok (.slice A xs.length xs.length) xs) (hx : Kd.FK k26 w ok x c) (hcv : ∀ j u, c[j]? = some u → w.cell? (vd.add j) = some u)
    (hi : i ≤ xs.length) (hm : (xs.length + 1) * 80 ≤ 140737488355328) :
    Calls Tryd.prog 55 #[.slice A xs.length xs.length, .int .i64 i, .slice (some vd) 1 1] w fun e w' => (∃ g G, e = .returned (.slice (some ⟨g, 0, none⟩) (xs.length + 1) G) ∧ xs.length + 1 ≤ G ∧ G ≤ 9223372036854775807 ∧ Kd.F k26 w' (fun k => ok k ∨ w.heap.size ≤ k) (some ⟨g, 0, none⟩) (xs.length + 1) (xs.take i ++ [x] ++ xs.drop i)) ∧ Below w.heap.size w w' := by
  obtain ⟨i0, hi0, hz0, hzs, hzb⟩ := info_parts info26
  have hsz : (Tryd.prog.info? 26).map (·.size) = some 6 := by rw [hi0]; simp [hzs]
  have hcl : c.length = 6 := k26.K_len (Kd.FK_now hx)
  have hc1 : ∀ v ∈ c, v.oneCell' = true := k26.K_one (Kd.FK_now hx)
  have hvw : vd.block < w.heap.size := World.block_lt_of_cell? w _ (by have := hcv 0 _ (List.getElem?_eq_getElem (by omega)); exact this)
  obtain ⟨inner, hR, hrd⟩ : ∃ inner, Reps (Kd.FK k26 w ok) 6 xs inner ∧ (0 < inner.length → ∃ ad, A = some ad ∧ ∀ j u, inner[j]? = some u → w.cell? (ad.add j) = some u) := by
    cases A with
    | none =>
      have h0 : xs.length = 0 := by
        rcases Nat.eq_zero_or_pos xs.length with h | h
        · exact h
        · obtain ⟨ad, e, _⟩ := (Kd.V_reads' hV).2.2.2.2 h; cases e
      obtain rfl : xs = [] := List.eq_nil_of_length_eq_zero h0
      exact ⟨[], Reps.none _ _, fun h => by simp at h⟩
    | some ad =>
      obtain ⟨inner, hR, hc⟩ := F_inner (⟨⟨#[]⟩, 0, 0, 0, [], ⟨#[]⟩⟩ : S26) hV
      exact ⟨inner, hR, fun _ => ⟨ad, rfl, hc⟩⟩
  have hil : inner.length = xs.length * 6 := hR.1
  have h1i : ∀ v ∈ inner, v.oneCell' = true := Reps.one_ (d := k26) hR
  have hold : ∀ m, m ≤ xs.length → (Builtin.firstCells i0.size m (.slice A m xs.length)).run Tryd.prog w.drew = .ok (inner.take (m * 6)).toArray w.drew := fun m hm => by
    rw [hzs]
    rcases Nat.eq_zero_or_pos m with h0 | h0
    · subst h0
      cases A with
      | none => rw [run_firstCells_none]; simp
      | some ad => exact run_firstCells_some w.drew 6 0 ad 0 _ (inner.take (0 * 6)) (by simp) (fun j v hj => by simp at hj)
    · obtain ⟨ad, rfl, hc⟩ := hrd (by omega)
      exact run_firstCells_some w.drew 6 m ad m _ (inner.take (m * 6)) (by rw [List.length_take]; omega) (fun j v hj => by
        rw [List.getElem?_take] at hj
        split at hj
        · exact hc j v hj
        · cases hj)
  obtain ⟨G, hG⟩ : ∃ G, G = grownCap w (xs.length + 1) xs.length 26 := ⟨_, rfl⟩
  have hGn : xs.length + 1 ≤ G := by rw [hG]; exact grownCap_ge w _ _ _
  have hG63 : G ≤ 9223372036854775807 := by
    have := grownCap_le_maxLen w (xs.length + 1) xs.length 26 (by unfold maxLen; omega)
    rw [← hG] at this
    unfold maxLen at this
    omega
  have hfr : w.heap.size < (w.drew.alloc (.cells #[] 0)).heap.size := by simp
  by_cases hin : i = xs.length
  · subst hin
    obtain ⟨W1, cur, pad, hW1, hB1, hcur, hrz⟩ : ∃ W1 cur pad, W1.heap[w.heap.size]? = some (.cells cur 26 (0, 0)) ∧ Below w.heap.size w W1 ∧ cur.toList = (inner ++ c) ++ pad ∧ ∀ ty, (Builtin.append_ #[22, 22] ty #[.slice A xs.length xs.length, .slice (some vd) 1 1]).run Tryd.prog w = .ok (.slice (some ⟨w.heap.size, 0, none⟩) (xs.length + 1) G) W1 := by
      refine ⟨w.drew.alloc (.cells ((inner ++ c).toArray ++ Builtin.zeroCells zIt.cells (G - (xs.length + 1))) 26), _, (Builtin.zeroCells zIt.cells (G - (xs.length + 1))).toList, blk_new w.drew _, (below_drew (Below.refl _ _)).alloc (by simp) _, by simp, fun ty => ?_⟩
      rw [hG]
      have hs : Src Tryd.prog i0.size 22 (.slice (some vd) 1 1) 1 c w := Src.ofSlice w Tryd.underlying22 vd 1 1 c (by rw [hzs]; omega) hcv hc1
      have := run_append_grow_src w 22 22 ty 26 i0 _ Tryd.underlying22 hi0 hz0 A xs.length xs.length inner (by have := hold xs.length (Nat.le_refl _); rwa [List.take_of_length_le (by omega)] at this) (.slice (some vd) 1 1) 1 c hs (by omega) (by omega) (by rw [hzb]; exact growslice_fits (by omega) hm)
      exact this
    have HF := Aside0.mk (show Kd.F k26 W1 (fun k => ok k ∨ w.heap.size ≤ k) (some ⟨w.heap.size, 0, none⟩) (xs ++ [x]).length (xs ++ [x]) from F_block hW1 hcur (Reps.append_ (hR.imp_ (fun p c hp => Kd.FK_mono (Kd.FK_below hp hB1) (fun k hk => .inl hk))) (Reps.single_ (Kd.FK_mono (Kd.FK_below hx hB1) (fun k hk => .inl hk)) hcl)) (.inr (Nat.le_refl _)) (by rw [List.length_append, List.length_singleton]; omega))
    have HB := Aside0.mk hB1
    clear hold hrd hR h1i hcv hx hV hcur hW1 hB1 hG hfr
    go_enter Tryd.func55, Tryd.ntmps55
    go_wp2_with (at_builtin; refine Lib.wpList_append_run _ rfl _ _ _ _ rfl _ _ rfl rfl _ _ (hrz _) ?_)
    go_ret
    refine ⟨⟨w.heap.size, G, rfl, hGn, hG63, ?_⟩, HB.out⟩
    have := HF.out
    rw [List.length_append, List.length_singleton] at this
    rw [List.take_length, List.drop_length, List.append_nil]
    exact this
  · have hlt : i < xs.length := by omega
    obtain ⟨ad, rfl, hc⟩ := hrd (by omega)
    have hbw : ad.block < w.heap.size := World.block_lt_of_cell? w _ (hc 0 _ (List.getElem?_eq_getElem (by omega)))
    obtain ⟨W1, cur1, Z, hW1, hB1, hcur1, hZ, hrz⟩ : ∃ W1 cur1 Z, W1.heap[w.heap.size]? = some (.cells cur1 26 (0, 0)) ∧ Below w.heap.size w W1 ∧ cur1.toList = inner.take (i * 6) ++ Z ∧ (xs.length + 1 - i) * 6 ≤ Z.length ∧ ∀ ty, (Builtin.append_ #[22, 3] ty #[.slice (some ad) i xs.length, .int .i64 ((xs.length : Int) + 1 - (i : Int))]).run Tryd.prog w = .ok (.slice (some ⟨w.heap.size, 0, none⟩) (xs.length + 1) G) W1 := by
      refine ⟨w.drew.alloc (.cells ((inner.take (i * 6)).toArray ++ Builtin.zeroCells zIt.cells (xs.length + 1 - i) ++ Builtin.zeroCells zIt.cells (G - (xs.length + 1))) 26), _, (Builtin.zeroCells zIt.cells (xs.length + 1 - i)).toList ++ (Builtin.zeroCells zIt.cells (G - (xs.length + 1))).toList, blk_new w.drew _, (below_drew (Below.refl _ _)).alloc (by simp) _, by simp, by have z1 := zero_size (xs.length + 1 - i); rw [← Array.length_toList] at z1; rw [List.length_append]; omega, fun ty => ?_⟩
      rw [hG]
      have hik : i + (xs.length + 1 - i) = xs.length + 1 := by omega
      have h := Lib.run_append_grow_zeros w 22 3 ty 26 i0 _ .i64 .i64 Tryd.underlying22 Tryd.underlying3 hi0 hz0 (some ad) i xs.length (inner.take (i * 6)) (by
        rw [hzs]
        exact run_firstCells_some w.drew 6 i ad i _ (inner.take (i * 6)) (by rw [List.length_take]; omega) (fun j v hj => by
          rw [List.getElem?_take] at hj
          split at hj
          · exact hc j v hj
          · cases hj)) (xs.length + 1 - i) (by omega) (by omega) (by omega) (by omega) (by rw [hzb]; omega) (by rw [hzb, hik]; exact growslice_fits (by omega) hm)
      rw [hik] at h
      rw [show (xs.length : Int) + 1 - (i : Int) = ((xs.length + 1 - i : Nat) : Int) by omega]
      exact h
    have hil2 : (inner.take (i * 6)).length = i * 6 := by rw [List.length_take]; omega
    -- the one copied
    obtain ⟨W2, cur2, hW2, hB2, hcur2, hcpA⟩ : ∃ W2 cur2, W2.heap[w.heap.size]? = some (.cells cur2 26 (0, 0)) ∧ Below w.heap.size w W2 ∧ cur2.toList = inner.take (i * 6) ++ c ++ Z.drop 6 ∧ ∀ ty dc, (Builtin.copy_ #[22, 22] ty #[.slice (some ⟨w.heap.size, i * 6, none⟩) (xs.length + 1 - i) dc, .slice (some vd) 1 1]).run Tryd.prog W1 = .ok (.int .i64 1) W2 := by
      have hmin : Nat.min 1 (xs.length + 1 - i) = 1 := by simp only [Nat.min_def]; split <;> omega
      have hfit : i * 6 + c.length ≤ cur1.size := by rw [← Array.length_toList, hcur1, List.length_append]; omega
      refine ⟨W1.setRow w.heap.size (cur1.toList.take (i * 6) ++ c ++ cur1.toList.drop (i * 6 + c.length)).toArray, _, setRow_heap W1 w.heap.size cur1 _ _ _ hW1, below_setRow hB1 (Nat.le_refl _) _, ?_, fun ty dc => ?_⟩
      · rw [hcur1, List.take_append_of_le_length (by omega), List.take_of_length_le (by omega), List.drop_append, List.drop_eq_nil_of_le (by omega), List.nil_append, hil2, hcl]
        simp
      · have := run_copy_wide W1 22 22 ty 26 6 w.heap.size (i * 6) (xs.length + 1 - i) dc (some vd) 1 1 cur1 26 c Tryd.underlying22 hsz hW1 (by rw [hmin]; omega) (fun _ => ⟨vd, rfl, fun j v hj => (hB1.cell (World.block_lt_of_cell? w _ (hcv j v hj))).trans (hcv j v hj)⟩) hfit hc1
        rw [hmin] at this
        exact this
    obtain ⟨W3, cur3, pad, hW3, hB3, hcur3, hcpB⟩ : ∃ W3 cur3 pad, W3.heap[w.heap.size]? = some (.cells cur3 26 (0, 0)) ∧ Below w.heap.size w W3 ∧ cur3.toList = (inner.take (i * 6) ++ c ++ inner.drop (i * 6)) ++ pad ∧ ∀ ty dc sc, (Builtin.copy_ #[22, 22] ty #[.slice (some ⟨w.heap.size, (i + 1) * 6, none⟩) (xs.length + 1 - (i + 1)) dc, .slice (some (ad.add (i * 6))) (xs.length - i) sc]).run Tryd.prog W2.drew = .ok (.int .i64 ((xs.length - i : Nat) : Int)) W3 := by
      have hmin : Nat.min (xs.length - i) (xs.length + 1 - (i + 1)) = xs.length - i := by simp only [Nat.min_def]; split <;> omega
      have hdl : (inner.drop (i * 6)).length = (xs.length - i) * 6 := by rw [List.length_drop]; omega
      have hfit : (i + 1) * 6 + (inner.drop (i * 6)).length ≤ cur2.size := by rw [← Array.length_toList, hcur2]; simp only [List.length_append, List.length_drop]; omega
      refine ⟨W2.drew.setRow w.heap.size (cur2.toList.take ((i + 1) * 6) ++ inner.drop (i * 6) ++ cur2.toList.drop ((i + 1) * 6 + (inner.drop (i * 6)).length)).toArray, _, cur2.toList.drop ((i + 1) * 6 + (inner.drop (i * 6)).length), setRow_heap W2.drew w.heap.size cur2 _ _ _ hW2, below_setRow (below_drew hB2) (Nat.le_refl _) _, ?_, fun ty dc sc => ?_⟩
      · rw [show cur2.toList.take ((i + 1) * 6) = inner.take (i * 6) ++ c by rw [hcur2, List.take_append_of_le_length (by rw [List.length_append]; omega), List.take_of_length_le (by rw [List.length_append]; omega)]]
      · have := run_copy_wide W2.drew 22 22 ty 26 6 w.heap.size ((i + 1) * 6) (xs.length + 1 - (i + 1)) dc (some (ad.add (i * 6))) (xs.length - i) sc cur2 26 (inner.drop (i * 6)) Tryd.underlying22 hsz hW2 (by rw [hmin]; exact hdl) (fun _ => ⟨_, rfl, fun j v hj => by
          rw [List.getElem?_drop] at hj
          have h := hc _ v hj
          rw [Addr.add_add]
          refine ((below_drew hB2).cell ?_).trans h
          exact World.block_lt_of_cell? w _ h⟩) hfit (fun v hv => h1i v (List.mem_of_mem_drop hv))
        rw [hmin] at this
        exact this
    have mv : ∀ {p : S26} {c : List Value}, Kd.FK k26 w ok p c → Kd.FK k26 W3 (fun k => ok k ∨ w.heap.size ≤ k) p c := fun h => Kd.FK_mono (Kd.FK_below h hB3) (fun k hk => .inl hk)
    have HF := Aside0.mk (show Kd.F k26 W3 (fun k => ok k ∨ w.heap.size ≤ k) (some ⟨w.heap.size, 0, none⟩) (xs.take i ++ [x] ++ xs.drop i).length (xs.take i ++ [x] ++ xs.drop i) from F_block hW3 hcur3 (Reps.append_ (Reps.append_ (Reps.take_ (hR.imp_ (fun p c hp => mv hp)) i hi) (Reps.single_ (mv hx) hcl)) (Reps.drop_ (hR.imp_ (fun p c hp => mv hp)) i hi)) (.inr (Nat.le_refl _)) (by simp; omega))
    have HB := Aside0.mk hB3
    clear hold hR h1i hcv hx hV hcur1 hW1 hB1 hG hfr hcur2 hW2 hB2 hcur3 hW3 hB3 mv hrd hc hZ
    go_enter Tryd.func55, Tryd.ntmps55
    go_wp2_with (first
      | (at_builtin; refine Lib.wpList_append_run _ rfl _ _ _ _ rfl _ _ rfl rfl _ _ (hrz _) ?_)
      | (at_builtin; refine wpList_copy_runI _ rfl _ _ 22 22 rfl _ _ rfl rfl (hcpA _ _) ?_))
    have hw1 : IntKind.i64.wrap ((i : Int) + 1) = (i : Int) + 1 := by rw [IntKind.wrap_i64]; omega
    have hb1 : (0 : Int) ≤ (i : Int) + 1 := by omega
    have htn : ((i : Int) + 1).toNat = i + 1 := by omega
    have hb2 : (i : Int) + 1 ≤ (xs.length : Int) + 1 := by omega
    have hb3 : (i : Int) ≤ (xs.length : Int) := by omega
    have hci : ¬ (xs.length = i) := by omega
    have hGim : ¬ (G = i + 1) := by omega
    have mixed : Tryd.prog.follows Departure.mixedOrders = true := by kernel_rfl
    go_region_law_o (refine step_copy_runI rfl _ _ 22 22 rfl (.slice (some ⟨w.heap.size, (i + 1) * 6, none⟩) (xs.length + 1 - (i + 1)) (G - (i + 1))) (.slice (some (ad.add (i * 6))) (xs.length - i) (xs.length - i)) (by simp [Act.eval, Act.put]) (by simp [Act.eval, Act.put]) (hcpB 3 (G - (i + 1)) (xs.length - i)) ?_)
    go_wp2
    go_ret
    refine ⟨⟨w.heap.size, G, rfl, hGn, hG63, ?_⟩, HB.out⟩
    have := HF.out
    rw [show (xs.take i ++ [x] ++ xs.drop i).length = xs.length + 1 by simp; omega] at this
    exact this
end Go.Proofs.YthpecpkncifngaaDoor.X
end

/- The contracts of tree.byPath, slices.BinarySearchFunc. -/
section
namespace Go.Proofs.YthpecpkncifngaaDoor.X
open Go Go.RowKit Go.Shelf Go.Proofs.YthpecpkncifngaaDoor Go.Proofs.YthpecpkncifngaaDoorW.PrintWords Go.Proofs.YthpecpkncifngaaDoorW.PrintLast Go.Proofs.YthpecpkncifngaaDoorW.PrintMore Go.Proofs.YthpecpkncifngaaDoor.Pure
theorem bypath_any (x y : S26) (A4 B4 : Option Addr) (c4 d4 : Nat) (w : World) (hx : x.f0.size ≤ 140737488355328) (hy : y.f0.size ≤ 140737488355328) :
    Calls Tryd.prog 53 #[.agg (cellsIt x A4 c4), .agg (cellsIt y B4 d4)] w fun e w' => e = .returned (.int .i64 (cmpI x y)) ∧ Below w.heap.size w w' := by
  unfold cellsIt
  go_enter Tryd.func53, Tryd.ntmps53
  go_wp2_with fail
  refine (compare_any _ _ _ hx hy).mono ?_
  rintro e w1 ⟨rfl, n, rfl⟩
  go_wp2
  go_ret
  exact ⟨rfl, pw_below_drewN (((Below.refl _ w).alloc (Nat.le_refl _) _).alloc (by simp) _) _⟩
def posP (xs : List S26) (y : S26) : Nat := xs.countP (fun x => decide (cmpI x y < 0))
theorem posP_eq (y : S26) : ∀ (xs : List S26) (i : Nat), i ≤ xs.length → (∀ t, t < i → cmpI (rd_T26 xs t) y < 0) → (∀ t, i ≤ t → t < xs.length → 0 ≤ cmpI (rd_T26 xs t) y) → posP xs y = i
  | [], i, hi, _, _ => by simp at hi; simp [hi, posP]
  | a :: r, 0, _, _, h2 => by
    unfold posP
    rw [List.countP_eq_zero]
    intro x hx
    obtain ⟨t, ht, rfl⟩ := List.getElem_of_mem hx
    have := h2 t (Nat.zero_le _) ht
    rw [rd_get _ _ ht] at this
    simpa using this
  | a :: r, i + 1, hi, h1, h2 => by
    have ha : cmpI a y < 0 := by have := h1 0 (Nat.succ_pos _); rwa [rd_get (a :: r) 0 (by simp)] at this
    have ih := posP_eq y r i (by simpa using hi) (fun t ht => by
      have := h1 (t + 1) (by omega)
      have hl : t < r.length := by simp at hi; omega
      rw [rd_get (a :: r) (t + 1) (by simpa using hl)] at this
      rw [rd_get r t hl]; simpa using this) (fun t h3 h4 => by
      have := h2 (t + 1) (by omega) (by simpa using h4)
      rw [rd_get (a :: r) (t + 1) (by simpa using h4)] at this
      rw [rd_get r t h4]; simpa using this)
    unfold posP at ih ⊢
    rw [List.countP_cons_of_pos (by simpa using ha), ih]
set_option maxRecDepth 100000 in
set_option maxHeartbeats 4000000 in
theorem bsearch_any (A : Option Addr) (c : Nat) (xs : List S26) (y : S26) (B4 : Option Addr) (d4 : Nat) (w : World) (hr : Kd.C k26 w A xs.length xs) (hm : xs.length ≤ 140737488355328)
    (hx : ∀ k : Nat, k < xs.length → (rd_T26 xs k).f0.size ≤ 140737488355328) (hy : y.f0.size ≤ 140737488355328)
    (hmono : ∀ a b : Nat, a ≤ b → b < xs.length → cmpI (rd_T26 xs b) y < 0 → cmpI (rd_T26 xs a) y < 0) :
    Calls Tryd.prog 52 #[.slice A xs.length c, .agg (cellsIt y B4 d4), .func (.func 53) #[] #[]] w fun e w' => (∃ b, e = .returned (.tuple #[.int .i64 (posP xs y), .bool b])) ∧ Below w.heap.size w w' := by
  have HR := Aside0.mk hr
  have HX := Aside0.mk hx
  have M := Aside0.mk hmono
  clear hr hx hmono
  generalize hcnt : posP xs y = cnt
  have CN := Lib.hid hcnt
  clear hcnt
  have hB0 : Below w.heap.size w (w.alloc (.cells (cellsIt y B4 d4) 26)) := (Below.refl _ w).alloc (Nat.le_refl _) _
  obtain ⟨wb, hwb⟩ : ∃ wb, wb = w.alloc (.cells (cellsIt y B4 d4) 26) := ⟨_, rfl⟩
  have hbx := box_it y B4 d4 (w := w) (w1 := wb) (by rw [hwb]; exact Below.refl _ _)
  obtain ⟨b0, b1, b2, b3, b4, b5, bz⟩ := hbx
  have BX := Aside0.mk (And.intro b0 (And.intro b1 (And.intro b2 (And.intro b3 (And.intro b4 b5)))))
  clear b0 b1 b2 b3 b4 b5
  have HB0 := Aside0.mk hB0
  clear hB0
  rw [← hwb] at HB0
  have HWB := Lib.hid hwb
  have hcall : ∀ (args : Array Value) (W : World), (callFunc 53 args).run Tryd.prog W = .ok (.enter 53 args) W := fun args W => by kernel_rfl
  unfold cellsIt at hwb
  unfold cellsIt
  go_enter Tryd.func52, Tryd.ntmps52
  go_wp2
  rw [← hwb]
  clear hwb
  have mixed : Tryd.prog.follows Departure.mixedOrders = true := by kernel_rfl
  go_loopg [9, 10] xs.length (fun kx s9 s10 wr => ∃ lo hi : Nat, s9 = .int .i64 lo ∧ s10 = .int .i64 hi ∧ lo ≤ hi ∧ hi ≤ xs.length ∧ hi - lo ≤ kx ∧ Aside0 (Below wb.heap.size wb wr) ∧
    Aside0 ((∀ t, t < lo → cmpI (rd_T26 xs t) y < 0) ∧ (∀ t, hi ≤ t → t < xs.length → 0 ≤ cmpI (rd_T26 xs t) y)))
  case atStart => exact ⟨0, xs.length, rfl, rfl, Nat.zero_le _, Nat.le_refl _, by omega, ⟨Below.refl _ _⟩, ⟨⟨fun t ht => absurd ht (Nat.not_lt_zero _), fun t h1 h2 => by omega⟩⟩⟩
  case round =>
    obtain ⟨lo, hi, rfl, rfl, hlh, hin, hg, hB, I⟩ := hrel
    have hBx := Aside0.mk (HB0.out.trans (hB.out.mono HB0.out.size))
    have st : ∀ {j : Nat} {v : Value}, wb.cell? ⟨w.heap.size, j, none⟩ = some v → wr.cell? ⟨w.heap.size, j, none⟩ = some v := fun {j v} hv => (hB.out.cell (p := ⟨w.heap.size, j, none⟩) bz).trans hv
    have b0 := st BX.out.1
    have b1 := st BX.out.2.1
    have b2 := st BX.out.2.2.1
    have b3 := st BX.out.2.2.2.1
    have b4 := st BX.out.2.2.2.2.1
    have b5 := st BX.out.2.2.2.2.2
    clear st
    by_cases hlt : lo < hi
    · obtain ⟨ad, A4, c4, rfl, h0, h1, h2, h3, h4, h5, hl, hr4⟩ := at_it HR.out hBx.out ((lo + hi) / 2) (by omega)
      have hsx := HX.out ((lo + hi) / 2) (by omega)
      have i1 : (0 : Int) ≤ ((lo : Int) + (hi : Int)) / 2 := by omega
      have i2 : ((lo : Int) + (hi : Int)) / 2 < (xs.length : Int) := by omega
      have i3 : (((lo : Int) + (hi : Int)) / 2).toNat = (lo + hi) / 2 := by omega
      obtain ⟨x, hxk⟩ : ∃ x, x = rd_T26 xs ((lo + hi) / 2 : Nat) := ⟨_, rfl⟩
      rw [← hxk] at h0 h1 h2 h3 h4 h5 hl hsx
      have HXK := Lib.hid hxk
      clear hxk
      have HXC := Aside0.mk (And.intro h0 (And.intro h1 (And.intro h2 (And.intro h3 (And.intro h4 h5)))))
      by_cases hyx : cmpI x y < 0
      · have I2 := Aside0.mk (show (∀ t, t < (lo + hi) / 2 + 1 → cmpI (rd_T26 xs t) y < 0) ∧ (∀ t, hi ≤ t → t < xs.length → 0 ≤ cmpI (rd_T26 xs t) y) from ⟨fun t ht => M.out t ((lo + hi) / 2) (by omega) (by omega) (by rw [← HXK.out]; exact hyx), I.out.2⟩)
        have hd : decide (cmpI x y < 0) = true := decide_eq_true hyx
        clear hyx I
        go_wp2
        have hBn : Below wr.heap.size wr wr.drew := below_drew (Below.refl _ _)
        go_region_held3 (fun W => Below wr.heap.size wr W ∧ W.cell? (ad.add ((lo + hi) / 2 * 6)) = some (.string x.f0) ∧ W.cell? ⟨(ad.add ((lo + hi) / 2 * 6)).block, (ad.add ((lo + hi) / 2 * 6)).off + 1, none⟩ = some (.int .u8 x.f1) ∧ W.cell? ⟨(ad.add ((lo + hi) / 2 * 6)).block, (ad.add ((lo + hi) / 2 * 6)).off + 2, none⟩ = some (.int .i64 x.f2) ∧ W.cell? ⟨(ad.add ((lo + hi) / 2 * 6)).block, (ad.add ((lo + hi) / 2 * 6)).off + 3, none⟩ = some (.int .i64 x.f3) ∧ W.cell? ⟨(ad.add ((lo + hi) / 2 * 6)).block, (ad.add ((lo + hi) / 2 * 6)).off + 4, none⟩ = some (.slice A4 x.f4.length c4) ∧ W.cell? ⟨(ad.add ((lo + hi) / 2 * 6)).block, (ad.add ((lo + hi) / 2 * 6)).off + 5, none⟩ = some (.string x.f5) ∧ W.cell? ⟨w.heap.size, 0, none⟩ = some (.string y.f0) ∧ W.cell? ⟨w.heap.size, 1, none⟩ = some (.int .u8 y.f1) ∧ W.cell? ⟨w.heap.size, 2, none⟩ = some (.int .i64 y.f2) ∧ W.cell? ⟨w.heap.size, 3, none⟩ = some (.int .i64 y.f3) ∧ W.cell? ⟨w.heap.size, 4, none⟩ = some (.slice B4 y.f4.length d4) ∧ W.cell? ⟨w.heap.size, 5, none⟩ = some (.string y.f5))
          (exact ⟨hBn, (hBn.cell (World.block_lt_of_cell? wr _ HXC.out.1)).trans HXC.out.1, (hBn.cell (World.block_lt_of_cell? wr _ HXC.out.2.1)).trans HXC.out.2.1, (hBn.cell (World.block_lt_of_cell? wr _ HXC.out.2.2.1)).trans HXC.out.2.2.1, (hBn.cell (World.block_lt_of_cell? wr _ HXC.out.2.2.2.1)).trans HXC.out.2.2.2.1, (hBn.cell (World.block_lt_of_cell? wr _ HXC.out.2.2.2.2.1)).trans HXC.out.2.2.2.2.1, (hBn.cell (World.block_lt_of_cell? wr _ HXC.out.2.2.2.2.2)).trans HXC.out.2.2.2.2.2,
            (hBn.cell (World.block_lt_of_cell? wr _ b0)).trans b0, (hBn.cell (World.block_lt_of_cell? wr _ b1)).trans b1, (hBn.cell (World.block_lt_of_cell? wr _ b2)).trans b2, (hBn.cell (World.block_lt_of_cell? wr _ b3)).trans b3, (hBn.cell (World.block_lt_of_cell? wr _ b4)).trans b4, (hBn.cell (World.block_lt_of_cell? wr _ b5)).trans b5⟩)
          (first | (go_at_fn 53; refine (bypath_any x y A4 B4 c4 d4 _ hsx hy).mono ?_; rintro e w1 ⟨rfl, hb⟩; replace hBn := hBn.trans (hb.mono hBn.size); clear hb))
        go_wp2
        have HB2 := Aside0.mk (hB.out.trans (hBn.mono hB.out.size))
        go_roundg (hi - ((lo + hi) / 2 + 1))
        case measure => omega
        case rel => exact ⟨(lo + hi) / 2 + 1, hi, by rw [show ((lo : Int) + (hi : Int)) / 2 + 1 = (((lo + hi) / 2 + 1 : Nat) : Int) by omega], rfl, by omega, hin, Nat.le_refl _, HB2, I2⟩
      · have I2 := Aside0.mk (show (∀ t, t < lo → cmpI (rd_T26 xs t) y < 0) ∧ (∀ t, (lo + hi) / 2 ≤ t → t < xs.length → 0 ≤ cmpI (rd_T26 xs t) y) from ⟨I.out.1, fun t ht htn => Int.not_lt.1 fun h => hyx (by rw [HXK.out]; exact M.out ((lo + hi) / 2) t ht htn h)⟩)
        have hd : decide (cmpI x y < 0) = false := decide_eq_false hyx
        clear hyx I
        go_wp2
        have hBn : Below wr.heap.size wr wr.drew := below_drew (Below.refl _ _)
        go_region_held3 (fun W => Below wr.heap.size wr W ∧ W.cell? (ad.add ((lo + hi) / 2 * 6)) = some (.string x.f0) ∧ W.cell? ⟨(ad.add ((lo + hi) / 2 * 6)).block, (ad.add ((lo + hi) / 2 * 6)).off + 1, none⟩ = some (.int .u8 x.f1) ∧ W.cell? ⟨(ad.add ((lo + hi) / 2 * 6)).block, (ad.add ((lo + hi) / 2 * 6)).off + 2, none⟩ = some (.int .i64 x.f2) ∧ W.cell? ⟨(ad.add ((lo + hi) / 2 * 6)).block, (ad.add ((lo + hi) / 2 * 6)).off + 3, none⟩ = some (.int .i64 x.f3) ∧ W.cell? ⟨(ad.add ((lo + hi) / 2 * 6)).block, (ad.add ((lo + hi) / 2 * 6)).off + 4, none⟩ = some (.slice A4 x.f4.length c4) ∧ W.cell? ⟨(ad.add ((lo + hi) / 2 * 6)).block, (ad.add ((lo + hi) / 2 * 6)).off + 5, none⟩ = some (.string x.f5) ∧ W.cell? ⟨w.heap.size, 0, none⟩ = some (.string y.f0) ∧ W.cell? ⟨w.heap.size, 1, none⟩ = some (.int .u8 y.f1) ∧ W.cell? ⟨w.heap.size, 2, none⟩ = some (.int .i64 y.f2) ∧ W.cell? ⟨w.heap.size, 3, none⟩ = some (.int .i64 y.f3) ∧ W.cell? ⟨w.heap.size, 4, none⟩ = some (.slice B4 y.f4.length d4) ∧ W.cell? ⟨w.heap.size, 5, none⟩ = some (.string y.f5))
          (exact ⟨hBn, (hBn.cell (World.block_lt_of_cell? wr _ HXC.out.1)).trans HXC.out.1, (hBn.cell (World.block_lt_of_cell? wr _ HXC.out.2.1)).trans HXC.out.2.1, (hBn.cell (World.block_lt_of_cell? wr _ HXC.out.2.2.1)).trans HXC.out.2.2.1, (hBn.cell (World.block_lt_of_cell? wr _ HXC.out.2.2.2.1)).trans HXC.out.2.2.2.1, (hBn.cell (World.block_lt_of_cell? wr _ HXC.out.2.2.2.2.1)).trans HXC.out.2.2.2.2.1, (hBn.cell (World.block_lt_of_cell? wr _ HXC.out.2.2.2.2.2)).trans HXC.out.2.2.2.2.2,
            (hBn.cell (World.block_lt_of_cell? wr _ b0)).trans b0, (hBn.cell (World.block_lt_of_cell? wr _ b1)).trans b1, (hBn.cell (World.block_lt_of_cell? wr _ b2)).trans b2, (hBn.cell (World.block_lt_of_cell? wr _ b3)).trans b3, (hBn.cell (World.block_lt_of_cell? wr _ b4)).trans b4, (hBn.cell (World.block_lt_of_cell? wr _ b5)).trans b5⟩)
          (first | (go_at_fn 53; refine (bypath_any x y A4 B4 c4 d4 _ hsx hy).mono ?_; rintro e w1 ⟨rfl, hb⟩; replace hBn := hBn.trans (hb.mono hBn.size); clear hb))
        go_wp2
        have HB2 := Aside0.mk (hB.out.trans (hBn.mono hB.out.size))
        go_roundg ((lo + hi) / 2 - lo)
        case measure => omega
        case rel => exact ⟨lo, (lo + hi) / 2, rfl, by rw [show ((lo : Int) + (hi : Int)) / 2 = (((lo + hi) / 2 : Nat) : Int) by omega], by omega, by omega, Nat.le_refl _, HB2, I2⟩
    · obtain rfl : hi = lo := by omega
      have hcn : cnt = hi := by rw [← CN.out]; exact posP_eq y xs hi hin I.out.1 I.out.2
      have HCN := Lib.hid hcn
      clear I hlt hcn
      have hBn : Below wr.heap.size wr wr.drew := below_drew (Below.refl _ _)
      by_cases hn : hi < xs.length
      · obtain ⟨ad, A4, c4, rfl, h0, h1, h2, h3, h4, h5, hl, hr4⟩ := at_it HR.out hBx.out hi hn
        have hsx := HX.out hi hn
        clear hr4
        obtain ⟨x, hxk⟩ : ∃ x, x = rd_T26 xs hi := ⟨_, rfl⟩
        rw [← hxk] at h0 h1 h2 h3 h4 h5 hl hsx
        have HXC := Aside0.mk (And.intro h0 (And.intro h1 (And.intro h2 (And.intro h3 (And.intro h4 h5)))))
        clear hxk
        go_wp2
        go_region_held3 (fun W => Below wr.heap.size wr W ∧ W.cell? (ad.add (hi * 6)) = some (.string x.f0) ∧ W.cell? ⟨(ad.add (hi * 6)).block, (ad.add (hi * 6)).off + 1, none⟩ = some (.int .u8 x.f1) ∧ W.cell? ⟨(ad.add (hi * 6)).block, (ad.add (hi * 6)).off + 2, none⟩ = some (.int .i64 x.f2) ∧ W.cell? ⟨(ad.add (hi * 6)).block, (ad.add (hi * 6)).off + 3, none⟩ = some (.int .i64 x.f3) ∧ W.cell? ⟨(ad.add (hi * 6)).block, (ad.add (hi * 6)).off + 4, none⟩ = some (.slice A4 x.f4.length c4) ∧ W.cell? ⟨(ad.add (hi * 6)).block, (ad.add (hi * 6)).off + 5, none⟩ = some (.string x.f5) ∧ W.cell? ⟨w.heap.size, 0, none⟩ = some (.string y.f0) ∧ W.cell? ⟨w.heap.size, 1, none⟩ = some (.int .u8 y.f1) ∧ W.cell? ⟨w.heap.size, 2, none⟩ = some (.int .i64 y.f2) ∧ W.cell? ⟨w.heap.size, 3, none⟩ = some (.int .i64 y.f3) ∧ W.cell? ⟨w.heap.size, 4, none⟩ = some (.slice B4 y.f4.length d4) ∧ W.cell? ⟨w.heap.size, 5, none⟩ = some (.string y.f5))
          (exact ⟨hBn, (hBn.cell (World.block_lt_of_cell? wr _ HXC.out.1)).trans HXC.out.1, (hBn.cell (World.block_lt_of_cell? wr _ HXC.out.2.1)).trans HXC.out.2.1, (hBn.cell (World.block_lt_of_cell? wr _ HXC.out.2.2.1)).trans HXC.out.2.2.1, (hBn.cell (World.block_lt_of_cell? wr _ HXC.out.2.2.2.1)).trans HXC.out.2.2.2.1, (hBn.cell (World.block_lt_of_cell? wr _ HXC.out.2.2.2.2.1)).trans HXC.out.2.2.2.2.1, (hBn.cell (World.block_lt_of_cell? wr _ HXC.out.2.2.2.2.2)).trans HXC.out.2.2.2.2.2,
            (hBn.cell (World.block_lt_of_cell? wr _ b0)).trans b0, (hBn.cell (World.block_lt_of_cell? wr _ b1)).trans b1, (hBn.cell (World.block_lt_of_cell? wr _ b2)).trans b2, (hBn.cell (World.block_lt_of_cell? wr _ b3)).trans b3, (hBn.cell (World.block_lt_of_cell? wr _ b4)).trans b4, (hBn.cell (World.block_lt_of_cell? wr _ b5)).trans b5⟩)
          (first | (go_at_fn 53; refine (bypath_any x y A4 B4 c4 d4 _ hsx hy).mono ?_; rintro e w1 ⟨rfl, hb⟩; replace hBn := hBn.trans (hb.mono hBn.size); clear hb))
        go_wp2
        go_ret2
        exact ⟨⟨cmpI x y == 0, by rw [HCN.out]; rfl⟩, hBx.out.trans (hBn.mono hBx.out.size)⟩
      · obtain rfl : hi = xs.length := by omega
        clear hn
        have hno : decide ((xs.length : Int) < (xs.length : Int)) = false := decide_eq_false (by omega)
        go_wp2
        go_quiet (fail)
        go_wp2
        go_ret2
        exact ⟨⟨false, by rw [HCN.out]; rfl⟩, pw_below_drewN hBx.out _⟩
noncomputable def insP (xs : List S26) (y : S26) : List S26 := xs.take (posP xs y) ++ [y] ++ xs.drop (posP xs y)
def neP (y x : S26) : Bool := x.f0.toList != y.f0.toList
noncomputable def withP (xs : List S26) (y : S26) : List S26 × Int :=
  if (checkP xs).2 ≠ 0 then ([], (checkP xs).2) else
  if (checkP (insP (keepP (neP y) xs xs.length) y)).2 = 0 then (insP (keepP (neP y) xs xs.length) y, 0) else ([], (checkP (insP (keepP (neP y) xs xs.length) y)).2)
theorem with1_tells (y : S26) (B : Nat) (w : World) (hc : w.cell? ⟨B, 0, none⟩ = some (.string y.f0)) : Tells 51 #[.pointer (some ⟨B, 0, none⟩)] (neP y) w := by
  intro W x A4 c4 hB hl hr
  have hb := World.block_lt_of_cell? w _ hc
  have hc' := (hB.cell hb).trans hc
  have hbW : B < W.heap.size := Nat.lt_of_lt_of_le hb hB.size
  clear hc
  unfold cellsIt
  go_enter Tryd.func51, Tryd.ntmps51
  go_wp2
  go_ret
  exact ⟨by unfold neP; first | rfl | (simp [bne]; done), (Below.refl _ W).alloc (Nat.le_refl _) _⟩
end Go.Proofs.YthpecpkncifngaaDoor.X
end

/- The contract of tree.With. -/
section
namespace Go.Proofs.YthpecpkncifngaaDoor.X
open Go Go.RowKit Go.Shelf Go.Proofs.YthpecpkncifngaaDoor Go.Proofs.YthpecpkncifngaaDoorW.PrintWords Go.Proofs.YthpecpkncifngaaDoorW.PrintLast Go.Proofs.YthpecpkncifngaaDoorW.PrintMore Go.Proofs.YthpecpkncifngaaDoor.Pure
theorem rise_mono {xs : List S26} (h : xs.Pairwise (fun a b => cmpI a b = -1)) (y : S26) (a b : Nat) (hab : a ≤ b) (hb : b < xs.length) (hc : cmpI (rd_T26 xs b) y < 0) : cmpI (rd_T26 xs a) y < 0 := by
  rcases Nat.eq_or_lt_of_le hab with rfl | hlt
  · exact hc
  · have h1 := List.pairwise_iff_getElem.1 h a b (by omega) hb hlt
    rw [rd_get xs a (by omega)]
    rw [rd_get xs b hb] at hc
    have h2 : cmpI xs[b] y = -1 := by
      rcases Nm.cmp_vals (Nm.texts xs[b].f0.data.toList) (Nm.texts y.f0.data.toList) with e | e | e <;> unfold cmpI at hc ⊢ <;> omega
    have := Nm.cmp_lt_trans _ _ _ h1 h2
    unfold cmpI
    omega
end Go.Proofs.YthpecpkncifngaaDoor.X
end

/- TreeKnown: the plain words in a form that the kernel reckons. -/
section
namespace Go.Proofs.YthpecpkncifngaaDoor.X
open Go.RowKit Go.Shelf Go.Proofs.YthpecpkncifngaaDoor Go.Proofs.YthpecpkncifngaaDoorW.PrintWords Go.Proofs.YthpecpkncifngaaDoorW.PrintLast Go.Proofs.YthpecpkncifngaaDoorW.PrintMore Go.Proofs.YthpecpkncifngaaDoor.Pure
def chkF (xs : List S26) : Nat → Nat → Int × Int
  | 0, _ => (0, 0)
  | f + 1, k => if k < xs.length then (if stepP xs k = 0 then chkF xs f (k + 1) else ((k : Int), stepP xs k)) else (0, 0)
theorem chkF_eq (xs : List S26) : ∀ f k, xs.length - k ≤ f → chkP xs k = chkF xs f k
  | 0, k, h => by rw [chkP_end (by omega), chkF]
  | f + 1, k, h => by
    rw [chkF]
    by_cases hk : k < xs.length
    · rw [if_pos hk]
      by_cases hs : stepP xs k = 0
      · rw [if_pos hs, chkP_go hk hs, chkF_eq xs f (k + 1) (by omega)]
      · rw [if_neg hs, chkP_stop hk rfl hs]
    · rw [if_neg hk, chkP_end (by omega)]
def checkF (xs : List S26) : Int × Int := if 256 < xs.length then (256, 3) else chkF xs xs.length 0
theorem checkF_eq (xs : List S26) : checkP xs = checkF xs := by
  unfold checkP checkF
  split
  · rfl
  · exact chkF_eq xs _ 0 (by omega)
def kn (p : List UInt8) (k : Int) (b : List Int) (t : List UInt8) : S26 := ⟨⟨p.toArray⟩, k, 0, 0, b, ⟨t.toArray⟩⟩
def smallL : List S26 := [kn [97] 2 [] [], kn [97, 47, 102] 1 [1, 2, 3] [], kn [97, 47, 104] 3 [] [97, 47, 102], kn [97, 47, 115] 4 [] [102], kn [108] 4 [] [97]]
set_option maxRecDepth 1000000 in
theorem known_c1 : checkF [kn [97, 47, 102] 1 [] [], kn [97] 2 [] []] = (0, 112) := by decide +kernel
set_option maxRecDepth 1000000 in
theorem known_c2 : checkF [kn [97] 2 [] [], kn [97] 2 [] []] = (1, 111) := by decide +kernel
def realF (xs : List S26) : Nat → List (List UInt8) → List (List UInt8) → Nat → Option (List UInt8 × Int)
  | 0, _, _, _ => none
  | _ + 1, R, [], _ => some (Nm.joinT R, 0)
  | f + 1, R, p :: rest, hops =>
    match itemOf xs (Nm.joinT (R ++ [p])) with
    | none => some ([], 4)
    | some x =>
      if (hardTo xs x).f1 = 1 ∧ rest ≠ [] then some ([], 4)
      else if (hardTo xs x).f1 ≠ 4 then realF xs f (Nm.partsL (hardTo xs x).f0.data.toList) rest hops
      else if 40 ≤ hops then some ([], 114)
      else realF xs f [] (Nm.partsL (Nm.lead (hardTo xs x).f0.data.toList (hardTo xs x).f5.data.toList).1 ++ rest) (hops + 1)
theorem realF_eq (xs : List S26) : ∀ (f : Nat) (R L : List (List UInt8)) (hops : Nat) (r : List UInt8 × Int), realF xs f R L hops = some r → realP xs R L hops = r
  | 0, _, _, _, _, h => by simp [realF] at h
  | f + 1, R, [], hops, r, h => by
    rw [realF] at h
    rw [real_nil]; exact Option.some.inj h
  | f + 1, R, p :: rest, hops, r, h => by
    rw [realF] at h
    rw [realP]
    split at h
    · rename_i e; rw [e]; exact Option.some.inj h
    · rename_i x e
      rw [e]
      dsimp only
      split at h
      · rename_i c; rw [if_pos c]; exact Option.some.inj h
      · rename_i c
        rw [if_neg c]
        split at h
        · rename_i c2; rw [if_pos c2]; exact realF_eq xs f _ _ _ _ h
        · rename_i c2
          rw [if_neg c2]
          split at h
          · rename_i c3; rw [dif_pos c3]; exact Option.some.inj h
          · rename_i c3; rw [dif_neg c3]; exact realF_eq xs f _ _ _ _ h
def realTF (xs : List S26) (path : List UInt8) : Option (List UInt8 × Int) :=
  if (checkF xs).2 ≠ 0 then some ([], (checkF xs).2) else if path = [] then some ([], 0) else
  if (Nm.check path).2 ≠ 0 then some ([], ((Nm.check path).2 : Int)) else realF xs 400 [] (Nm.texts path) 0
theorem realTF_eq {xs : List S26} {path : List UInt8} {r : List UInt8 × Int} (h : realTF xs path = some r) : realT xs path = r := by
  unfold realTF at h
  unfold realT
  rw [checkF_eq]
  split at h
  · rename_i c; rw [if_pos c]; exact Option.some.inj h
  · rename_i c
    rw [if_neg c]
    split at h
    · rename_i c2; rw [if_pos c2]; exact Option.some.inj h
    · rename_i c2
      rw [if_neg c2]
      split at h
      · rename_i c3; rw [if_pos c3]; exact Option.some.inj h
      · rename_i c3; rw [if_neg c3]; exact realF_eq _ _ _ _ _ _ h
def linkL (i : Nat) : List UInt8 := 108 :: (List.replicate (i / 26) 122 ++ [(97 + i % 26).toUInt8])
def chainL (n : Nat) : List S26 := (List.range n).map (fun i => kn (linkL i) 4 [] (if i + 1 = n then [120] else linkL (i + 1))) ++ [kn [120] 1 [] []]
set_option maxRecDepth 1000000 in
theorem known_r1 : realTF smallL [97, 47, 104] = some ([97, 47, 102], 0) := by decide +kernel
set_option maxRecDepth 1000000 in
theorem known_r2 : realTF smallL [108] = some ([97], 0) := by decide +kernel
set_option maxRecDepth 1000000 in
theorem known_r4 : realTF smallL [97, 47, 102, 47, 120] = some ([], 4) := by decide +kernel
set_option maxRecDepth 1000000 in
theorem known_r6 : realTF smallL [108, 47, 108] = some ([], 4) := by decide +kernel
set_option maxRecDepth 1000000 in
theorem known_r7 : realTF [kn [108] 4 [] [108]] [108] = some ([], 114) := by decide +kernel
set_option maxRecDepth 1000000 in
theorem known_r8 : realTF (chainL 40) [108, 97] = some ([120], 0) := by decide +kernel
set_option maxRecDepth 1000000 in
theorem known_r9 : realTF (chainL 41) [108, 97] = some ([], 114) := by decide +kernel
end Go.Proofs.YthpecpkncifngaaDoor.X
end

/- The contract of tree.With: the walk. -/
section
namespace Go.Proofs.YthpecpkncifngaaDoor.X
open Go Go.RowKit Go.Shelf Go.Proofs.YthpecpkncifngaaDoor Go.Proofs.YthpecpkncifngaaDoorW.PrintWords Go.Proofs.YthpecpkncifngaaDoorW.PrintLast Go.Proofs.YthpecpkncifngaaDoorW.PrintMore Go.Proofs.YthpecpkncifngaaDoor.Pure
set_option maxRecDepth 100000 in
set_option maxHeartbeats 4000000 in
theorem with_any (A : Option Addr) (c : Nat) (xs : List S26) (y : S26) (A4 : Option Addr) (c4 : Nat) (w : World) (hr : Kd.C k26 w A xs.length xs) (hm : xs.length * 80 ≤ 140737488351232) (hb4 : ∀ x ∈ xs, x.f4.length ≤ 140737488355328)
    (hy0 : y.f0.size ≤ 140737488355328) (hl : y.f4.length ≤ c4) (hy4 : y.f4.length ≤ 140737488355328) (hr4 : (Kd.int .u8).C w A4 y.f4.length y.f4) :
    Calls Tryd.prog 21 #[.slice A xs.length c, .agg (cellsIt y A4 c4)] w fun e w' => (∃ v, e = .returned (.tuple #[v, .int .i64 (withP xs y).2]) ∧ Kd.V k26 26 w' w.heap.size (fun k => w.heap.size ≤ k) v (withP xs y).1) ∧ Below w.heap.size w w' := by
  have HR := Aside0.mk hr
  have HR4 := Aside0.mk hr4
  have H4 := Aside0.mk hb4
  clear hr hr4 hb4
  have hB0 : Below w.heap.size w (w.alloc (.cells (cellsIt y A4 c4) 26)) := (Below.refl _ w).alloc (Nat.le_refl _) _
  by_cases h1 : (checkP xs).2 = 0
  case neg =>
    have H := Lib.hid (show withP xs y = ([], (checkP xs).2) by unfold withP; rw [if_pos h1])
    have hd : ((checkP xs).2 != 0) = true := by simpa using h1
    rw [H.out]
    clear h1
    unfold cellsIt
    go_enter Tryd.func21, Tryd.ntmps21
    go_wp2_with fail
    refine (check_tree A c xs _ (Kd.C_below HR.out hB0)).mono ?_
    rintro e w1 ⟨rfl, hb⟩
    go_wp2
    go_ret2
    exact ⟨⟨_, rfl, Kd.V_nil _ _ _ _ _⟩, hB0.trans (hb.mono hB0.size)⟩
  have hd : ((checkP xs).2 != 0) = false := by simpa using h1
  obtain ⟨hlen, _⟩ := chk_ok h1
  obtain ⟨hrise, hmay⟩ := chk_rise h1
  have hkeep := keepP_all (neP y) xs
  have hkr : (keepP (neP y) xs xs.length).Pairwise (fun a b => cmpI a b = -1) := by rw [hkeep]; exact hrise.filter _
  have hkm : ∀ x ∈ keepP (neP y) xs xs.length, x.f0.size ≤ 140737488355328 := by
    rw [hkeep]
    intro x hx
    have := may_size (hmay x (List.mem_filter.1 hx).1)
    omega
  have hkl : (keepP (neP y) xs xs.length).length ≤ 256 := Nat.le_trans (keepP_len _ _ _) hlen
  have H := Lib.hid (show withP xs y = if (checkP (insP (keepP (neP y) xs xs.length) y)).2 = 0 then (insP (keepP (neP y) xs xs.length) y, 0) else ([], (checkP (insP (keepP (neP y) xs xs.length) y)).2) by unfold withP; rw [if_neg (by simpa using h1)])
  clear h1 hlen hrise hmay hkeep
  generalize hks : keepP (neP y) xs xs.length = ks at *
  have HKS := Lib.hid hks
  have HKR := Aside0.mk hkr
  have HKM := Aside0.mk hkm
  clear hkr hkm hks
  unfold cellsIt
  go_enter Tryd.func21, Tryd.ntmps21
  go_wp2_with fail
  refine (check_tree A c xs _ (Kd.C_below HR.out hB0)).mono ?_
  rintro e w1 ⟨rfl, hb⟩
  obtain ⟨a0, a1, a2, a3, a4, a5, az⟩ := box_it y A4 c4 hb
  have HB1 := Aside0.mk (hB0.trans (hb.mono hB0.size))
  clear hb
  have HT := Aside0.mk (with1_tells y w.heap.size w1 a0)
  go_wp2_with fail
  refine (some_clip 51 _ _ A c xs _ (Kd.C_below HR.out HB1.out) hm H4.out (fun args W => by kernel_rfl) HT.out).mono ?_
  rw [HKS.out]
  rintro e w2 ⟨⟨A', rfl, hV⟩, hb⟩
  have st : ∀ {j : Nat} {v : Value}, w1.cell? ⟨w.heap.size, j, none⟩ = some v → w2.cell? ⟨w.heap.size, j, none⟩ = some v := fun {j v} hv => (hb.cell (p := ⟨w.heap.size, j, none⟩) az).trans hv
  have b0 := st a0
  have b1 := st a1
  have b2 := st a2
  have b3 := st a3
  have b4 := st a4
  have b5 := st a5
  have bz := Nat.lt_of_lt_of_le az hb.size
  have HB2 := Aside0.mk (HB1.out.trans (hb.mono HB1.out.size))
  have HV2 := Aside0.mk (Kd.V_mono hV (fun k hk => Nat.le_trans HB1.out.size hk))
  have HT := ()
  clear hb hV st a0 a1 a2 a3 a4 a5 az HT
  go_wp2_with fail
  refine (bsearch_any A' ks.length ks y A4 c4 _ (Kd.V_reads' HV2.out).2.2 (by omega) (fun k hk => HKM.out _ (by rw [rd_get _ _ hk]; exact List.getElem_mem hk)) hy0 (rise_mono HKR.out y)).mono ?_
  rintro e w3 ⟨⟨bb, rfl⟩, hb⟩
  have st : ∀ {j : Nat} {v : Value}, w2.cell? ⟨w.heap.size, j, none⟩ = some v → w3.cell? ⟨w.heap.size, j, none⟩ = some v := fun {j v} hv => (hb.cell (p := ⟨w.heap.size, j, none⟩) bz).trans hv
  replace b0 := st b0
  replace b1 := st b1
  replace b2 := st b2
  replace b3 := st b3
  replace b4 := st b4
  replace b5 := st b5
  have HB3 := Aside0.mk (HB2.out.trans (hb.mono HB2.out.size))
  have HV3 := Aside0.mk (Kd.V_below HV2.out hb)
  clear hb st HB1 HB2 HV2 bz
  go_wp2_with fail
  refine (own_any y A4 c4 _ hl hy4 (Kd.C_below HR4.out HB3.out)).mono ?_
  rintro e w4 ⟨⟨A5, rfl, hF⟩, hb⟩
  unfold cellsIt
  have HB4 := Aside0.mk (HB3.out.trans (hb.mono HB3.out.size))
  have HV4 := Aside0.mk (Kd.V_below HV3.out hb)
  have HF4 := Aside0.mk (Kd.F_mono hF (fun k hk => Nat.le_trans HB3.out.size hk))
  clear hb hF
  go_wp2_with fail
  have hBa : Below w4.heap.size w4 (w4.alloc (.cells (cellsIt y A5 y.f4.length) 26)) := (Below.refl _ w4).alloc (Nat.le_refl _) _
  have hpl : posP ks y ≤ ks.length := List.countP_le_length
  refine (insert_any A' (posP ks y) ⟨w4.heap.size, 0, none⟩ ks y (cellsIt y A5 y.f4.length).toList w.heap.size (fun k => w.heap.size ≤ k) _ (Kd.V_below HV4.out hBa) (k26_mkF _ _ _ (Nat.le_refl _) (Kd.F_below HF4.out hBa)) (fun j u hj => ?_) hpl (by omega)).mono ?_
  · rw [Addr.add_lit, Nat.zero_add]
    refine (blk_cell (blk_new w4 _) j).trans ?_
    simpa using hj
  rintro e w5 ⟨⟨g, G, rfl, hG1, hG2, hF5⟩, hb⟩
  have HB5 := Aside0.mk (HB4.out.trans ((hBa.trans (hb.mono hBa.size)).mono HB4.out.size))
  have HF5 := Aside0.mk (show Kd.F k26 w5 (fun k => w.heap.size ≤ k) (some ⟨g, 0, none⟩) (insP ks y).length (insP ks y) by
    have hl5 : (insP ks y).length = ks.length + 1 := by unfold insP; simp; omega
    rw [hl5]
    exact Kd.F_mono hF5 (fun k hk => hk.elim id (fun h => Nat.le_trans HB4.out.size (Nat.le_trans hBa.size h))))
  have hl5 : ks.length + 1 = (insP ks y).length := by unfold insP; simp; omega
  clear hF5 hb hBa HV4 HV3 HF4 b0 b1 b2 b3 b4 b5 hpl
  rw [hl5] at hG1 ⊢
  generalize hins : insP ks y = r at *
  go_wp2_with fail
  refine (clip_items (some ⟨g, 0, none⟩) r.length G _ hG1 hG2).mono ?_
  rintro e w6 ⟨rfl, rfl⟩
  go_wp2_with fail
  refine (checked_any (some ⟨g, 0, none⟩) r.length r _ (Kd.F_now HF5.out)).mono ?_
  by_cases h3 : (checkP r).2 = 0
  · rw [if_pos h3]
    rw [if_pos h3] at H
    clear h3
    rintro e w7 ⟨rfl, hb⟩
    go_wp2
    go_ret2
    exact ⟨by rw [H.out]; exact ⟨_, rfl, Kd.V_below (Kd.V_mk (Nat.le_refl _) HF5.out) hb⟩, HB5.out.trans (hb.mono HB5.out.size)⟩
  · rw [if_neg h3]
    rw [if_neg h3] at H
    clear h3
    rintro e w7 ⟨rfl, hb⟩
    go_wp2
    go_ret2
    exact ⟨by rw [H.out]; exact ⟨_, rfl, Kd.V_nil _ _ _ _ _⟩, HB5.out.trans (hb.mono HB5.out.size)⟩
end Go.Proofs.YthpecpkncifngaaDoor.X
end

/- TreeKnown: more of the closed facts: With, Without, May, Sort, and the lists that the law makes. -/
section
namespace Go.Proofs.YthpecpkncifngaaDoor.X
open Go.RowKit Go.Shelf Go.Proofs.YthpecpkncifngaaDoor Go.Proofs.YthpecpkncifngaaDoorW.PrintWords Go.Proofs.YthpecpkncifngaaDoorW.PrintLast Go.Proofs.YthpecpkncifngaaDoorW.PrintMore Go.Proofs.YthpecpkncifngaaDoor.Pure
def benF (a p : List UInt8) : Bool := decide ((Nm.check p).2 = 0) && (a.isEmpty || (a ++ [47]).isPrefixOf p)
theorem benF_eq (a p : List UInt8) : ben a p = benF a p := by
  by_cases h : (Nm.check p).2 = 0 ∧ (a = [] ∨ ∃ b, p = a ++ 47 :: b)
  · rw [ben_true h]
    obtain ⟨h1, h2⟩ := h
    unfold benF
    rw [decide_eq_true h1, Bool.true_and]
    rcases h2 with rfl | ⟨b, rfl⟩
    · rfl
    · have : (a ++ [47]).isPrefixOf (a ++ 47 :: b) = true := List.isPrefixOf_iff_prefix.2 ⟨b, by simp⟩
      rw [this, Bool.or_true]
  · rw [ben_false h]
    unfold benF
    by_cases h1 : (Nm.check p).2 = 0
    · rw [decide_eq_true h1, Bool.true_and]
      have h2 : ¬ (a = [] ∨ ∃ b, p = a ++ 47 :: b) := fun g => h ⟨h1, g⟩
      have e1 : a.isEmpty = false := by
        cases a with
        | nil => exact absurd (.inl rfl) h2
        | cons => rfl
      have e2 : (a ++ [47]).isPrefixOf p = false := by
        rw [Bool.eq_false_iff]
        intro g
        obtain ⟨b, hb⟩ := List.isPrefixOf_iff_prefix.1 g
        exact h2 (.inr ⟨b, by rw [← hb]; simp⟩)
      rw [e1, e2]; rfl
    · rw [decide_eq_false h1, Bool.false_and]
def idxF (p : S26 → Bool) (xs : List S26) : Nat → Nat → Int
  | 0, _ => -1
  | f + 1, k => if k < xs.length then (if p (rd_T26 xs k) then (k : Int) else idxF p xs f (k + 1)) else -1
theorem idxF_eq (p : S26 → Bool) (xs : List S26) : ∀ f k, xs.length - k ≤ f → idxP p xs k = idxF p xs f k
  | 0, k, h => by rw [idxP_end (by omega), idxF]
  | f + 1, k, h => by
    rw [idxF]
    by_cases hk : k < xs.length
    · rw [if_pos hk]
      cases hp : p (rd_T26 xs k) with
      | true => rw [if_pos rfl, idxP_yes hk hp]
      | false => rw [if_neg (by simp), idxP_no hk hp, idxF_eq p xs f (k + 1) (by omega)]
    · rw [if_neg hk, idxP_end (by omega)]
def findF (xs : List S26) (path : ByteArray) : Int × Int := if idxF (fun x => x.f0.data.toList == path.data.toList) xs xs.length 0 < 0 then (0, 4) else (idxF (fun x => x.f0.data.toList == path.data.toList) xs xs.length 0, 0)
theorem findF_eq (xs : List S26) (path : ByteArray) : findP xs path = findF xs path := by
  unfold findP findF
  rw [← idxF_eq _ xs xs.length 0 (by omega)]
  simp only [toList_eq]
def outF (path : List UInt8) (x : S26) : Bool := (x.f0.data.toList != path) && !benF path x.f0.data.toList
theorem outF_eq (path : ByteArray) : outP path = outF path.data.toList := by
  funext x
  unfold outP outF
  rw [benF_eq, toList_eq, toList_eq]
def withoutF (xs : List S26) (path : ByteArray) : List S26 × Int :=
  if (checkF xs).2 ≠ 0 then ([], (checkF xs).2) else if (findF xs path).2 ≠ 0 then ([], (findF xs path).2) else
  if (checkF (xs.filter (outF path.data.toList))).2 = 0 then (xs.filter (outF path.data.toList), 0) else ([], (checkF (xs.filter (outF path.data.toList))).2)
theorem withoutF_eq (xs : List S26) (path : ByteArray) : withoutP xs path = withoutF xs path := by
  unfold withoutP withoutF
  rw [keepP_all, outF_eq, findF_eq, checkF_eq, checkF_eq]
def neF (p : List UInt8) (x : S26) : Bool := x.f0.data.toList != p
def insF' (xs : List S26) (y : S26) : List S26 := xs.take (posP xs y) ++ [y] ++ xs.drop (posP xs y)
def withF (xs : List S26) (y : S26) : List S26 × Int :=
  if (checkF xs).2 ≠ 0 then ([], (checkF xs).2) else
  if (checkF (insF' (xs.filter (neF y.f0.data.toList)) y)).2 = 0 then (insF' (xs.filter (neF y.f0.data.toList)) y, 0) else ([], (checkF (insF' (xs.filter (neF y.f0.data.toList)) y)).2)
theorem withF_eq (xs : List S26) (y : S26) : withP xs y = withF xs y := by
  have e : neP y = neF y.f0.data.toList := by
    funext x
    unfold neP neF
    rw [toList_eq, toList_eq]
  unfold withP withF
  rw [keepP_all, e, checkF_eq, checkF_eq]
  rfl
theorem ba_lit {a : ByteArray} {l : List UInt8} (h : a.data.toList = l) : a = ⟨l.toArray⟩ := by
  subst h
  obtain ⟨⟨a⟩⟩ := a
  rfl
set_option maxRecDepth 1000000 in
theorem known_m1 : mayP (kn [108] 4 [] [46, 46, 47, 120]) = 83 := by decide +kernel
set_option maxRecDepth 1000000 in
theorem known_m2 : mayP (kn [97] 2 [] [98]) = 110 := by decide +kernel
set_option maxRecDepth 1000000 in
theorem known_m3 : mayP (kn [97] 0 [] []) = 1 := by decide +kernel
set_option maxRecDepth 1000000 in
theorem known_w1 : (withF smallL (kn [97] 1 [] [])).2 = 112 ∧ (withF smallL (kn [97] 1 [] [])).1.length = 0 := by decide +kernel
set_option maxRecDepth 1000000 in
theorem known_w2 : (withF smallL (kn [98] 1 [] [])).2 = 0 ∧ (withF smallL (kn [98] 1 [] [])).1.length = 6 ∧ (rd_T26 (withF smallL (kn [98] 1 [] [])).1 4).f0.data.toList = [98] := by decide +kernel
set_option maxRecDepth 1000000 in
theorem known_o1 : (withoutF smallL ⟨#[97, 47, 102]⟩).2 = 113 ∧ (withoutF smallL ⟨#[97, 47, 102]⟩).1.length = 0 := by decide +kernel
set_option maxRecDepth 1000000 in
theorem known_o2 : (withoutF smallL ⟨#[97]⟩).2 = 0 ∧ (withoutF smallL ⟨#[97]⟩).1.length = 1 ∧ (rd_T26 (withoutF smallL ⟨#[97]⟩).1 0).f0.data.toList = [108] := by decide +kernel
set_option maxRecDepth 1000000 in
theorem known_o3 : (withoutF smallL ⟨#[97, 47, 104]⟩).2 = 0 ∧ (withoutF smallL ⟨#[97, 47, 104]⟩).1.length = 4 := by decide +kernel
set_option maxRecDepth 1000000 in
theorem known_r3 : realTF smallL [] = some ([], 0) := by decide +kernel
set_option maxRecDepth 1000000 in
theorem known_r5 : realTF smallL [120] = some ([], 4) := by decide +kernel
def twiceL : List S26 := smallL.take 3 ++ [kn [97, 47, 105] 3 [] [97, 47, 104]]
set_option maxRecDepth 1000000 in
theorem known_c4 : checkF twiceL = (3, 113) := by decide +kernel
def sortedL : List S26 := So.isort ltI [kn [97] 1 [] [], kn [97] 2 [] [], kn [65] 2 [] []]
set_option maxRecDepth 1000000 in
theorem known_s : sortedL.length = 3 ∧ (rd_T26 sortedL 0).f0.data.toList = [65] ∧ (rd_T26 sortedL 1).f1 = 1 ∧ (rd_T26 sortedL 2).f1 = 2 := by decide +kernel
set_option maxRecDepth 1000000 in
theorem known_h0 : tabularylaw11_chain.f 100 40 = some (chainL 40) := by kernel_rfl
set_option maxRecDepth 1000000 in
theorem known_h1 : tabularylaw11_chain.f 100 41 = some (chainL 41) := by kernel_rfl
end Go.Proofs.YthpecpkncifngaaDoor.X
end

/- TreeKnown: the small calls of the law, with their contracts. -/
section
namespace Go.Proofs.YthpecpkncifngaaDoor.X
open Go Go.RowKit Go.Shelf Go.Proofs.YthpecpkncifngaaDoor Go.Proofs.YthpecpkncifngaaDoorW.PrintWords Go.Proofs.YthpecpkncifngaaDoorW.PrintLast Go.Proofs.YthpecpkncifngaaDoorW.PrintMore Go.Proofs.YthpecpkncifngaaDoor.Pure
set_option maxRecDepth 100000 in
set_option maxHeartbeats 4000000 in
theorem fails_any (A : Option Addr) (c : Nat) (xs : List S26) (p q : Int) (w : World) (hr : Kd.C k26 w A xs.length xs) (h : checkF xs = (p, q)) :
    Calls Tryd.prog 31 #[.slice A xs.length c, .int .i64 p, .int .i64 q] w fun e w' => e = .returned (.bool true) ∧ Below w.heap.size w w' := by
  have HR := Aside0.mk hr
  have H := Lib.hid ((checkF_eq xs).trans h)
  clear hr h
  go_enter Tryd.func31, Tryd.ntmps31
  go_wp2_with fail
  refine (check_tree A c xs _ HR.out).mono ?_
  rw [H.out]
  rintro e w1 ⟨rfl, hb⟩
  have HB := Aside0.mk hb
  clear hb
  go_wp2
  go_ret
  exact ⟨by simp, HB.out⟩
theorem file_any (s : ByteArray) (w : World) :
    Calls Tryd.prog 32 #[.string s] w fun e w' => (∃ A c, e = .returned (.agg #[.string s, .int .u8 1, .int .i64 0, .int .i64 0, .slice A 0 c, .string ⟨#[]⟩])) ∧ Below w.heap.size w w' := by
  refine (tabularylaw11_file.calls s _ _ _ _ _ _ w rfl).mono ?_
  rintro e w' ⟨v, rfl, hR, hb⟩
  obtain ⟨A, c, rfl⟩ := Kd.R_slice hR
  exact ⟨⟨A, c, rfl⟩, hb⟩
theorem folder_any (s : ByteArray) (w : World) :
    Calls Tryd.prog 33 #[.string s] w fun e w' => (∃ A c, e = .returned (.agg #[.string s, .int .u8 2, .int .i64 0, .int .i64 0, .slice A 0 c, .string ⟨#[]⟩])) ∧ Below w.heap.size w w' := by
  refine (tabularylaw11_folder.calls s _ _ _ _ _ _ w rfl).mono ?_
  rintro e w' ⟨v, rfl, hR, hb⟩
  obtain ⟨A, c, rfl⟩ := Kd.R_slice hR
  exact ⟨⟨A, c, rfl⟩, hb⟩
theorem chain_any (n : Int) (xs : List S26) (w : World) (h : tabularylaw11_chain.f 100 n = some xs) :
    Calls Tryd.prog 35 #[.int .i64 n] w fun e w' => (∃ A c, e = .returned (.slice A xs.length c) ∧ xs.length ≤ c ∧ Kd.C k26 w' A xs.length xs) ∧ Below w.heap.size w w' := by
  refine (tabularylaw11_chain.calls 100 n xs w h).mono ?_
  rintro e w' ⟨v, rfl, hN, hb⟩
  obtain ⟨A, c, rfl, hc, hC⟩ := Kd.S_reads hN
  exact ⟨⟨A, c, rfl, hc, hC⟩, hb⟩
theorem C_of {W : World} {b : Nat} {xs : List S26} (hn : xs.length ≤ 9223372036854775807)
    (h : ∀ (i : Nat) (hi : i < xs.length), ∃ A4 c4, xs[i].f4.length ≤ c4 ∧ (Kd.int .u8).C W A4 xs[i].f4.length xs[i].f4 ∧ ∀ j v, (cellsIt xs[i] A4 c4)[j]? = some v → W.cell? ⟨b, i * 6 + j, none⟩ = some v) :
    Kd.C k26 W (some ⟨b, 0, none⟩) xs.length xs := by
  refine ⟨rfl, hn, fun _ => ⟨_, rfl, fun i x hx => ?_⟩⟩
  obtain ⟨hi, rfl⟩ := List.getElem?_eq_some_iff.1 hx
  obtain ⟨A4, c4, hl, hr, hc⟩ := h i hi
  refine ⟨_, rfl, k26_mk W xs[i] hl hr, fun j v hj => ?_⟩
  rw [Jn.add_at]
  have e : 0 + (i * Kd.sz k26 + j) = i * 6 + j := by show 0 + (i * 6 + j) = _; omega
  rw [e]
  exact hc j v (by rw [← hj]; simp [cellsIt])
theorem C_none (W : World) (A4 : Option Addr) (c4 : Nat) : (Kd.int .u8).C W A4 0 [] := ⟨rfl, by omega, fun h => absurd h (by omega)⟩
theorem C_it1 {W : World} {b : Nat} {cs : Array Value} {t : TypeId} (h : W.heap[b]? = some (.cells cs t (0, 0))) (x : S26) (hx : x.f4 = []) {A : Option Addr} {c : Nat}
    (he : cs = #[.string x.f0, .int .u8 x.f1, .int .i64 x.f2, .int .i64 x.f3, .slice A 0 c, .string x.f5]) : Kd.C k26 W (some ⟨b, 0, none⟩) 1 [x] := by
  subst he
  refine C_of (xs := [x]) (by simp) (fun i hi => ?_)
  obtain rfl : i = 0 := by simp at hi; omega
  obtain ⟨x0, x1, x2, x3, x4, x5⟩ := x
  obtain rfl : x4 = [] := hx
  refine ⟨A, c, Nat.zero_le _, C_none _ _ c, fun j v hj => ?_⟩
  rw [blk_cell h, ← hj]
  simp [cellsIt]
theorem C_it2 {W : World} {b : Nat} {cs : Array Value} {t : TypeId} (h : W.heap[b]? = some (.cells cs t (0, 0))) (x y : S26) (hx : x.f4 = []) (hy : y.f4 = []) {A A' : Option Addr} {c c' : Nat}
    (he : cs = #[.string x.f0, .int .u8 x.f1, .int .i64 x.f2, .int .i64 x.f3, .slice A 0 c, .string x.f5, .string y.f0, .int .u8 y.f1, .int .i64 y.f2, .int .i64 y.f3, .slice A' 0 c', .string y.f5]) : Kd.C k26 W (some ⟨b, 0, none⟩) 2 [x, y] := by
  subst he
  obtain ⟨x0, x1, x2, x3, x4, x5⟩ := x
  obtain rfl : x4 = [] := hx
  obtain ⟨y0, y1, y2, y3, y4, y5⟩ := y
  obtain rfl : y4 = [] := hy
  refine C_of (xs := [_, _]) (by simp) (fun i hi => ?_)
  match i, hi with
  | 0, _ =>
    refine ⟨A, c, Nat.zero_le _, C_none _ _ c, fun j v hj => ?_⟩
    rw [blk_cell h]
    match j, hj with
    | 0, hj | 1, hj | 2, hj | 3, hj | 4, hj | 5, hj => exact hj
    | j + 6, hj => simp [cellsIt] at hj
  | 1, _ =>
    refine ⟨A', c', Nat.zero_le _, C_none _ _ c', fun j v hj => ?_⟩
    rw [blk_cell h]
    match j, hj with
    | 0, hj | 1, hj | 2, hj | 3, hj | 4, hj | 5, hj => exact hj
    | j + 6, hj => simp [cellsIt] at hj
theorem C_it3 {W : World} {b : Nat} {cs : Array Value} {t : TypeId} (h : W.heap[b]? = some (.cells cs t (0, 0))) (x y z : S26) (hx : x.f4 = []) (hy : y.f4 = []) (hz : z.f4 = []) {A A' A'' : Option Addr} {c c' c'' : Nat}
    (he : cs = #[.string x.f0, .int .u8 x.f1, .int .i64 x.f2, .int .i64 x.f3, .slice A 0 c, .string x.f5, .string y.f0, .int .u8 y.f1, .int .i64 y.f2, .int .i64 y.f3, .slice A' 0 c', .string y.f5, .string z.f0, .int .u8 z.f1, .int .i64 z.f2, .int .i64 z.f3, .slice A'' 0 c'', .string z.f5]) : Kd.C k26 W (some ⟨b, 0, none⟩) 3 [x, y, z] := by
  subst he
  obtain ⟨x0, x1, x2, x3, x4, x5⟩ := x
  obtain rfl : x4 = [] := hx
  obtain ⟨y0, y1, y2, y3, y4, y5⟩ := y
  obtain rfl : y4 = [] := hy
  obtain ⟨z0, z1, z2, z3, z4, z5⟩ := z
  obtain rfl : z4 = [] := hz
  refine C_of (xs := [_, _, _]) (by simp) (fun i hi => ?_)
  match i, hi with
  | 0, _ =>
    refine ⟨A, c, Nat.zero_le _, C_none _ _ c, fun j v hj => ?_⟩
    rw [blk_cell h]
    match j, hj with
    | 0, hj | 1, hj | 2, hj | 3, hj | 4, hj | 5, hj => exact hj
    | j + 6, hj => simp [cellsIt] at hj
  | 1, _ =>
    refine ⟨A', c', Nat.zero_le _, C_none _ _ c', fun j v hj => ?_⟩
    rw [blk_cell h]
    match j, hj with
    | 0, hj | 1, hj | 2, hj | 3, hj | 4, hj | 5, hj => exact hj
    | j + 6, hj => simp [cellsIt] at hj
  | 2, _ =>
    refine ⟨A'', c'', Nat.zero_le _, C_none _ _ c'', fun j v hj => ?_⟩
    rw [blk_cell h]
    match j, hj with
    | 0, hj | 1, hj | 2, hj | 3, hj | 4, hj | 5, hj => exact hj
    | j + 6, hj => simp [cellsIt] at hj
theorem small_at (w : World) : Calls Tryd.prog 34 #[] w fun e w' => (∃ A c, e = .returned (.slice A 5 c) ∧ 5 ≤ c ∧ Kd.N k26 26 w' w.heap.size (fun k => w.heap.size ≤ k) (.slice A 5 c) smallL ∧ Kd.C k26 w' A 5 smallL) ∧ Below w.heap.size w w' := by
  refine (tabularylaw11_small.calls smallL w rfl).mono ?_
  rintro e w' ⟨v, rfl, hN, hb⟩
  obtain ⟨A, c, rfl, hc, _⟩ := N_cap hN
  exact ⟨⟨A, c, rfl, hc, hN, (Kd.N_reads' hN).2.2⟩, hb⟩
theorem small_f4 : ∀ x ∈ smallL, x.f4.length ≤ 140737488355328 := by decide
theorem with_at (A : Option Addr) (c : Nat) (y : S26) (A4 : Option Addr) (c4 : Nat) (w : World) (n : Nat) (q : Int) (hr : Kd.C k26 w A 5 smallL) (hy0 : y.f0.size ≤ 140737488355328) (hl : y.f4 = [])
    (hq : (withF smallL y).2 = q) (hn : (withF smallL y).1.length = n) :
    Calls Tryd.prog 21 #[.slice A 5 c, .agg #[.string y.f0, .int .u8 y.f1, .int .i64 y.f2, .int .i64 y.f3, .slice A4 0 c4, .string y.f5]] w fun e w' => (∃ A' c', e = .returned (.tuple #[.slice A' n c', .int .i64 q]) ∧ n ≤ c' ∧ Kd.C k26 w' A' n (withF smallL y).1) ∧ Below w.heap.size w w' := by
  obtain ⟨y0, y1, y2, y3, y4, y5⟩ := y
  obtain rfl : y4 = [] := hl
  refine (with_any A c smallL ⟨y0, y1, y2, y3, [], y5⟩ A4 c4 w hr (by decide) small_f4 hy0 (Nat.zero_le _) (by simp) (C_none _ _ c4)).mono ?_
  rw [withF_eq, hq]
  rintro e w' ⟨⟨v, rfl, hV⟩, hb⟩
  obtain ⟨A', c', rfl⟩ := Kd.V_slice hV
  have h := Kd.V_reads' hV
  rw [hn] at h ⊢
  exact ⟨⟨A', c', rfl, h.2.1, h.2.2⟩, hb⟩
theorem without_at (A : Option Addr) (c : Nat) (path : ByteArray) (w : World) (n : Nat) (q : Int) (hr : Kd.C k26 w A 5 smallL)
    (hq : (withoutF smallL path).2 = q) (hn : (withoutF smallL path).1.length = n) :
    Calls Tryd.prog 18 #[.slice A 5 c, .string path] w fun e w' => (∃ A' c', e = .returned (.tuple #[.slice A' n c', .int .i64 q]) ∧ n ≤ c' ∧ Kd.C k26 w' A' n (withoutF smallL path).1) ∧ Below w.heap.size w w' := by
  refine (without_any A c smallL path w hr (by decide) small_f4).mono ?_
  rw [withoutF_eq, hq]
  rintro e w' ⟨⟨v, rfl, hV⟩, hb⟩
  obtain ⟨A', c', rfl⟩ := Kd.V_slice hV
  have h := Kd.V_reads' hV
  rw [hn] at h ⊢
  exact ⟨⟨A', c', rfl, h.2.1, h.2.2⟩, hb⟩
theorem real_at (A : Option Addr) (c : Nat) (xs : List S26) (path : ByteArray) (r : List UInt8) (q : Int) (w : World) (hr : Kd.C k26 w A xs.length xs) (h : realTF xs path.data.toList = some (r, q)) :
    Calls Tryd.prog 23 #[.slice A xs.length c, .string path] w fun e w' => e = .returned (.tuple #[.string (bytesOfL r), .int .i64 q]) ∧ Below w.heap.size w w' := by
  refine (real_any A c xs path w hr).mono ?_
  rw [realTF_eq h]
  exact fun _ _ h => h
theorem may_at (x : S26) (A4 : Option Addr) (c4 : Nat) (q : Int) (w : World) (hx : x.f4 = []) (h : mayP x = q) :
    Calls Tryd.prog 15 #[.agg #[.string x.f0, .int .u8 x.f1, .int .i64 x.f2, .int .i64 x.f3, .slice A4 0 c4, .string x.f5]] w fun e w' => e = .returned (.int .i64 q) ∧ Below w.heap.size w w' := by
  obtain ⟨y0, y1, y2, y3, y4, y5⟩ := x
  obtain rfl : y4 = [] := hx
  refine (may_any ⟨y0, y1, y2, y3, [], y5⟩ A4 c4 w (Nat.zero_le _) (C_none _ _ c4)).mono ?_
  rw [h]
  exact fun _ _ h => h
def pathK : List ByteArray := [⟨#[97, 47, 104]⟩, ⟨#[108]⟩, ⟨#[]⟩, ⟨#[97, 47, 102, 47, 120]⟩, ⟨#[120]⟩, ⟨#[108, 47, 108]⟩]
def leadK : List ByteArray := [⟨#[97, 47, 102]⟩, ⟨#[97]⟩, ⟨#[]⟩, ⟨#[]⟩, ⟨#[]⟩, ⟨#[]⟩]
def endK : List Int := [0, 0, 0, 4, 4, 4]
theorem known_loop (k : Nat) (h : k < 6) : ∃ (p l : ByteArray) (q : Int), pathK[k]? = some p ∧ leadK[k]? = some l ∧ endK[k]? = some q ∧ realTF smallL p.data.toList = some (l.data.toList, q) := by
  match k, h with
  | 0, _ => exact ⟨_, _, _, rfl, rfl, rfl, known_r1⟩
  | 1, _ => exact ⟨_, _, _, rfl, rfl, rfl, known_r2⟩
  | 2, _ => exact ⟨_, _, _, rfl, rfl, rfl, known_r3⟩
  | 3, _ => exact ⟨_, _, _, rfl, rfl, rfl, known_r4⟩
  | 4, _ => exact ⟨_, _, _, rfl, rfl, rfl, known_r5⟩
  | 5, _ => exact ⟨_, _, _, rfl, rfl, rfl, known_r6⟩
theorem real_in (A : Option Addr) (c : Nat) (path l : ByteArray) (q : Int) (w : World) (hr : Kd.C k26 w A 5 smallL) (h : realTF smallL path.data.toList = some (l.data.toList, q)) :
    Calls Tryd.prog 23 #[.slice A 5 c, .string path] w fun e w' => e = .returned (.tuple #[.string l, .int .i64 q]) ∧ Below w.heap.size w w' := by
  refine (real_at A c smallL path l.data.toList q w hr h).mono ?_
  rw [show bytesOfL l.data.toList = l from rfl]
  exact fun _ _ h => h
def Stand (W : World) (b1 b2 b3 : Nat) : Prop := (∀ k p, pathK[k]? = some p → W.cell? ⟨b1, k, none⟩ = some (.string p)) ∧ (∀ k p, leadK[k]? = some p → W.cell? ⟨b2, k, none⟩ = some (.string p)) ∧ (∀ k p, endK[k]? = some p → W.cell? ⟨b3, k, none⟩ = some (.int .i64 p))
theorem Stand.below {W W' : World} {b1 b2 b3 : Nat} (h : Stand W b1 b2 b3) (hb : Below W.heap.size W W') : Stand W' b1 b2 b3 :=
  ⟨fun k p hk => (hb.cell (World.block_lt_of_cell? W _ (h.1 k p hk))).trans (h.1 k p hk), fun k p hk => (hb.cell (World.block_lt_of_cell? W _ (h.2.1 k p hk))).trans (h.2.1 k p hk), fun k p hk => (hb.cell (World.block_lt_of_cell? W _ (h.2.2 k p hk))).trans (h.2.2 k p hk)⟩
theorem stand_new (w : World) (t1 t2 t3 : TypeId) : Stand (((w.alloc (.cells #[.string ⟨#[97, 47, 104]⟩, .string ⟨#[108]⟩, .string ⟨#[]⟩, .string ⟨#[97, 47, 102, 47, 120]⟩, .string ⟨#[120]⟩, .string ⟨#[108, 47, 108]⟩] t1)).alloc (.cells #[.string ⟨#[97, 47, 102]⟩, .string ⟨#[97]⟩, .string ⟨#[]⟩, .string ⟨#[]⟩, .string ⟨#[]⟩, .string ⟨#[]⟩] t2)).alloc (.cells #[.int .i64 0, .int .i64 0, .int .i64 0, .int .i64 4, .int .i64 4, .int .i64 4] t3)) w.heap.size (w.heap.size + 1) (w.heap.size + 2) := by
  have h1 := World.alloc_heap_new w (.cells #[.string ⟨#[97, 47, 104]⟩, .string ⟨#[108]⟩, .string ⟨#[]⟩, .string ⟨#[97, 47, 102, 47, 120]⟩, .string ⟨#[120]⟩, .string ⟨#[108, 47, 108]⟩] t1)
  generalize hw1 : w.alloc (.cells #[.string ⟨#[97, 47, 104]⟩, .string ⟨#[108]⟩, .string ⟨#[]⟩, .string ⟨#[97, 47, 102, 47, 120]⟩, .string ⟨#[120]⟩, .string ⟨#[108, 47, 108]⟩] t1) = w1 at *
  have z1 : w1.heap.size = w.heap.size + 1 := by rw [← hw1]; simp
  have h2 := World.alloc_heap_new w1 (.cells #[.string ⟨#[97, 47, 102]⟩, .string ⟨#[97]⟩, .string ⟨#[]⟩, .string ⟨#[]⟩, .string ⟨#[]⟩, .string ⟨#[]⟩] t2)
  have g1 := blk_grown h1 (World.grownBy_alloc w1 (.cells #[.string ⟨#[97, 47, 102]⟩, .string ⟨#[97]⟩, .string ⟨#[]⟩, .string ⟨#[]⟩, .string ⟨#[]⟩, .string ⟨#[]⟩] t2) none) (by simp)
  generalize hw2 : w1.alloc (.cells #[.string ⟨#[97, 47, 102]⟩, .string ⟨#[97]⟩, .string ⟨#[]⟩, .string ⟨#[]⟩, .string ⟨#[]⟩, .string ⟨#[]⟩] t2) = w2 at *
  have z2 : w2.heap.size = w.heap.size + 2 := by rw [← hw2]; simp; omega
  have h3 := World.alloc_heap_new w2 (.cells #[.int .i64 0, .int .i64 0, .int .i64 0, .int .i64 4, .int .i64 4, .int .i64 4] t3)
  have f1 := blk_grown g1 (World.grownBy_alloc w2 (.cells #[.int .i64 0, .int .i64 0, .int .i64 0, .int .i64 4, .int .i64 4, .int .i64 4] t3) none) (by simp)
  have f2 := blk_grown h2 (World.grownBy_alloc w2 (.cells #[.int .i64 0, .int .i64 0, .int .i64 0, .int .i64 4, .int .i64 4, .int .i64 4] t3) none) (by simp)
  rw [z1] at f2
  rw [z2] at h3
  refine ⟨fun k p hk => ?_, fun k p hk => ?_, fun k p hk => ?_⟩
  · rw [blk_cell f1]
    match k, hk with
    | 0, hk | 1, hk | 2, hk | 3, hk | 4, hk | 5, hk => obtain rfl := Option.some.inj hk; rfl
    | k + 6, hk => simp [pathK] at hk
  · rw [blk_cell f2]
    match k, hk with
    | 0, hk | 1, hk | 2, hk | 3, hk | 4, hk | 5, hk => obtain rfl := Option.some.inj hk; rfl
    | k + 6, hk => simp [leadK] at hk
  · rw [blk_cell h3]
    match k, hk with
    | 0, hk | 1, hk | 2, hk | 3, hk | 4, hk | 5, hk => obtain rfl := Option.some.inj hk; rfl
    | k + 6, hk => simp [endK] at hk
end Go.Proofs.YthpecpkncifngaaDoor.X
end

/- TreeKnown: the law's walk. -/
section
namespace Go.Proofs.YthpecpkncifngaaDoor.X
open Go Go.RowKit Go.Shelf Go.Proofs.YthpecpkncifngaaDoor Go.Proofs.YthpecpkncifngaaDoorW.PrintWords Go.Proofs.YthpecpkncifngaaDoorW.PrintLast Go.Proofs.YthpecpkncifngaaDoorW.PrintMore Go.Proofs.YthpecpkncifngaaDoor.Pure
set_option maxRecDepth 100000 in
set_option maxHeartbeats 8000000 in
theorem treeKnown_walk (w : World) : Calls Tryd.prog 11 #[] w fun e w' => e = .returned (.bool true) ∧ Below w.heap.size w w' := by
  go_enter Tryd.func11, Tryd.ntmps11
  go_upto_region 1 with (fail)
  go_cut [43] (fun a wc => a = .bool false ∧ Aside0 (Below w.heap.size w wc))
  case first =>
    go_wp2_with fail
    refine (awake_any _).mono ?_
    rintro e w1 ⟨rfl, hb⟩
    have HB := Aside0.mk hb
    clear hb
    go_wp2_with fail
    refine (file_any _ _).mono ?_
    rintro e w2 ⟨⟨A2, c2, rfl⟩, hb⟩
    replace HB := Aside0.mk (HB.out.trans (hb.mono HB.out.size))
    clear hb
    go_wp2_with fail
    refine (folder_any _ _).mono ?_
    rintro e w3 ⟨⟨A3, c3, rfl⟩, hb⟩
    replace HB := Aside0.mk (HB.out.trans (hb.mono HB.out.size))
    clear hb
    go_wp2_with fail
    refine (fails_any _ _ [kn [97, 47, 102] 1 [] [], kn [97] 2 [] []] 0 112 _ (C_it2 (World.alloc_heap_new w3 _) (kn [97, 47, 102] 1 [] []) (kn [97] 2 [] []) rfl rfl rfl) known_c1).mono ?_
    rintro e w4 ⟨rfl, hb⟩
    replace HB := Aside0.mk ((HB.out.alloc HB.out.size _).trans (hb.mono (HB.out.alloc HB.out.size _).size))
    clear hb
    go_wp2_with fail
    refine (folder_any _ _).mono ?_
    rintro e w5 ⟨⟨A5, c5, rfl⟩, hb⟩
    replace HB := Aside0.mk (HB.out.trans (hb.mono HB.out.size))
    clear hb
    go_wp2_with fail
    refine (folder_any _ _).mono ?_
    rintro e w6 ⟨⟨A6, c6, rfl⟩, hb⟩
    replace HB := Aside0.mk (HB.out.trans (hb.mono HB.out.size))
    clear hb
    go_wp2_with fail
    refine (fails_any _ _ [kn [97] 2 [] [], kn [97] 2 [] []] 1 111 _ (C_it2 (World.alloc_heap_new w6 _) (kn [97] 2 [] []) (kn [97] 2 [] []) rfl rfl rfl) known_c2).mono ?_
    rintro e w7 ⟨rfl, hb⟩
    replace HB := Aside0.mk ((HB.out.alloc HB.out.size _).trans (hb.mono (HB.out.alloc HB.out.size _).size))
    clear hb
    go_wp2
    go_meet
    exact ⟨rfl, HB⟩
  case rest =>
  obtain ⟨rfl, HB0⟩ := hcut
  go_wp2_with fail
  refine (folder_any _ _).mono ?_
  rintro e w8 ⟨⟨A8, c8, rfl⟩, hb⟩
  have HB := Aside0.mk (HB0.out.trans (hb.mono HB0.out.size))
  clear hb HB0
  go_upto_region 5 with (fail)
  go_cut [58] (fun a wc => a = .bool false ∧ Aside0 (Below w.heap.size w wc))
  case first =>
    have HZ := Aside0.mk (World.alloc_heap_new w8 (.cells #[.string ⟨#[97]⟩, .int .u8 2, .int .i64 0, .int .i64 0, .slice A8 0 c8, .string ⟨#[98]⟩] 26))
    have HB9 := Aside0.mk (HB.out.alloc HB.out.size (.cells #[.string ⟨#[97]⟩, .int .u8 2, .int .i64 0, .int .i64 0, .slice A8 0 c8, .string ⟨#[98]⟩] 26))
    generalize hw9 : w8.alloc (.cells #[.string ⟨#[97]⟩, .int .u8 2, .int .i64 0, .int .i64 0, .slice A8 0 c8, .string ⟨#[98]⟩] 26) = w9 at *
    have hlt : w8.heap.size < w9.heap.size := by rw [← hw9]; simp
    clear hw9
    go_wp2_with fail
    refine (may_at (kn [108] 4 [] [46, 46, 47, 120]) none 0 83 _ rfl known_m1).mono ?_
    rintro e w10 ⟨rfl, hb⟩
    have e0 := (hb.cell (p := ⟨w8.heap.size, 0, none⟩) hlt).trans ((blk_cell HZ.out 0).trans rfl)
    have e1 := (hb.cell (p := ⟨w8.heap.size, 1, none⟩) hlt).trans ((blk_cell HZ.out 1).trans rfl)
    have e2 := (hb.cell (p := ⟨w8.heap.size, 2, none⟩) hlt).trans ((blk_cell HZ.out 2).trans rfl)
    have e3 := (hb.cell (p := ⟨w8.heap.size, 3, none⟩) hlt).trans ((blk_cell HZ.out 3).trans rfl)
    have e4 := (hb.cell (p := ⟨w8.heap.size, 4, none⟩) hlt).trans ((blk_cell HZ.out 4).trans rfl)
    have e5 := (hb.cell (p := ⟨w8.heap.size, 5, none⟩) hlt).trans ((blk_cell HZ.out 5).trans rfl)
    have HB10 := Aside0.mk (HB9.out.trans (hb.mono HB9.out.size))
    clear hb HB9
    go_wp2_with fail
    refine (may_at (kn [97] 2 [] [98]) A8 c8 110 _ rfl known_m2).mono ?_
    rintro e w11 ⟨rfl, hb⟩
    have HB11 := Aside0.mk (HB10.out.trans (hb.mono HB10.out.size))
    clear hb HB10 e0 e1 e2 e3 e4 e5
    go_wp2_with fail
    refine (may_at (kn [97] 0 [] []) none 0 1 _ rfl known_m3).mono ?_
    rintro e w12 ⟨rfl, hb⟩
    have HB12 := Aside0.mk (HB11.out.trans (hb.mono HB11.out.size))
    clear hb HB11
    go_wp2
    go_meet
    exact ⟨rfl, HB12⟩
  case rest =>
  obtain ⟨rfl, HBc⟩ := hcut
  clear HB
  go_wp2_with fail
  refine (small_at _).mono ?_
  rintro e w13 ⟨⟨A1, c1, rfl, hc1, hN1, hC1⟩, hb⟩
  replace HBc := Aside0.mk (HBc.out.trans (hb.mono HBc.out.size))
  have HC := Aside0.mk hC1
  clear hb hN1 hC1
  go_wp2_with fail
  refine (file_any _ _).mono ?_
  rintro e w14 ⟨⟨A2, c2, rfl⟩, hb⟩
  replace HBc := Aside0.mk (HBc.out.trans (hb.mono HBc.out.size))
  replace HC := Aside0.mk (Kd.C_below HC.out hb)
  clear hb
  go_wp2_with fail
  refine (with_at A1 c1 (kn [97] 1 [] []) A2 c2 _ 0 112 HC.out (by decide) rfl known_w1.1 known_w1.2).mono ?_
  rintro e w15 ⟨⟨A3, c3, rfl, hc3, hC3⟩, hb⟩
  replace HBc := Aside0.mk (HBc.out.trans (hb.mono HBc.out.size))
  clear hb HC hC3 hc3 hc1
  go_wp2_with fail
  refine (small_at _).mono ?_
  rintro e w16 ⟨⟨A1', c1', rfl, hc1', hN1, hC1⟩, hb⟩
  replace HBc := Aside0.mk (HBc.out.trans (hb.mono HBc.out.size))
  have HC := Aside0.mk hC1
  clear hb hN1 hC1
  go_wp2_with fail
  refine (file_any _ _).mono ?_
  rintro e w17 ⟨⟨A2', c2', rfl⟩, hb⟩
  replace HBc := Aside0.mk (HBc.out.trans (hb.mono HBc.out.size))
  replace HC := Aside0.mk (Kd.C_below HC.out hb)
  clear hb
  go_wp2_with fail
  refine (with_at A1' c1' (kn [98] 1 [] []) A2' c2' _ 6 0 HC.out (by decide) rfl known_w2.1 known_w2.2.1).mono ?_
  rintro e w18 ⟨⟨A4, c4, rfl, hc4, hC4⟩, hb⟩
  replace HBc := Aside0.mk (HBc.out.trans (hb.mono HBc.out.size))
  have HU := Aside0.mk hC4
  clear hb HC hC4 hc1'
  go_wp2_with fail
  refine (small_at _).mono ?_
  rintro e w19 ⟨⟨A5, c5, rfl, hc5, hN1, hC1⟩, hb⟩
  replace HBc := Aside0.mk (HBc.out.trans (hb.mono HBc.out.size))
  replace HU := Aside0.mk (Kd.C_below HU.out hb)
  have HC := Aside0.mk hC1
  clear hb hN1 hC1
  go_wp2_with fail
  refine (without_at A5 c5 ⟨#[97, 47, 102]⟩ _ 0 113 HC.out known_o1.1 known_o1.2).mono ?_
  rintro e w20 ⟨⟨A6, c6, rfl, hc6, hC6⟩, hb⟩
  replace HBc := Aside0.mk (HBc.out.trans (hb.mono HBc.out.size))
  replace HU := Aside0.mk (Kd.C_below HU.out hb)
  clear hb HC hC6 hc5
  go_wp2_with fail
  refine (small_at _).mono ?_
  rintro e w21 ⟨⟨A7, c7, rfl, hc7, hN1, hC1⟩, hb⟩
  replace HBc := Aside0.mk (HBc.out.trans (hb.mono HBc.out.size))
  replace HU := Aside0.mk (Kd.C_below HU.out hb)
  have HC := Aside0.mk hC1
  clear hb hN1 hC1
  go_wp2_with fail
  refine (without_at A7 c7 ⟨#[97]⟩ _ 1 0 HC.out known_o2.1 known_o2.2.1).mono ?_
  rintro e w22 ⟨⟨A9, c9, rfl, hc9, hC9⟩, hb⟩
  replace HBc := Aside0.mk (HBc.out.trans (hb.mono HBc.out.size))
  replace HU := Aside0.mk (Kd.C_below HU.out hb)
  have HV := Aside0.mk hC9
  clear hb HC hC9 hc7
  go_wp2_with fail
  refine (small_at _).mono ?_
  rintro e w23 ⟨⟨A10, c10, rfl, hc10, hN1, hC1⟩, hb⟩
  replace HBc := Aside0.mk (HBc.out.trans (hb.mono HBc.out.size))
  replace HU := Aside0.mk (Kd.C_below HU.out hb)
  replace HV := Aside0.mk (Kd.C_below HV.out hb)
  have HC := Aside0.mk hC1
  clear hb hN1 hC1
  go_wp2_with fail
  refine (without_at A10 c10 ⟨#[97, 47, 104]⟩ _ 4 0 HC.out known_o3.1 known_o3.2).mono ?_
  rintro e w24 ⟨⟨A11, c11, rfl, hc11, hC11⟩, hb⟩
  replace HBc := Aside0.mk (HBc.out.trans (hb.mono HBc.out.size))
  replace HU := Aside0.mk (Kd.C_below HU.out hb)
  replace HV := Aside0.mk (Kd.C_below HV.out hb)
  clear hb HC hC11 hc10
  go_upto_region 12 with (fail)
  go_cut [132] (fun a wc => a = .bool false ∧ w24 = wc)
  case first =>
    obtain ⟨au, Au, cu, rfl, uz, -⟩ := at_it HU.out (Below.refl _ w24) 0 (by omega)
    obtain ⟨b0, o0, rfl⟩ : ∃ b o, au = ⟨b, o, none⟩ := ⟨_, _, Jn.spot_of (show w24.cell? au = _ from uz)⟩
    obtain ⟨au, Au, cu, hau, u0, -⟩ := at_it HU.out (Below.refl _ w24) 4 (by omega)
    obtain rfl := Option.some.inj hau
    obtain ⟨av, Av, cv, rfl, v0, -⟩ := at_it HV.out (Below.refl _ w24) 0 (by omega)
    obtain ⟨b1, o1, rfl⟩ : ∃ b o, av = ⟨b, o, none⟩ := ⟨_, _, Jn.spot_of (show w24.cell? av = _ from v0)⟩
    clear uz
    have u0' : w24.cell? ⟨b0, o0 + 24, none⟩ = some (.string ⟨#[98]⟩) := by
      rw [Jn.add_at, ba_lit (show (rd_T26 (withF smallL (kn [98] 1 [] [])).1 ((4 : Nat) : Int)).f0.data.toList = [98] from known_w2.2.2)] at u0
      exact u0
    have v0' : w24.cell? ⟨b1, o1, none⟩ = some (.string ⟨#[108]⟩) := by
      rw [ba_lit (show (rd_T26 (withoutF smallL ⟨#[97]⟩).1 ((0 : Nat) : Int)).f0.data.toList = [108] from known_o2.2.2)] at v0
      exact v0
    clear u0 v0
    go_wp2
    go_meet
    exact ⟨rfl, rfl⟩
  case rest =>
  obtain ⟨rfl, hwc2⟩ := hcut
  subst hwc2
  clear HU HV
  have mixed : Tryd.prog.follows Departure.mixedOrders = true := by kernel_rfl
  have HS := Aside0.mk (stand_new w24 9 9 28)
  have HBs := Aside0.mk (((HBc.out.alloc HBc.out.size (.cells #[.string ⟨#[97, 47, 104]⟩, .string ⟨#[108]⟩, .string ⟨#[]⟩, .string ⟨#[97, 47, 102, 47, 120]⟩, .string ⟨#[120]⟩, .string ⟨#[108, 47, 108]⟩] 9)).alloc (HBc.out.alloc HBc.out.size _).size (.cells #[.string ⟨#[97, 47, 102]⟩, .string ⟨#[97]⟩, .string ⟨#[]⟩, .string ⟨#[]⟩, .string ⟨#[]⟩, .string ⟨#[]⟩] 9)).alloc ((HBc.out.alloc HBc.out.size _).alloc (HBc.out.alloc HBc.out.size _).size _).size (.cells #[.int .i64 0, .int .i64 0, .int .i64 0, .int .i64 4, .int .i64 4, .int .i64 4] 28))
  go_wp2
  go_loopw [15] (fun i wr => ∃ k : Nat, k ≤ 6 ∧ i = .int .i64 k ∧ Aside0 (Below w.heap.size w wr) ∧ Aside0 (Stand wr w24.heap.size (w24.heap.size + 1) (w24.heap.size + 1 + 1))) (fun i _ => 6 - (intOf i).toNat)
  case atStart => exact ⟨0, by omega, rfl, HBs, HS⟩
  case round =>
    obtain ⟨k, hk, rfl, hB, hS⟩ := hrel
    clear HS HBs HBc
    by_cases hlt : k < 6
    · obtain ⟨p, l, q, ep, el, eq, ef⟩ := known_loop k hlt
      have HF := Lib.hid ef
      have HEL := Lib.hid el
      have HEQ := Lib.hid eq
      have c0 := hS.out.1 k p ep
      have KEEP := Aside0.mk (fun (W : World) (hW : Below wr.heap.size wr W) => (⟨hW, (hW.cell (World.block_lt_of_cell? wr _ c0)).trans c0⟩ : Below wr.heap.size wr W ∧ W.cell? ⟨w24.heap.size, k, none⟩ = some (.string p)))
      have hBn : Below wr.heap.size wr wr.drew := below_drew (Below.refl _ _)
      clear ep ef el eq c0
      go_upto_region 20 with (fail)
      go_cut [16, 17] (fun v16 v17 wc => v16 = .string l ∧ v17 = .int .i64 q ∧ Aside0 (Below wr.heap.size wr wc))
      case first =>
        go_region_held3 (fun W => Below wr.heap.size wr W ∧ W.cell? ⟨w24.heap.size, k, none⟩ = some (.string p))
          (first | exact KEEP.out _ (by assumption) | exact KEEP.out _ (by repeat (first | exact hBn | exact Below.refl _ _ | refine below_alloc ?_ _ | refine below_drew ?_)))
          (first
            | (go_at_call 34; refine (small_at _).mono ?_; rintro e W1 ⟨⟨Aq, cq, rfl, hcq, hNq, hCq⟩, hb1⟩; replace hBn := hBn.trans (hb1.mono hBn.size); clear hb1 hNq)
            | (go_at_call 23; refine (real_in Aq cq p l q _ (by first | exact hCq | exact Kd.C_below hCq (by repeat (first | exact Below.refl _ _ | refine below_alloc ?_ _ | refine below_drew ?_))) HF.out).mono ?_; rintro e W2 ⟨rfl, hb2⟩; replace hBn := hBn.trans (hb2.mono hBn.size); clear hb2))
        all_goals go_wp2
        all_goals go_meet
        all_goals exact ⟨rfl, rfl, ⟨hBn⟩⟩
      case rest =>
        obtain ⟨rfl, rfl, hBc⟩ := hcut
        have S2 := Aside0.mk (hS.out.below hBc.out)
        have HB2 := Aside0.mk (hB.out.trans (hBc.out.mono hB.out.size))
        have cl := S2.out.2.1 k l HEL.out
        have cq := S2.out.2.2 k q HEQ.out
        clear hS hB hBc KEEP hBn HF HEL HEQ
        have e1 : (l.toList == l.toList) = true := beq_self_eq_true _
        have e2 : (q == q) = true := beq_self_eq_true _
        go_wp2
        go_roundw
        case rel => exact ⟨k + 1, by omega, by go_num, HB2, S2⟩
        case measure => simp [intOf]; omega
    · obtain rfl : k = 6 := by omega
      clear hS hlt hk
      go_wp2_with fail
      refine (real_at _ _ [kn [108] 4 [] [108]] ⟨#[108]⟩ [] 114 _ (C_it1 (World.alloc_heap_new wr _) (kn [108] 4 [] [108]) rfl rfl) known_r7).mono ?_
      rintro e w25 ⟨rfl, hb⟩
      have HB := Aside0.mk ((hB.out.alloc hB.out.size _).trans (hb.mono (hB.out.alloc hB.out.size _).size))
      clear hb hB
      go_wp2_with fail
      refine (small_at _).mono ?_
      rintro e w26 ⟨⟨Aq, cq, rfl, hcq, hNq, hCq⟩, hb⟩
      have HN := Aside0.mk (Kd.N_mono (ok' := fun k_ => w.heap.size ≤ k_) (Kd.N_lower (Kd.N_take hNq (m := 3) (by decide)) HB.out.size) (fun k_ h => Nat.le_trans HB.out.size h))
      replace HB := Aside0.mk (HB.out.trans (hb.mono HB.out.size))
      clear hb hNq hCq
      have h31 : 3 ≤ cq := by omega
      have h32 : (3 : Int) ≤ (cq : Int) := by omega
      go_wp2_with ((with_reducible refine gate_builtin (b := .append) (xs := #[.tmp 172, .tmp 174]) rfl ?_); at_builtin; refine Kd.N_append k26 (w0 := w) w.heap.size rfl (.tmp 172) (.tmp 174) 22 26 (.agg #[.string ⟨#[]⟩, .int .u8 0, .int .i64 0, .int .i64 0, .slice none 0 0, .string ⟨#[]⟩]) 80 rfl Tryd.underlying22 info26 rfl (by decide) (by decide) (.slice Aq 3 cq) (smallL.take 3) (kn [97, 47, 105] 3 [] [97, 47, 104]) [.string ⟨#[97, 47, 105]⟩, .int .u8 3, .int .i64 0, .int .i64 0, .slice none 0 0, .string ⟨#[97, 47, 104]⟩] (fun k_ => w.heap.size ≤ k_) (fun _ => False) rfl rfl (k26_mkF _ _ (kn [97, 47, 105] 3 [] [97, 47, 104]) (Nat.le_refl _) (Kd.F_nil _ _ _)) (fun k_ h => h.elim) (fun k_ h => Nat.le_trans HB.out.size h) HN.out HB.out HB.out.size (by decide) ?_)
      intro v27 w27 hN27 hB27 hg27 hat27
      obtain ⟨At, ct, ev⟩ := Kd.N_slice hN27
      obtain rfl : v27 = .slice At 4 ct := ev
      have HT := Aside0.mk (show Kd.C k26 w27 At 4 twiceL from (Kd.N_reads' hN27).2.2)
      have HB27 := Aside0.mk hB27
      clear hN27 hB27 hg27 hat27 HN HB
      obtain ⟨x40, h40, r40⟩ : ∃ xs, tabularylaw11_chain.f 100 40 = some xs ∧ realTF xs [108, 97] = some ([120], 0) := ⟨_, known_h0, known_r8⟩
      obtain ⟨x41, h41, r41⟩ : ∃ xs, tabularylaw11_chain.f 100 41 = some xs ∧ realTF xs [108, 97] = some ([], 114) := ⟨_, known_h1, known_r9⟩
      have H40 := Lib.hid h40
      have H41 := Lib.hid h41
      have R40 := Lib.hid r40
      have R41 := Lib.hid r41
      clear h40 h41 r40 r41
      go_wp2_with fail
      refine (chain_any 40 x40 _ H40.out).mono ?_
      rintro e w28 ⟨⟨A40, c40, rfl, hc40, hC40⟩, hb⟩
      have HB28 := Aside0.mk (HB27.out.trans (hb.mono HB27.out.size))
      have HT28 := Aside0.mk (Kd.C_below HT.out hb)
      have HC40 := Aside0.mk hC40
      clear hb HB27 HT hC40 H40
      go_wp2_with fail
      refine (real_at A40 c40 x40 ⟨#[108, 97]⟩ [120] 0 _ HC40.out R40.out).mono ?_
      rintro e w29 ⟨rfl, hb⟩
      have HB29 := Aside0.mk (HB28.out.trans (hb.mono HB28.out.size))
      have HT29 := Aside0.mk (Kd.C_below HT28.out hb)
      clear hb HB28 HT28 HC40 R40
      go_wp2_with fail
      refine (chain_any 41 x41 _ H41.out).mono ?_
      rintro e w30 ⟨⟨A41, c41, rfl, hc41, hC41⟩, hb⟩
      have HB30 := Aside0.mk (HB29.out.trans (hb.mono HB29.out.size))
      have HT30 := Aside0.mk (Kd.C_below HT29.out hb)
      have HC41 := Aside0.mk hC41
      clear hb HB29 HT29 hC41 H41
      go_wp2_with fail
      refine (real_at A41 c41 x41 ⟨#[108, 97]⟩ [] 114 _ HC41.out R41.out).mono ?_
      rintro e w31 ⟨rfl, hb⟩
      have HB31 := Aside0.mk (HB30.out.trans (hb.mono HB30.out.size))
      have HT31 := Aside0.mk (Kd.C_below HT30.out hb)
      clear hb HB30 HT30 HC41 R41
      go_wp2_with fail
      refine (folder_any _ _).mono ?_
      rintro e w32 ⟨⟨Aa, ca, rfl⟩, hb⟩
      have HB32 := Aside0.mk (HB31.out.trans (hb.mono HB31.out.size))
      have HT32 := Aside0.mk (Kd.C_below HT31.out hb)
      clear hb HB31 HT31
      go_wp2_with fail
      refine (file_any _ _).mono ?_
      rintro e w33 ⟨⟨Ab, cb, rfl⟩, hb⟩
      have HB33 := Aside0.mk (HB32.out.trans (hb.mono HB32.out.size))
      have HT33 := Aside0.mk (Kd.C_below HT32.out hb)
      clear hb HB32 HT32
      go_upto_region 28 with (fail)
      have HZ := Aside0.mk (World.alloc_heap_new w33 (.cells #[.string ⟨#[97]⟩, .int .u8 2, .int .i64 0, .int .i64 0, .slice Aa 0 ca, .string ⟨#[]⟩, .string ⟨#[97]⟩, .int .u8 1, .int .i64 0, .int .i64 0, .slice Ab 0 cb, .string ⟨#[]⟩] 26))
      have HB34 := Aside0.mk (HB33.out.alloc HB33.out.size (.cells #[.string ⟨#[97]⟩, .int .u8 2, .int .i64 0, .int .i64 0, .slice Aa 0 ca, .string ⟨#[]⟩, .string ⟨#[97]⟩, .int .u8 1, .int .i64 0, .int .i64 0, .slice Ab 0 cb, .string ⟨#[]⟩] 26))
      have HT34 := Aside0.mk (Kd.C_below HT33.out ((Below.refl _ w33).alloc (Nat.le_refl _) (.cells #[.string ⟨#[97]⟩, .int .u8 2, .int .i64 0, .int .i64 0, .slice Aa 0 ca, .string ⟨#[]⟩, .string ⟨#[97]⟩, .int .u8 1, .int .i64 0, .int .i64 0, .slice Ab 0 cb, .string ⟨#[]⟩] 26)))
      generalize hwz : w33.alloc (.cells #[.string ⟨#[97]⟩, .int .u8 2, .int .i64 0, .int .i64 0, .slice Aa 0 ca, .string ⟨#[]⟩, .string ⟨#[97]⟩, .int .u8 1, .int .i64 0, .int .i64 0, .slice Ab 0 cb, .string ⟨#[]⟩] 26) = wz at *
      have hlt : w33.heap.size < wz.heap.size := by rw [← hwz]; simp
      clear hwz HB33 HT33
      have KEEP := Aside0.mk (show ∀ W : World, Below wz.heap.size wz W → Below wz.heap.size wz W ∧ W.cell? ⟨w33.heap.size, 0, none⟩ = some (.string ⟨#[97]⟩) ∧ W.cell? ⟨w33.heap.size, 1, none⟩ = some (.int .u8 2) ∧ W.cell? ⟨w33.heap.size, 2, none⟩ = some (.int .i64 0) ∧ W.cell? ⟨w33.heap.size, 3, none⟩ = some (.int .i64 0) ∧ W.cell? ⟨w33.heap.size, 4, none⟩ = some (.slice Aa 0 ca) ∧ W.cell? ⟨w33.heap.size, 5, none⟩ = some (.string ⟨#[]⟩) ∧ W.cell? ⟨w33.heap.size, 6, none⟩ = some (.string ⟨#[97]⟩) ∧ W.cell? ⟨w33.heap.size, 7, none⟩ = some (.int .u8 1) ∧ W.cell? ⟨w33.heap.size, 8, none⟩ = some (.int .i64 0) ∧ W.cell? ⟨w33.heap.size, 9, none⟩ = some (.int .i64 0) ∧ W.cell? ⟨w33.heap.size, 10, none⟩ = some (.slice Ab 0 cb) ∧ W.cell? ⟨w33.heap.size, 11, none⟩ = some (.string ⟨#[]⟩) from fun W hW => ⟨hW, (hW.cell (p := ⟨w33.heap.size, 0, none⟩) hlt).trans ((blk_cell HZ.out 0).trans rfl), (hW.cell (p := ⟨w33.heap.size, 1, none⟩) hlt).trans ((blk_cell HZ.out 1).trans rfl), (hW.cell (p := ⟨w33.heap.size, 2, none⟩) hlt).trans ((blk_cell HZ.out 2).trans rfl), (hW.cell (p := ⟨w33.heap.size, 3, none⟩) hlt).trans ((blk_cell HZ.out 3).trans rfl), (hW.cell (p := ⟨w33.heap.size, 4, none⟩) hlt).trans ((blk_cell HZ.out 4).trans rfl), (hW.cell (p := ⟨w33.heap.size, 5, none⟩) hlt).trans ((blk_cell HZ.out 5).trans rfl), (hW.cell (p := ⟨w33.heap.size, 6, none⟩) hlt).trans ((blk_cell HZ.out 6).trans rfl), (hW.cell (p := ⟨w33.heap.size, 7, none⟩) hlt).trans ((blk_cell HZ.out 7).trans rfl), (hW.cell (p := ⟨w33.heap.size, 8, none⟩) hlt).trans ((blk_cell HZ.out 8).trans rfl), (hW.cell (p := ⟨w33.heap.size, 9, none⟩) hlt).trans ((blk_cell HZ.out 9).trans rfl), (hW.cell (p := ⟨w33.heap.size, 10, none⟩) hlt).trans ((blk_cell HZ.out 10).trans rfl), (hW.cell (p := ⟨w33.heap.size, 11, none⟩) hlt).trans ((blk_cell HZ.out 11).trans rfl)⟩)
      have hBn : Below wz.heap.size wz wz.drew := below_drew (Below.refl _ _)
      go_cut [26] (fun v wc => (∃ A', v = .slice A' 3 3 ∧ Aside0 (Kd.C k26 wc A' 3 sortedL)) ∧ Aside0 (Below wz.heap.size wz wc))
      case first =>
        go_region_held3 (fun W => Below wz.heap.size wz W ∧ W.cell? ⟨w33.heap.size, 0, none⟩ = some (.string ⟨#[97]⟩) ∧ W.cell? ⟨w33.heap.size, 1, none⟩ = some (.int .u8 2) ∧ W.cell? ⟨w33.heap.size, 2, none⟩ = some (.int .i64 0) ∧ W.cell? ⟨w33.heap.size, 3, none⟩ = some (.int .i64 0) ∧ W.cell? ⟨w33.heap.size, 4, none⟩ = some (.slice Aa 0 ca) ∧ W.cell? ⟨w33.heap.size, 5, none⟩ = some (.string ⟨#[]⟩) ∧ W.cell? ⟨w33.heap.size, 6, none⟩ = some (.string ⟨#[97]⟩) ∧ W.cell? ⟨w33.heap.size, 7, none⟩ = some (.int .u8 1) ∧ W.cell? ⟨w33.heap.size, 8, none⟩ = some (.int .i64 0) ∧ W.cell? ⟨w33.heap.size, 9, none⟩ = some (.int .i64 0) ∧ W.cell? ⟨w33.heap.size, 10, none⟩ = some (.slice Ab 0 cb) ∧ W.cell? ⟨w33.heap.size, 11, none⟩ = some (.string ⟨#[]⟩))
          (first | exact KEEP.out _ (by assumption) | exact KEEP.out _ (by repeat (first | exact hBn | exact Below.refl _ _ | refine below_alloc ?_ _ | refine below_drew ?_)))
          (first
            | (go_at_call 33; refine (folder_any _ _).mono ?_; rintro e W1 ⟨⟨Af, cf, rfl⟩, hb1⟩; replace hBn := hBn.trans (hb1.mono hBn.size); clear hb1)
            | (go_at_call 29; refine (sort_own _ _ [kn [97] 1 [] [], kn [97] 2 [] [], kn [65] 2 [] []] _ (C_it3 (World.alloc_heap_new W1 _) (kn [97] 1 [] []) (kn [97] 2 [] []) (kn [65] 2 [] []) rfl rfl rfl rfl) (by decide) (by decide) (by decide)).mono ?_; rintro e W2 ⟨⟨As, cs, rfl, hcs, hNs⟩, hb2⟩; have hBs := (below_alloc hBn _).trans (hb2.mono (below_alloc hBn _).size); have HCs := Aside0.mk (Kd.N_reads' hNs).2.2; clear hb2 hNs))
        all_goals go_wp2
        all_goals go_meet
        all_goals exact ⟨⟨_, rfl, HCs⟩, ⟨hBs⟩⟩
      case rest =>
      obtain ⟨⟨As, rfl, HCs⟩, HBs⟩ := hcut
      have HT35 := Aside0.mk (Kd.C_below HT34.out HBs.out)
      have HB35 := Aside0.mk (HB34.out.trans (HBs.out.mono HB34.out.size))
      obtain ⟨sd, Ax, cx, rfl, s0, -⟩ := at_it HCs.out (Below.refl _ wc) 0 (by omega)
      obtain ⟨b0, o0, rfl⟩ : ∃ b o, sd = ⟨b, o, none⟩ := ⟨_, _, Jn.spot_of (show wc.cell? sd = _ from s0)⟩
      obtain ⟨sd, Ay, cy, hs, -, s1, -⟩ := at_it HCs.out (Below.refl _ wc) 1 (by omega)
      obtain rfl := Option.some.inj hs
      obtain ⟨sd, Az, cz, hs, -, s2, -⟩ := at_it HCs.out (Below.refl _ wc) 2 (by omega)
      obtain rfl := Option.some.inj hs
      have t0 : wc.cell? ⟨b0, o0, none⟩ = some (.string ⟨#[65]⟩) := by
        rw [ba_lit (show (rd_T26 sortedL ((0 : Nat) : Int)).f0.data.toList = [65] from known_s.2.1)] at s0
        exact s0
      have t1 : wc.cell? ⟨b0, o0 + 6 + 1, none⟩ = some (.int .u8 1) := by
        rw [show (rd_T26 sortedL ((1 : Nat) : Int)).f1 = 1 from known_s.2.2.1] at s1
        exact s1
      have t2 : wc.cell? ⟨b0, o0 + 12 + 1, none⟩ = some (.int .u8 2) := by
        rw [show (rd_T26 sortedL ((2 : Nat) : Int)).f1 = 2 from known_s.2.2.2] at s2
        exact s2
      have e1 : ((bytesOfL [120]).toList == [120]) = true := by decide +kernel
      clear s0 s1 s2 HBs HB34 HT34 KEEP hBn HZ HCs
      go_wp2_with fail
      refine (fails_any At ct twiceL 3 113 _ HT35.out known_c4).mono ?_
      rintro e w36 ⟨rfl, hb⟩
      have HB36 := Aside0.mk (HB35.out.trans (hb.mono HB35.out.size))
      clear hb
      go_wp2
      go_ret
      exact ⟨rfl, HB36.out⟩
end Go.Proofs.YthpecpkncifngaaDoor.X
end

section
namespace Go.Proofs.YthpecpkncifngaaDoor.treeKnownRow
open Go.ChangeShapes Go.WideShapes Go.ChangeAt Go.RowKit
open Go.ChangeMaps (open_string shut_string)
theorem own : ownKnob Tryd.prog.godebug = none := by kernel_rfl
theorem walk  (w : World)  : Calls Tryd.prog 11 #[] w fun e w' => e = .returned (.bool true) ∧ Below w.heap.size w w' := by
  exact X.treeKnown_walk w
set_option maxRecDepth 100000 in
theorem contract (H : Type) (enc : TypeId × Value → H) (W : World) (base : Nat) (args : Array Value) (ds gs : List (DataW H)) (before : List MemPlace)
    (hval : ∀ (j : Nat) t v, Tryd.f11.params[j]? = some t → args[j]? = some v → Value.okWide Tryd.prog W .any base t v)
    (hW : DataW.Whole enc Tryd.prog Tryd.f11.params.toList Rows.treeKnownSpec.vars false W args.toList ds gs before) (hsz0 : (DataW.weightsEach Tryd.prog (Tryd.f11.params.toList ++ Rows.treeKnownSpec.plain.varTypes Tryd.prog) (ds ++ gs)).all (· ≤ reachBytes) = true) :
    Calls Tryd.prog 11 args W fun e W' => ∃ v, e = .returned v ∧ Rows.treeKnownSpec.post enc Tryd.prog Tryd.f11 false true false false W args v W' := by
  have hW' := hW
  obtain ⟨p, q, hA0, hV, rfl, hfz, hnd⟩ := hW
  have hA : DataW.TrodAll enc Tryd.prog W 0 (fun _ => true) true Tryd.f11.params.toList args.toList ds p := hA0
  have hsz := hsz0
  rw [Tryd.params11] at hA hval hsz
  obtain ⟨rfl, rfl, rfl⟩ := trodAll_none hA
  obtain ⟨rfl, rfl⟩ := trodVars_none hV
  clear hA0
  refine (walk  W ).mono fun e W' ⟨he, bel⟩ => ?_
  subst he
  exact ⟨_, rfl, _, _, _, [], _, [], hW', trodAll_mk1 (shut_bool Tryd.underlying4 _), trodAll_mk0, rfl, bel.frame _, fun h => by cases h⟩
noncomputable def laidWorld (os : Os) : World := { World.holding Tryd.prog os ⟨#[], #[], []⟩ with heap := (((World.holding Tryd.prog os ⟨#[], #[], []⟩).heap.modify 2 fun | .cells _ t frozen => .cells (#[.int .u8 128, .int .u8 191, .int .u8 160, .int .u8 191, .int .u8 128, .int .u8 159, .int .u8 144, .int .u8 191, .int .u8 128, .int .u8 143, .int .u8 0, .int .u8 0, .int .u8 0, .int .u8 0, .int .u8 0, .int .u8 0, .int .u8 0, .int .u8 0, .int .u8 0, .int .u8 0, .int .u8 0, .int .u8 0, .int .u8 0, .int .u8 0, .int .u8 0, .int .u8 0, .int .u8 0, .int .u8 0, .int .u8 0, .int .u8 0, .int .u8 0, .int .u8 0]) t frozen | o => o).modify 1 fun | .cells _ t frozen => .cells ((Go.Pinned.utf8FirstZ.map fun (n : Nat) => Value.int .u8 (n : Int)).toArray) t frozen | o => o) }
set_option maxRecDepth 100000 in
theorem laid_met (os : Os) : laidMet Tryd.prog Rows.treeKnownRow.laid ((laidWorld os).forCall (fun _ _ => 0) ⟨#[], #[], []⟩).memory :=
  laidMet_of_run' 8 (by kernel_rfl) (by kernel_rfl)
set_option maxRecDepth 100000 in
theorem reads (os : Os) {H : Type} (enc : TypeId × Value → H) : ∃ places, DataW.whole enc Tryd.prog ((laidWorld os).forCall (fun _ _ => 0) ⟨#[], #[], []⟩).memory Tryd.f11.params.toList Rows.treeKnownSpec.vars false (#[] : Array Value).toList 8 = some ([], [], places) :=
  ⟨[], by kernel_rfl⟩
set_option maxRecDepth 100000 in
theorem lifted (os : Os) (started : os.Started) (H : Type) (enc : TypeId × Value → H) (F : Stop.Interp) :
    ReturnsInHanded {} Tryd.checked os 11 .any ((OpenSpec.ofChange Rows.treeKnownSpec).preRow enc Tryd.prog Tryd.f11 Rows.treeKnownRow.domain false Rows.treeKnownRow.laid) (((OpenSpec.ofChange Rows.treeKnownSpec).at F).post enc Tryd.prog Tryd.f11 false true false false) := by
  obtain ⟨places, hx⟩ := reads os enc
  refine returnsInHanded_of_row (C := Tryd.checked) (s := OpenSpec.ofChange Rows.treeKnownSpec) own started (by kernel_rfl) Tryd.func11
    (witness_row_at (enc := enc) (C := Tryd.checked) false (laidWorld os) #[] rfl (by kernel_rfl) (by kernel_rfl) (by kernel_rfl)
      (OpenSpec.preRow_of_cond 8 hx (by kernel_rfl) (fun k hk => by cases hk) (by kernel_rfl) (laid_met os))) ?_
  intro W base args ds gs before hval hW _ hcond hsz0 _ _ _
  exact contract H enc W base args ds gs before hval hW hsz0
set_option maxRecDepth 100000 in
theorem proved : Rows.TreeKnownSaid :=
  OpenClaim.holds_of_cond 11 Tryd.f11 rfl rfl rfl rfl rfl rfl rfl ⟨rfl, rfl, rfl, rfl, rfl⟩ rfl rfl rfl rfl rfl (by kernel_rfl) Tryd.func11 (by kernel_rfl)
    (of_decide_eq_true (by kernel_rfl)) (by unfold Func.isWrapper; first | (rw [if_pos (by decide +kernel)]; kernel_rfl) | (rw [if_neg (by decide +kernel)]; exact ⟨rfl, rfl⟩))
    (fun os started H enc _ F => by rw [OpenClaim.pre_eq_preRow]; exact lifted os started H enc F)
theorem plain (f : FuncId) (fn : Func) (hf : Tryd.pinned.checked.prog.funcNamed "tabulary/tabularylaw11.TreeKnown" = some f) (hfn : Tryd.pinned.checked.prog.funcs[f]? = some fn) :
    false = Tryd.pinned.checked.prog.looks [] ∧ ∀ (j : Nat) t, fn.params[j]? = some t → Tryd.pinned.checked.prog.wantsStandIn t = false := by
  obtain rfl : f = 11 := Option.some.inj ((show Tryd.prog.funcNamed "tabulary/tabularylaw11.TreeKnown" = some 11 by kernel_rfl).symm.trans hf) |>.symm
  obtain rfl : fn = Tryd.f11 := (Option.some.inj (Tryd.func11.symm.trans hfn)).symm
  refine ⟨by kernel_rfl, fun j t ht => ?_⟩
  rw [Tryd.params11] at ht
  simp at ht
set_option maxRecDepth 100000 in
theorem card : Rows.TreeKnownCardSaid :=
  Claim7.holds_tied_plain_at .later [] _ _ _ _ proved (fun _ h => by cases h) (by kernel_rfl) (fun _ h => by cases h) treeKnown_row_tie rfl ⟨rfl, rfl⟩ (by kernel_rfl) rfl plain (by kernel_rfl)
end Go.Proofs.YthpecpkncifngaaDoor.treeKnownRow
namespace Go.Proofs.YthpecpkncifngaaDoor
theorem treeKnown_holds : Rows.TreeKnownCardSaid := treeKnownRow.card
#print axioms treeKnown_holds
end Go.Proofs.YthpecpkncifngaaDoor
end
