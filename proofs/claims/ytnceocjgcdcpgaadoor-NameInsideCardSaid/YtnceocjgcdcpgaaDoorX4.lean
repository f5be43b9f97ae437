-- PRINTED by print.py (a twelfth state) out of the translation. Not trusted: Lean checks it.
import Derived.Test.YtnceocjgcdcpgaaDoorX0
import Derived.Test.YtnceocjgcdcpgaaDoorX3
namespace Go.Proofs.YtnceocjgcdcpgaaDoor.X
open Go.RowKit Go.Proofs.YtnceocjgcdcpgaaDoorW.PrintWords Go.Proofs.YtnceocjgcdcpgaaDoorW.PrintLast Go.Proofs.YtnceocjgcdcpgaaDoorW.PrintMore
attribute [local go_sem] max2_int min2_int max_two min_two max_three min_three max_four min_four   -- for this text's walks alone
set_option linter.unusedVariables false
set_option linter.unusedSimpArgs false

/-! ### tabularylaw08_NameOrder: function 4 -/
mutual
def tabularylaw08_NameOrder.j0 : Nat → ByteArray → ByteArray → ByteArray → Int → Int → Bool → Option (Bool)
  | 0, _, _, _, _, _, _ => none
  | k + 1, x0, x1, x2, x7, x8, x68 => if x68 = true then (some false) else (if x0.toList = ([] : List UInt8) then (tabularylaw08_NameOrder.j1 k x0 x1 x2 x7 x8 false) else ((name_Beneath.f x0 x1).bind fun t165 => (if t165 = true then (tabularylaw08_NameOrder.j1 k x0 x1 x2 x7 x8 (x7 != (-1))) else (tabularylaw08_NameOrder.j1 k x0 x1 x2 x7 x8 false))))
def tabularylaw08_NameOrder.j1 : Nat → ByteArray → ByteArray → ByteArray → Int → Int → Bool → Option (Bool)
  | 0, _, _, _, _, _, _ => none
  | k + 1, x0, x1, x2, x7, x8, x79 => if x79 = true then (some false) else ((name_Check.f x1).bind fun bt166 => (if x0.toList = ([] : List UInt8) then (some true) else ((name_Beneath.f x0 x2).bind fun t168 => (if t168 = true then (if bt166.2 = 0 then (if x7 < 0 then (if x8 < 0 then ((name_Beneath.f x0 x1).bind fun t169 => (some t169)) else (some true)) else (some true)) else (some true)) else (some true)))))
end
def tabularylaw08_NameOrder.f (k : Nat) (a0 : ByteArray) (a1 : ByteArray) (a2 : ByteArray) : Option (Bool) := (tabularylaw08_awake.f k).bind fun t160 => (if t160 = true then ((name_Compare.f k a0 a1).bind fun t161 => ((name_Compare.f k a1 a2).bind fun t162 => ((name_Compare.f k a0 a2).bind fun t163 => (if t161 < (-1) then (tabularylaw08_NameOrder.j0 k a0 a1 a2 t161 t162 true) else (if t161 > 1 then (tabularylaw08_NameOrder.j0 k a0 a1 a2 t161 t162 true) else ((name_Compare.f k a1 a0).bind fun t164 => (if t164 = (wrap64 (-t161)) then (if ((t161 == 0) != (a0.toList == a1.toList)) = true then (tabularylaw08_NameOrder.j0 k a0 a1 a2 t161 t162 true) else (if t161 ≤ 0 then (if t162 ≤ 0 then (if t163 > 0 then (tabularylaw08_NameOrder.j0 k a0 a1 a2 t161 t162 true) else (if t161 < 0 then (tabularylaw08_NameOrder.j0 k a0 a1 a2 t161 t162 (decide (t163 ≥ 0))) else (tabularylaw08_NameOrder.j0 k a0 a1 a2 t161 t162 false))) else (if t161 < 0 then (tabularylaw08_NameOrder.j0 k a0 a1 a2 t161 t162 false) else (tabularylaw08_NameOrder.j0 k a0 a1 a2 t161 t162 false))) else (if t161 < 0 then (if t162 ≤ 0 then (tabularylaw08_NameOrder.j0 k a0 a1 a2 t161 t162 (decide (t163 ≥ 0))) else (tabularylaw08_NameOrder.j0 k a0 a1 a2 t161 t162 false)) else (tabularylaw08_NameOrder.j0 k a0 a1 a2 t161 t162 false)))) else (tabularylaw08_NameOrder.j0 k a0 a1 a2 t161 t162 true)))))))) else (some false))
theorem tabularylaw08_NameOrder.mono_l : ∀ k, (∀ y0 y1 y2 y3 y4 y5, LeO (tabularylaw08_NameOrder.j0 k y0 y1 y2 y3 y4 y5) (tabularylaw08_NameOrder.j0 (k + 1) y0 y1 y2 y3 y4 y5)) ∧ (∀ y0 y1 y2 y3 y4 y5, LeO (tabularylaw08_NameOrder.j1 k y0 y1 y2 y3 y4 y5) (tabularylaw08_NameOrder.j1 (k + 1) y0 y1 y2 y3 y4 y5))
  | 0 => ⟨fun _ _ _ _ _ _ r h => by simp [tabularylaw08_NameOrder.j0] at h, fun _ _ _ _ _ _ r h => by simp [tabularylaw08_NameOrder.j1] at h⟩
  | k + 1 => by
    obtain ⟨ih0, ih1⟩ := tabularylaw08_NameOrder.mono_l k
    refine ⟨?_, ?_⟩
    · intro y0 y1 y2 y3 y4 y5
      unfold tabularylaw08_NameOrder.j0
      repeat' first
      | (with_reducible exact ih0 _ _ _ _ _ _)
      | (with_reducible exact ih1 _ _ _ _ _ _)
      | (with_reducible exact name_Compare.mono _ _ _)
      | (with_reducible exact tabularylaw08_awake.mono _)
      | (with_reducible exact LeO.refl _)
      | (with_reducible exact LeO.none _)
      | (with_reducible refine LeO.ite ?_ ?_)
      | (with_reducible refine LeO.bind ?_ (fun _ => ?_))
      | exact ih0 _ _ _ _ _ _
      | exact ih1 _ _ _ _ _ _
      | exact name_Compare.mono _ _ _
      | exact tabularylaw08_awake.mono _
      | exact LeO.none _
      | refine LeO.ite ?_ ?_
      | refine LeO.bind ?_ (fun _ => ?_)
    · intro y0 y1 y2 y3 y4 y5
      unfold tabularylaw08_NameOrder.j1
      repeat' first
      | (with_reducible exact ih0 _ _ _ _ _ _)
      | (with_reducible exact ih1 _ _ _ _ _ _)
      | (with_reducible exact name_Compare.mono _ _ _)
      | (with_reducible exact tabularylaw08_awake.mono _)
      | (with_reducible exact LeO.refl _)
      | (with_reducible exact LeO.none _)
      | (with_reducible refine LeO.ite ?_ ?_)
      | (with_reducible refine LeO.bind ?_ (fun _ => ?_))
      | exact ih0 _ _ _ _ _ _
      | exact ih1 _ _ _ _ _ _
      | exact name_Compare.mono _ _ _
      | exact tabularylaw08_awake.mono _
      | exact LeO.none _
      | refine LeO.ite ?_ ?_
      | refine LeO.bind ?_ (fun _ => ?_)
theorem tabularylaw08_NameOrder.mono : ∀ a0 a1 a2 k, LeO (tabularylaw08_NameOrder.f k a0 a1 a2) (tabularylaw08_NameOrder.f (k + 1) a0 a1 a2) := by
  intro a0 a1 a2 k
  obtain ⟨ih0, ih1⟩ := tabularylaw08_NameOrder.mono_l k
  unfold tabularylaw08_NameOrder.f
  repeat' first
      | (with_reducible exact ih0 _ _ _ _ _ _)
      | (with_reducible exact ih1 _ _ _ _ _ _)
      | (with_reducible exact name_Compare.mono _ _ _)
      | (with_reducible exact tabularylaw08_awake.mono _)
      | (with_reducible exact LeO.refl _)
      | (with_reducible exact LeO.none _)
      | (with_reducible refine LeO.ite ?_ ?_)
      | (with_reducible refine LeO.bind ?_ (fun _ => ?_))
      | exact ih0 _ _ _ _ _ _
      | exact ih1 _ _ _ _ _ _
      | exact name_Compare.mono _ _ _
      | exact tabularylaw08_awake.mono _
      | exact LeO.none _
      | refine LeO.ite ?_ ?_
      | refine LeO.bind ?_ (fun _ => ?_)
set_option maxHeartbeats 8000000 in
set_option maxRecDepth 100000 in
theorem tabularylaw08_NameOrder.calls (k : Nat) (a0 : ByteArray) (a1 : ByteArray) (a2 : ByteArray) (r : Bool) (w : World) (h : tabularylaw08_NameOrder.f k a0 a1 a2 = some r) :
    Calls Tryd.prog 4 #[.string a0, .string a1, .string a2] w fun e w' => e = .returned (.bool r) ∧ Below w.heap.size w w' := by
  have HB := Aside0.mk (Below.refl w.heap.size w)
  have H : ((tabularylaw08_awake.f k).bind fun t160 => (if t160 = true then ((name_Compare.f k a0 a1).bind fun t161 => ((name_Compare.f k a1 a2).bind fun t162 => ((name_Compare.f k a0 a2).bind fun t163 => (if t161 < (-1) then (tabularylaw08_NameOrder.j0 k a0 a1 a2 t161 t162 true) else (if t161 > 1 then (tabularylaw08_NameOrder.j0 k a0 a1 a2 t161 t162 true) else ((name_Compare.f k a1 a0).bind fun t164 => (if t164 = (wrap64 (-t161)) then (if ((t161 == 0) != (a0.toList == a1.toList)) = true then (tabularylaw08_NameOrder.j0 k a0 a1 a2 t161 t162 true) else (if t161 ≤ 0 then (if t162 ≤ 0 then (if t163 > 0 then (tabularylaw08_NameOrder.j0 k a0 a1 a2 t161 t162 true) else (if t161 < 0 then (tabularylaw08_NameOrder.j0 k a0 a1 a2 t161 t162 (decide (t163 ≥ 0))) else (tabularylaw08_NameOrder.j0 k a0 a1 a2 t161 t162 false))) else (if t161 < 0 then (tabularylaw08_NameOrder.j0 k a0 a1 a2 t161 t162 false) else (tabularylaw08_NameOrder.j0 k a0 a1 a2 t161 t162 false))) else (if t161 < 0 then (if t162 ≤ 0 then (tabularylaw08_NameOrder.j0 k a0 a1 a2 t161 t162 (decide (t163 ≥ 0))) else (tabularylaw08_NameOrder.j0 k a0 a1 a2 t161 t162 false)) else (tabularylaw08_NameOrder.j0 k a0 a1 a2 t161 t162 false)))) else (tabularylaw08_NameOrder.j0 k a0 a1 a2 t161 t162 true)))))))) else (some false))) = some r := h
  clear h
  replace H := Option.bind_eq_some_iff.mp H
  obtain ⟨t160, A40, H⟩ := H
  replace H : (if t160 = true then ((name_Compare.f k a0 a1).bind fun t161 => ((name_Compare.f k a1 a2).bind fun t162 => ((name_Compare.f k a0 a2).bind fun t163 => (if t161 < (-1) then (tabularylaw08_NameOrder.j0 k a0 a1 a2 t161 t162 true) else (if t161 > 1 then (tabularylaw08_NameOrder.j0 k a0 a1 a2 t161 t162 true) else ((name_Compare.f k a1 a0).bind fun t164 => (if t164 = (wrap64 (-t161)) then (if ((t161 == 0) != (a0.toList == a1.toList)) = true then (tabularylaw08_NameOrder.j0 k a0 a1 a2 t161 t162 true) else (if t161 ≤ 0 then (if t162 ≤ 0 then (if t163 > 0 then (tabularylaw08_NameOrder.j0 k a0 a1 a2 t161 t162 true) else (if t161 < 0 then (tabularylaw08_NameOrder.j0 k a0 a1 a2 t161 t162 (decide (t163 ≥ 0))) else (tabularylaw08_NameOrder.j0 k a0 a1 a2 t161 t162 false))) else (if t161 < 0 then (tabularylaw08_NameOrder.j0 k a0 a1 a2 t161 t162 false) else (tabularylaw08_NameOrder.j0 k a0 a1 a2 t161 t162 false))) else (if t161 < 0 then (if t162 ≤ 0 then (tabularylaw08_NameOrder.j0 k a0 a1 a2 t161 t162 (decide (t163 ≥ 0))) else (tabularylaw08_NameOrder.j0 k a0 a1 a2 t161 t162 false)) else (tabularylaw08_NameOrder.j0 k a0 a1 a2 t161 t162 false)))) else (tabularylaw08_NameOrder.j0 k a0 a1 a2 t161 t162 true)))))))) else (some false)) = some r := H
  have A4 := Aside0.mk A40
  clear A40
  by_cases c5 : t160 = true
  · subst c5
    have H1 : ((name_Compare.f k a0 a1).bind fun t161 => ((name_Compare.f k a1 a2).bind fun t162 => ((name_Compare.f k a0 a2).bind fun t163 => (if t161 < (-1) then (tabularylaw08_NameOrder.j0 k a0 a1 a2 t161 t162 true) else (if t161 > 1 then (tabularylaw08_NameOrder.j0 k a0 a1 a2 t161 t162 true) else ((name_Compare.f k a1 a0).bind fun t164 => (if t164 = (wrap64 (-t161)) then (if ((t161 == 0) != (a0.toList == a1.toList)) = true then (tabularylaw08_NameOrder.j0 k a0 a1 a2 t161 t162 true) else (if t161 ≤ 0 then (if t162 ≤ 0 then (if t163 > 0 then (tabularylaw08_NameOrder.j0 k a0 a1 a2 t161 t162 true) else (if t161 < 0 then (tabularylaw08_NameOrder.j0 k a0 a1 a2 t161 t162 (decide (t163 ≥ 0))) else (tabularylaw08_NameOrder.j0 k a0 a1 a2 t161 t162 false))) else (if t161 < 0 then (tabularylaw08_NameOrder.j0 k a0 a1 a2 t161 t162 false) else (tabularylaw08_NameOrder.j0 k a0 a1 a2 t161 t162 false))) else (if t161 < 0 then (if t162 ≤ 0 then (tabularylaw08_NameOrder.j0 k a0 a1 a2 t161 t162 (decide (t163 ≥ 0))) else (tabularylaw08_NameOrder.j0 k a0 a1 a2 t161 t162 false)) else (tabularylaw08_NameOrder.j0 k a0 a1 a2 t161 t162 false)))) else (tabularylaw08_NameOrder.j0 k a0 a1 a2 t161 t162 true)))))))) = some r := by rw [if_pos rfl] at H; exact H
    clear H
    have H := H1
    clear H1
    replace H := Option.bind_eq_some_iff.mp H
    obtain ⟨t161, A60, H⟩ := H
    replace H : ((name_Compare.f k a1 a2).bind fun t162 => ((name_Compare.f k a0 a2).bind fun t163 => (if t161 < (-1) then (tabularylaw08_NameOrder.j0 k a0 a1 a2 t161 t162 true) else (if t161 > 1 then (tabularylaw08_NameOrder.j0 k a0 a1 a2 t161 t162 true) else ((name_Compare.f k a1 a0).bind fun t164 => (if t164 = (wrap64 (-t161)) then (if ((t161 == 0) != (a0.toList == a1.toList)) = true then (tabularylaw08_NameOrder.j0 k a0 a1 a2 t161 t162 true) else (if t161 ≤ 0 then (if t162 ≤ 0 then (if t163 > 0 then (tabularylaw08_NameOrder.j0 k a0 a1 a2 t161 t162 true) else (if t161 < 0 then (tabularylaw08_NameOrder.j0 k a0 a1 a2 t161 t162 (decide (t163 ≥ 0))) else (tabularylaw08_NameOrder.j0 k a0 a1 a2 t161 t162 false))) else (if t161 < 0 then (tabularylaw08_NameOrder.j0 k a0 a1 a2 t161 t162 false) else (tabularylaw08_NameOrder.j0 k a0 a1 a2 t161 t162 false))) else (if t161 < 0 then (if t162 ≤ 0 then (tabularylaw08_NameOrder.j0 k a0 a1 a2 t161 t162 (decide (t163 ≥ 0))) else (tabularylaw08_NameOrder.j0 k a0 a1 a2 t161 t162 false)) else (tabularylaw08_NameOrder.j0 k a0 a1 a2 t161 t162 false)))) else (tabularylaw08_NameOrder.j0 k a0 a1 a2 t161 t162 true))))))) = some r := H
    have A6 := Aside0.mk A60
    clear A60
    replace H := Option.bind_eq_some_iff.mp H
    obtain ⟨t162, A70, H⟩ := H
    replace H : ((name_Compare.f k a0 a2).bind fun t163 => (if t161 < (-1) then (tabularylaw08_NameOrder.j0 k a0 a1 a2 t161 t162 true) else (if t161 > 1 then (tabularylaw08_NameOrder.j0 k a0 a1 a2 t161 t162 true) else ((name_Compare.f k a1 a0).bind fun t164 => (if t164 = (wrap64 (-t161)) then (if ((t161 == 0) != (a0.toList == a1.toList)) = true then (tabularylaw08_NameOrder.j0 k a0 a1 a2 t161 t162 true) else (if t161 ≤ 0 then (if t162 ≤ 0 then (if t163 > 0 then (tabularylaw08_NameOrder.j0 k a0 a1 a2 t161 t162 true) else (if t161 < 0 then (tabularylaw08_NameOrder.j0 k a0 a1 a2 t161 t162 (decide (t163 ≥ 0))) else (tabularylaw08_NameOrder.j0 k a0 a1 a2 t161 t162 false))) else (if t161 < 0 then (tabularylaw08_NameOrder.j0 k a0 a1 a2 t161 t162 false) else (tabularylaw08_NameOrder.j0 k a0 a1 a2 t161 t162 false))) else (if t161 < 0 then (if t162 ≤ 0 then (tabularylaw08_NameOrder.j0 k a0 a1 a2 t161 t162 (decide (t163 ≥ 0))) else (tabularylaw08_NameOrder.j0 k a0 a1 a2 t161 t162 false)) else (tabularylaw08_NameOrder.j0 k a0 a1 a2 t161 t162 false)))) else (tabularylaw08_NameOrder.j0 k a0 a1 a2 t161 t162 true)))))) = some r := H
    have A7 := Aside0.mk A70
    clear A70
    replace H := Option.bind_eq_some_iff.mp H
    obtain ⟨t163, A80, H⟩ := H
    replace H : (if t161 < (-1) then (tabularylaw08_NameOrder.j0 k a0 a1 a2 t161 t162 true) else (if t161 > 1 then (tabularylaw08_NameOrder.j0 k a0 a1 a2 t161 t162 true) else ((name_Compare.f k a1 a0).bind fun t164 => (if t164 = (wrap64 (-t161)) then (if ((t161 == 0) != (a0.toList == a1.toList)) = true then (tabularylaw08_NameOrder.j0 k a0 a1 a2 t161 t162 true) else (if t161 ≤ 0 then (if t162 ≤ 0 then (if t163 > 0 then (tabularylaw08_NameOrder.j0 k a0 a1 a2 t161 t162 true) else (if t161 < 0 then (tabularylaw08_NameOrder.j0 k a0 a1 a2 t161 t162 (decide (t163 ≥ 0))) else (tabularylaw08_NameOrder.j0 k a0 a1 a2 t161 t162 false))) else (if t161 < 0 then (tabularylaw08_NameOrder.j0 k a0 a1 a2 t161 t162 false) else (tabularylaw08_NameOrder.j0 k a0 a1 a2 t161 t162 false))) else (if t161 < 0 then (if t162 ≤ 0 then (tabularylaw08_NameOrder.j0 k a0 a1 a2 t161 t162 (decide (t163 ≥ 0))) else (tabularylaw08_NameOrder.j0 k a0 a1 a2 t161 t162 false)) else (tabularylaw08_NameOrder.j0 k a0 a1 a2 t161 t162 false)))) else (tabularylaw08_NameOrder.j0 k a0 a1 a2 t161 t162 true))))) = some r := H
    have A8 := Aside0.mk A80
    clear A80
    have HC9 := Aside0.mk H
    clear H
    go_enter Tryd.func4, Tryd.ntmps4
    go_upto_region 6 with (first | ((with_reducible refine gate_callee (f := 10) rfl ?_); refine goesL_ (some 12) rfl rfl Tryd.func10 (by kernel_rfl) rfl #[] rfl (by (try simp only [List.map_toArray, List.map_cons, List.map_nil]); first | done | rfl | (simp only [List.length_drop, List.length_take]; rfl)) ?_; (with_reducible refine (tabularylaw08_awake.calls k  true _ A4.out).mono ?_); rintro e w10 ⟨rfl, hb⟩; refine ⟨_, rfl, ?_⟩; have n0_ := Aside0.mk (below_step (by repeat (first | (with_reducible first | exact HB.out | apply below_alloc | apply pw_below_drewN | apply below_drew1) | exact HB.out)) hb); clear HB; have HB := n0_; clear n0_; (try clear hb); (try clear hb2); (try clear hk); (try clear hi)) | ((with_reducible refine gate_callee (f := 11) rfl ?_); refine goesL_ (some 16) rfl rfl Tryd.func11 (by kernel_rfl) rfl #[.string a0, .string a1] rfl (by (try simp only [List.map_toArray, List.map_cons, List.map_nil]); first | done | rfl | (simp only [List.length_drop, List.length_take]; rfl)) ?_; (with_reducible refine (name_Compare.calls k a0 a1 t161 _ A6.out).mono ?_); rintro e w' ⟨rfl, ⟨nd, rfl⟩⟩; refine ⟨_, rfl, ?_⟩) | ((with_reducible refine gate_callee (f := 11) rfl ?_); refine goesL_ (some 19) rfl rfl Tryd.func11 (by kernel_rfl) rfl #[.string a1, .string a2] rfl (by (try simp only [List.map_toArray, List.map_cons, List.map_nil]); first | done | rfl | (simp only [List.length_drop, List.length_take]; rfl)) ?_; (with_reducible refine (name_Compare.calls k a1 a2 t162 _ A7.out).mono ?_); rintro e w' ⟨rfl, ⟨nd, rfl⟩⟩; refine ⟨_, rfl, ?_⟩) | ((with_reducible refine gate_callee (f := 11) rfl ?_); refine goesL_ (some 22) rfl rfl Tryd.func11 (by kernel_rfl) rfl #[.string a0, .string a2] rfl (by (try simp only [List.map_toArray, List.map_cons, List.map_nil]); first | done | rfl | (simp only [List.length_drop, List.length_take]; rfl)) ?_; (with_reducible refine (name_Compare.calls k a0 a2 t163 _ A8.out).mono ?_); rintro e w' ⟨rfl, ⟨nd, rfl⟩⟩; refine ⟨_, rfl, ?_⟩))
    (try simp only [Act.put, List.setIfInBounds_toArray, List.set_cons_zero, List.set_cons_succ])
    go_cut [68] (fun v68 wc => ∃ (kq : Nat) (x68_8 : Bool), v68 = .bool x68_8 ∧ Aside0 (tabularylaw08_NameOrder.j0 kq a0 a1 a2 t161 t162 x68_8 = some r) ∧ Aside0 (kq ≤ k) ∧ Aside0 (Below w.heap.size w wc))
    case first =>
      have H := HC9.out
      clear HC9
      by_cases c11 : t161 < (-1)
      · rw [if_pos c11] at H
        have c11b0 : decide (t161 < (-1)) = true := decide_eq_true c11
        clear c11
        (first | rw [c11b0] | (simp only [i64_w, i32_w]; rw [c11b0]) | skip)
        have H' := Aside0.mk H
        clear H
        go_wp2
        go_meet
        case rel => exact ⟨_, (true), (by first | rfl | (simp; done) | (simp [*]; done)), H', ⟨by first | omega | exact Nat.le_refl _⟩, ⟨by repeat (first | (with_reducible first | exact HB.out | apply below_alloc | apply pw_below_drewN | apply below_drew1) | exact HB.out)⟩⟩
      · rw [if_neg c11] at H
        have c11b0 : decide (t161 < (-1)) = false := decide_eq_false c11
        clear c11
        (first | rw [c11b0] | (simp only [i64_w, i32_w]; rw [c11b0]) | skip)
        by_cases c12 : t161 > 1
        · rw [if_pos c12] at H
          have c12b0 : decide (1 < t161) = true := decide_eq_true c12
          clear c12
          have H' := Aside0.mk H
          clear H
          go_wp2
          go_meet
          case rel => exact ⟨_, (true), (by first | rfl | (simp; done) | (simp [*]; done)), H', ⟨by first | omega | exact Nat.le_refl _⟩, ⟨by repeat (first | (with_reducible first | exact HB.out | apply below_alloc | apply pw_below_drewN | apply below_drew1) | exact HB.out)⟩⟩
        · rw [if_neg c12] at H
          have c12b0 : decide (1 < t161) = false := decide_eq_false c12
          clear c12
          replace H := Option.bind_eq_some_iff.mp H
          obtain ⟨t164, A130, H⟩ := H
          replace H : (if t164 = (wrap64 (-t161)) then (if ((t161 == 0) != (a0.toList == a1.toList)) = true then (tabularylaw08_NameOrder.j0 k a0 a1 a2 t161 t162 true) else (if t161 ≤ 0 then (if t162 ≤ 0 then (if t163 > 0 then (tabularylaw08_NameOrder.j0 k a0 a1 a2 t161 t162 true) else (if t161 < 0 then (tabularylaw08_NameOrder.j0 k a0 a1 a2 t161 t162 (decide (t163 ≥ 0))) else (tabularylaw08_NameOrder.j0 k a0 a1 a2 t161 t162 false))) else (if t161 < 0 then (tabularylaw08_NameOrder.j0 k a0 a1 a2 t161 t162 false) else (tabularylaw08_NameOrder.j0 k a0 a1 a2 t161 t162 false))) else (if t161 < 0 then (if t162 ≤ 0 then (tabularylaw08_NameOrder.j0 k a0 a1 a2 t161 t162 (decide (t163 ≥ 0))) else (tabularylaw08_NameOrder.j0 k a0 a1 a2 t161 t162 false)) else (tabularylaw08_NameOrder.j0 k a0 a1 a2 t161 t162 false)))) else (tabularylaw08_NameOrder.j0 k a0 a1 a2 t161 t162 true)) = some r := H
          have A13 := Aside0.mk A130
          clear A130
          by_cases c14 : t164 = (wrap64 (-t161))
          · rw [if_pos c14] at H
            have c14b0 : (t164 == (wrap64 (-t161))) = true := beq_iff_eq.mpr c14
            have c14b1 : (t164 != (wrap64 (-t161))) = false := bne_eq_false_iff_eq.mpr c14
            clear c14
            by_cases c15 : ((t161 == 0) != (a0.toList == a1.toList)) = true
            · rw [if_pos c15] at H
              have c15b0 : ((t161 == 0) != (a0.toList == a1.toList)) = true := c15
              (try (have c15b1 : decide ((t161 == 0) = (a0.toList == a1.toList)) = false := by simpa using c15))
              (try (have c15b2 : ((t161 == 0) == (a0.toList == a1.toList)) = false := by simpa using c15))
              (try (have c15b3 : ¬ ((t161 == 0) = (a0.toList == a1.toList)) := by simpa using c15))
              clear c15
              have H' := Aside0.mk H
              clear H
              go_wp2_with (first | (go_at_call 11; (with_reducible refine (name_Compare.calls k a1 a0 t164 _ A13.out).mono ?_); rintro e w' ⟨rfl, ⟨nd, rfl⟩⟩))
              go_meet
              case rel => exact ⟨_, (true), (by first | rfl | (simp; done) | (simp [*]; done)), H', ⟨by first | omega | exact Nat.le_refl _⟩, ⟨by repeat (first | (with_reducible first | exact HB.out | apply below_alloc | apply pw_below_drewN | apply below_drew1) | exact HB.out)⟩⟩
            · rw [if_neg c15] at H
              have c15b0 : ((t161 == 0) != (a0.toList == a1.toList)) = false := by simpa using c15
              (try (have c15b1 : decide ((t161 == 0) = (a0.toList == a1.toList)) = true := by simpa using c15))
              (try (have c15b2 : ((t161 == 0) == (a0.toList == a1.toList)) = true := by simpa using c15))
              clear c15
              by_cases c16 : t161 ≤ 0
              · rw [if_pos c16] at H
                have c16b0 : decide (t161 ≤ 0) = true := decide_eq_true c16
                clear c16
                by_cases c17 : t162 ≤ 0
                · rw [if_pos c17] at H
                  have c17b0 : decide (t162 ≤ 0) = true := decide_eq_true c17
                  clear c17
                  by_cases c18 : t163 > 0
                  · rw [if_pos c18] at H
                    have c18b0 : decide (0 < t163) = true := decide_eq_true c18
                    clear c18
                    have H' := Aside0.mk H
                    clear H
                    go_wp2_with (first | (go_at_call 11; (with_reducible refine (name_Compare.calls k a1 a0 t164 _ A13.out).mono ?_); rintro e w' ⟨rfl, ⟨nd, rfl⟩⟩))
                    go_meet
                    case rel => exact ⟨_, (true), (by first | rfl | (simp; done) | (simp [*]; done)), H', ⟨by first | omega | exact Nat.le_refl _⟩, ⟨by repeat (first | (with_reducible first | exact HB.out | apply below_alloc | apply pw_below_drewN | apply below_drew1) | exact HB.out)⟩⟩
                  · rw [if_neg c18] at H
                    have c18b0 : decide (0 < t163) = false := decide_eq_false c18
                    clear c18
                    by_cases c19 : t161 < 0
                    · rw [if_pos c19] at H
                      have c19b0 : decide (t161 < 0) = true := decide_eq_true c19
                      clear c19
                      have H' := Aside0.mk H
                      clear H
                      go_wp2_with (first | (go_at_call 11; (with_reducible refine (name_Compare.calls k a1 a0 t164 _ A13.out).mono ?_); rintro e w' ⟨rfl, ⟨nd, rfl⟩⟩))
                      go_meet
                      case rel => exact ⟨_, (decide (t163 ≥ 0)), (by first | rfl | (simp; done) | (simp [*]; done)), H', ⟨by first | omega | exact Nat.le_refl _⟩, ⟨by repeat (first | (with_reducible first | exact HB.out | apply below_alloc | apply pw_below_drewN | apply below_drew1) | exact HB.out)⟩⟩
                    · rw [if_neg c19] at H
                      have c19b0 : decide (t161 < 0) = false := decide_eq_false c19
                      clear c19
                      have H' := Aside0.mk H
                      clear H
                      go_wp2_with (first | (go_at_call 11; (with_reducible refine (name_Compare.calls k a1 a0 t164 _ A13.out).mono ?_); rintro e w' ⟨rfl, ⟨nd, rfl⟩⟩))
                      go_meet
                      case rel => exact ⟨_, (false), (by first | rfl | (simp; done) | (simp [*]; done)), H', ⟨by first | omega | exact Nat.le_refl _⟩, ⟨by repeat (first | (with_reducible first | exact HB.out | apply below_alloc | apply pw_below_drewN | apply below_drew1) | exact HB.out)⟩⟩
                · rw [if_neg c17] at H
                  have c17b0 : decide (t162 ≤ 0) = false := decide_eq_false c17
                  clear c17
                  by_cases c20 : t161 < 0
                  · rw [if_pos c20] at H
                    have c20b0 : decide (t161 < 0) = true := decide_eq_true c20
                    clear c20
                    have H' := Aside0.mk H
                    clear H
                    go_wp2_with (first | (go_at_call 11; (with_reducible refine (name_Compare.calls k a1 a0 t164 _ A13.out).mono ?_); rintro e w' ⟨rfl, ⟨nd, rfl⟩⟩))
                    go_meet
                    case rel => exact ⟨_, (false), (by first | rfl | (simp; done) | (simp [*]; done)), H', ⟨by first | omega | exact Nat.le_refl _⟩, ⟨by repeat (first | (with_reducible first | exact HB.out | apply below_alloc | apply pw_below_drewN | apply below_drew1) | exact HB.out)⟩⟩
                  · rw [if_neg c20] at H
                    have c20b0 : decide (t161 < 0) = false := decide_eq_false c20
                    clear c20
                    have H' := Aside0.mk H
                    clear H
                    go_wp2_with (first | (go_at_call 11; (with_reducible refine (name_Compare.calls k a1 a0 t164 _ A13.out).mono ?_); rintro e w' ⟨rfl, ⟨nd, rfl⟩⟩))
                    go_meet
                    case rel => exact ⟨_, (false), (by first | rfl | (simp; done) | (simp [*]; done)), H', ⟨by first | omega | exact Nat.le_refl _⟩, ⟨by repeat (first | (with_reducible first | exact HB.out | apply below_alloc | apply pw_below_drewN | apply below_drew1) | exact HB.out)⟩⟩
              · rw [if_neg c16] at H
                have c16b0 : decide (t161 ≤ 0) = false := decide_eq_false c16
                clear c16
                by_cases c21 : t161 < 0
                · rw [if_pos c21] at H
                  have c21b0 : decide (t161 < 0) = true := decide_eq_true c21
                  clear c21
                  by_cases c22 : t162 ≤ 0
                  · rw [if_pos c22] at H
                    have c22b0 : decide (t162 ≤ 0) = true := decide_eq_true c22
                    clear c22
                    have H' := Aside0.mk H
                    clear H
                    go_wp2_with (first | (go_at_call 11; (with_reducible refine (name_Compare.calls k a1 a0 t164 _ A13.out).mono ?_); rintro e w' ⟨rfl, ⟨nd, rfl⟩⟩))
                    go_meet
                    case rel => exact ⟨_, (decide (t163 ≥ 0)), (by first | rfl | (simp; done) | (simp [*]; done)), H', ⟨by first | omega | exact Nat.le_refl _⟩, ⟨by repeat (first | (with_reducible first | exact HB.out | apply below_alloc | apply pw_below_drewN | apply below_drew1) | exact HB.out)⟩⟩
                  · rw [if_neg c22] at H
                    have c22b0 : decide (t162 ≤ 0) = false := decide_eq_false c22
                    clear c22
                    have H' := Aside0.mk H
                    clear H
                    go_wp2_with (first | (go_at_call 11; (with_reducible refine (name_Compare.calls k a1 a0 t164 _ A13.out).mono ?_); rintro e w' ⟨rfl, ⟨nd, rfl⟩⟩))
                    go_meet
                    case rel => exact ⟨_, (false), (by first | rfl | (simp; done) | (simp [*]; done)), H', ⟨by first | omega | exact Nat.le_refl _⟩, ⟨by repeat (first | (with_reducible first | exact HB.out | apply below_alloc | apply pw_below_drewN | apply below_drew1) | exact HB.out)⟩⟩
                · rw [if_neg c21] at H
                  have c21b0 : decide (t161 < 0) = false := decide_eq_false c21
                  clear c21
                  have H' := Aside0.mk H
                  clear H
                  go_wp2_with (first | (go_at_call 11; (with_reducible refine (name_Compare.calls k a1 a0 t164 _ A13.out).mono ?_); rintro e w' ⟨rfl, ⟨nd, rfl⟩⟩))
                  go_meet
                  case rel => exact ⟨_, (false), (by first | rfl | (simp; done) | (simp [*]; done)), H', ⟨by first | omega | exact Nat.le_refl _⟩, ⟨by repeat (first | (with_reducible first | exact HB.out | apply below_alloc | apply pw_below_drewN | apply below_drew1) | exact HB.out)⟩⟩
          · rw [if_neg c14] at H
            have c14b0 : (t164 == (wrap64 (-t161))) = false := beq_eq_false_iff_ne.mpr c14
            have c14b1 : (t164 != (wrap64 (-t161))) = true := bne_iff_ne.mpr c14
            have H' := Aside0.mk H
            clear H
            go_wp2_with (first | (go_at_call 11; (with_reducible refine (name_Compare.calls k a1 a0 t164 _ A13.out).mono ?_); rintro e w' ⟨rfl, ⟨nd, rfl⟩⟩))
            go_meet
            case rel => exact ⟨_, (true), (by first | rfl | (simp; done) | (simp [*]; done)), H', ⟨by first | omega | exact Nat.le_refl _⟩, ⟨by repeat (first | (with_reducible first | exact HB.out | apply below_alloc | apply pw_below_drewN | apply below_drew1) | exact HB.out)⟩⟩
    case rest =>
      clear HC9
      try clear c1
      try clear c2
      try clear p2
      try clear c4
      try clear c5
      try clear p6
      try clear c10
      try clear c11
      try clear c11b0
      try clear c12
      try clear c12b0
      try clear c14
      try clear c14b0
      try clear c14b1
      try clear c15
      try clear c15b0
      try clear c15b1
      try clear c15b2
      try clear c16
      try clear c16b0
      try clear c17
      try clear c17b0
      try clear c18
      try clear c18b0
      try clear c19
      try clear c19b0
      try clear c20
      try clear c20b0
      try clear c21
      try clear c21b0
      try clear c22
      try clear c22b0
      obtain ⟨kq, x68_8, rfl, HA, HJ8, HB⟩ := hcut
      cases kq with
      | zero => exact absurd HA.out (by simp [tabularylaw08_NameOrder.j0])
      | succ kj8 =>
        have H := HA.out
        clear HA
        simp only [tabularylaw08_NameOrder.j0] at H
        by_cases c23 : x68_8 = true
        · subst c23
          have H1 : (some false) = some r := by rw [if_pos rfl] at H; exact H
          clear H
          have H := H1
          clear H1
          obtain rfl := Option.some.inj H
          go_wp2
          go_ret
          exact ⟨by first | rfl | (simp [errW_none, errW_some] <;> rfl) | (simp [*, errW_none, errW_some] <;> rfl), by repeat (first | (with_reducible first | exact HB.out | apply below_alloc | apply pw_below_drewN | apply below_drew1) | exact HB.out)⟩
        · replace c23 := Bool.eq_false_iff.mpr c23
          subst c23
          have H1 : (if a0.toList = ([] : List UInt8) then (tabularylaw08_NameOrder.j1 kj8 a0 a1 a2 t161 t162 false) else ((name_Beneath.f a0 a1).bind fun t165 => (if t165 = true then (tabularylaw08_NameOrder.j1 kj8 a0 a1 a2 t161 t162 (t161 != (-1))) else (tabularylaw08_NameOrder.j1 kj8 a0 a1 a2 t161 t162 false)))) = some r := by rw [if_neg (show ¬ (false = true) by decide)] at H; exact H
          clear H
          have H := H1
          clear H1
          have HC24 := Aside0.mk H
          clear H
          go_upto_region 8 with (fail)
          go_cut [79] (fun v79 wc => ∃ (kq : Nat) (x79_23 : Bool), v79 = .bool x79_23 ∧ Aside0 (tabularylaw08_NameOrder.j1 kq a0 a1 a2 t161 t162 x79_23 = some r) ∧ Aside0 (kq ≤ kj8) ∧ Aside0 (Below w.heap.size w wc))
          case first =>
            have H := HC24.out
            clear HC24
            by_cases c25 : a0.toList = ([] : List UInt8)
            · rw [if_pos c25] at H
              have c25b0 : (a0.toList == ([] : List UInt8)) = true := beq_iff_eq.mpr c25
              have c25b1 : (a0.toList != ([] : List UInt8)) = false := bne_eq_false_iff_eq.mpr c25
              clear c25
              (first | rw [c25b0] | (simp only [i64_w, i32_w]; rw [c25b0]) | skip)
              have H' := Aside0.mk H
              clear H
              go_wp2
              go_meet
              case rel => exact ⟨_, (false), (by first | rfl | (simp; done) | (simp [*]; done)), H', ⟨by have := HJ8.out; first | omega | exact Nat.le_refl _⟩, ⟨by repeat (first | (with_reducible first | exact HB.out | apply below_alloc | apply pw_below_drewN | apply below_drew1) | exact HB.out)⟩⟩
            · rw [if_neg c25] at H
              have c25b0 : (a0.toList == ([] : List UInt8)) = false := beq_eq_false_iff_ne.mpr c25
              have c25b1 : (a0.toList != ([] : List UInt8)) = true := bne_iff_ne.mpr c25
              (first | rw [c25b0] | (simp only [i64_w, i32_w]; rw [c25b0]) | skip)
              replace H := Option.bind_eq_some_iff.mp H
              obtain ⟨t165, A260, H⟩ := H
              replace H : (if t165 = true then (tabularylaw08_NameOrder.j1 kj8 a0 a1 a2 t161 t162 (t161 != (-1))) else (tabularylaw08_NameOrder.j1 kj8 a0 a1 a2 t161 t162 false)) = some r := H
              have A26 := Aside0.mk A260
              clear A260
              by_cases c27 : t165 = true
              · subst c27
                have H1 : (tabularylaw08_NameOrder.j1 kj8 a0 a1 a2 t161 t162 (t161 != (-1))) = some r := by rw [if_pos rfl] at H; exact H
                clear H
                have H := H1
                clear H1
                have H' := Aside0.mk H
                clear H
                go_wp2_with (first | (go_at_call 12; (with_reducible refine (name_Beneath.calls a0 a1 true _ A26.out).mono ?_); rintro e w28 ⟨rfl, hb⟩; have n0_ := Aside0.mk (below_step (by repeat (first | (with_reducible first | exact HB.out | apply below_alloc | apply pw_below_drewN | apply below_drew1) | exact HB.out)) hb); clear HB; have HB := n0_; clear n0_; (try clear hb); (try clear hb2); (try clear hk); (try clear hi)))
                go_meet
                case rel => exact ⟨_, ((t161 != (-1))), (by first | rfl | (simp; done) | (simp [*]; done)), H', ⟨by have := HJ8.out; first | omega | exact Nat.le_refl _⟩, ⟨by repeat (first | (with_reducible first | exact HB.out | apply below_alloc | apply pw_below_drewN | apply below_drew1) | exact HB.out)⟩⟩
              · replace c27 := Bool.eq_false_iff.mpr c27
                subst c27
                have H1 : (tabularylaw08_NameOrder.j1 kj8 a0 a1 a2 t161 t162 false) = some r := by rw [if_neg (show ¬ (false = true) by decide)] at H; exact H
                clear H
                have H := H1
                clear H1
                have H' := Aside0.mk H
                clear H
                go_wp2_with (first | (go_at_call 12; (with_reducible refine (name_Beneath.calls a0 a1 false _ A26.out).mono ?_); rintro e w29 ⟨rfl, hb⟩; have n0_ := Aside0.mk (below_step (by repeat (first | (with_reducible first | exact HB.out | apply below_alloc | apply pw_below_drewN | apply below_drew1) | exact HB.out)) hb); clear HB; have HB := n0_; clear n0_; (try clear hb); (try clear hb2); (try clear hk); (try clear hi)))
                go_meet
                case rel => exact ⟨_, (false), (by first | rfl | (simp; done) | (simp [*]; done)), H', ⟨by have := HJ8.out; first | omega | exact Nat.le_refl _⟩, ⟨by repeat (first | (with_reducible first | exact HB.out | apply below_alloc | apply pw_below_drewN | apply below_drew1) | exact HB.out)⟩⟩
          case rest =>
            clear HC24
            try clear c1
            try clear c2
            try clear p2
            try clear c4
            try clear c5
            try clear p6
            try clear c10
            try clear c11
            try clear c11b0
            try clear c12
            try clear c12b0
            try clear c14
            try clear c14b0
            try clear c14b1
            try clear c15
            try clear c15b0
            try clear c15b1
            try clear c15b2
            try clear c16
            try clear c16b0
            try clear c17
            try clear c17b0
            try clear c18
            try clear c18b0
            try clear c19
            try clear c19b0
            try clear c20
            try clear c20b0
            try clear c21
            try clear c21b0
            try clear c22
            try clear c22b0
            try clear c23
            try clear c25
            try clear c25b0
            try clear c25b1
            try clear c27
            try clear p2
            try clear p6
            obtain ⟨kq, x79_23, rfl, HA, HJ23, HB⟩ := hcut
            cases kq with
            | zero => exact absurd HA.out (by simp [tabularylaw08_NameOrder.j1])
            | succ kj23 =>
              have H := HA.out
              clear HA
              simp only [tabularylaw08_NameOrder.j1] at H
              by_cases c30 : x79_23 = true
              · subst c30
                have H1 : (some false) = some r := by rw [if_pos rfl] at H; exact H
                clear H
                have H := H1
                clear H1
                obtain rfl := Option.some.inj H
                go_wp2
                go_ret
                exact ⟨by first | rfl | (simp [errW_none, errW_some] <;> rfl) | (simp [*, errW_none, errW_some] <;> rfl), by repeat (first | (with_reducible first | exact HB.out | apply below_alloc | apply pw_below_drewN | apply below_drew1) | exact HB.out)⟩
              · replace c30 := Bool.eq_false_iff.mpr c30
                subst c30
                have H1 : ((name_Check.f a1).bind fun bt166 => (if a0.toList = ([] : List UInt8) then (some true) else ((name_Beneath.f a0 a2).bind fun t168 => (if t168 = true then (if bt166.2 = 0 then (if t161 < 0 then (if t162 < 0 then ((name_Beneath.f a0 a1).bind fun t169 => (some t169)) else (some true)) else (some true)) else (some true)) else (some true))))) = some r := by rw [if_neg (show ¬ (false = true) by decide)] at H; exact H
                clear H
                have H := H1
                clear H1
                replace H := Option.bind_eq_some_iff.mp H
                obtain ⟨⟨t166, t167⟩, A310, H⟩ := H
                replace H : (if a0.toList = ([] : List UInt8) then (some true) else ((name_Beneath.f a0 a2).bind fun t168 => (if t168 = true then (if t167 = 0 then (if t161 < 0 then (if t162 < 0 then ((name_Beneath.f a0 a1).bind fun t169 => (some t169)) else (some true)) else (some true)) else (some true)) else (some true)))) = some r := H
                have A31 := Aside0.mk A310
                clear A310
                by_cases c32 : a0.toList = ([] : List UInt8)
                · rw [if_pos c32] at H
                  have c32b0 : (a0.toList == ([] : List UInt8)) = true := beq_iff_eq.mpr c32
                  have c32b1 : (a0.toList != ([] : List UInt8)) = false := bne_eq_false_iff_eq.mpr c32
                  clear c32
                  obtain rfl := Option.some.inj H
                  go_wp2_with (first | ((with_reducible refine gate_callee (f := 13) rfl ?_); refine goesL_ (some 82) rfl rfl Tryd.func13 (by kernel_rfl) rfl #[.string a1] rfl (by (try simp only [List.map_toArray, List.map_cons, List.map_nil]); first | done | rfl | (simp only [List.length_drop, List.length_take]; rfl)) ?_; (with_reducible refine (name_Check.calls a1 t166 t167 _ A31.out).mono ?_); rintro e w33 ⟨rfl, hb⟩; refine ⟨_, rfl, ?_⟩; have n0_ := Aside0.mk (below_step (by repeat (first | (with_reducible first | exact HB.out | apply below_alloc | apply pw_below_drewN | apply below_drew1) | exact HB.out)) hb); clear HB; have HB := n0_; clear n0_; (try clear hb); (try clear hb2); (try clear hk); (try clear hi)))
                  go_ret
                  exact ⟨by first | rfl | (simp [errW_none, errW_some] <;> rfl) | (simp [*, errW_none, errW_some] <;> rfl), by repeat (first | (with_reducible first | exact HB.out | apply below_alloc | apply pw_below_drewN | apply below_drew1) | exact HB.out)⟩
                · rw [if_neg c32] at H
                  have c32b0 : (a0.toList == ([] : List UInt8)) = false := beq_eq_false_iff_ne.mpr c32
                  have c32b1 : (a0.toList != ([] : List UInt8)) = true := bne_iff_ne.mpr c32
                  replace H := Option.bind_eq_some_iff.mp H
                  obtain ⟨t168, A340, H⟩ := H
                  replace H : (if t168 = true then (if t167 = 0 then (if t161 < 0 then (if t162 < 0 then ((name_Beneath.f a0 a1).bind fun t169 => (some t169)) else (some true)) else (some true)) else (some true)) else (some true)) = some r := H
                  have A34 := Aside0.mk A340
                  clear A340
                  by_cases c35 : t168 = true
                  · subst c35
                    have H1 : (if t167 = 0 then (if t161 < 0 then (if t162 < 0 then ((name_Beneath.f a0 a1).bind fun t169 => (some t169)) else (some true)) else (some true)) else (some true)) = some r := by rw [if_pos rfl] at H; exact H
                    clear H
                    have H := H1
                    clear H1
                    by_cases c36 : t167 = 0
                    · rw [if_pos c36] at H
                      have c36b0 : (t167 == 0) = true := beq_iff_eq.mpr c36
                      have c36b1 : (t167 != 0) = false := bne_eq_false_iff_eq.mpr c36
                      clear c36
                      by_cases c37 : t161 < 0
                      · rw [if_pos c37] at H
                        have c37b0 : decide (t161 < 0) = true := decide_eq_true c37
                        clear c37
                        by_cases c38 : t162 < 0
                        · rw [if_pos c38] at H
                          have c38b0 : decide (t162 < 0) = true := decide_eq_true c38
                          clear c38
                          replace H := Option.bind_eq_some_iff.mp H
                          obtain ⟨t169, A390, H⟩ := H
                          replace H : (some t169) = some r := H
                          have A39 := Aside0.mk A390
                          clear A390
                          obtain rfl := Option.some.inj H
                          go_wp2_with (first | ((with_reducible refine gate_callee (f := 13) rfl ?_); refine goesL_ (some 82) rfl rfl Tryd.func13 (by kernel_rfl) rfl #[.string a1] rfl (by (try simp only [List.map_toArray, List.map_cons, List.map_nil]); first | done | rfl | (simp only [List.length_drop, List.length_take]; rfl)) ?_; (with_reducible refine (name_Check.calls a1 t166 t167 _ A31.out).mono ?_); rintro e w40 ⟨rfl, hb⟩; refine ⟨_, rfl, ?_⟩; have n0_ := Aside0.mk (below_step (by repeat (first | (with_reducible first | exact HB.out | apply below_alloc | apply pw_below_drewN | apply below_drew1) | exact HB.out)) hb); clear HB; have HB := n0_; clear n0_; (try clear hb); (try clear hb2); (try clear hk); (try clear hi)) | (go_at_call 12; (with_reducible refine (name_Beneath.calls a0 a2 true _ A34.out).mono ?_); rintro e w41 ⟨rfl, hb⟩; have n0_ := Aside0.mk (below_step (by repeat (first | (with_reducible first | exact HB.out | apply below_alloc | apply pw_below_drewN | apply below_drew1) | exact HB.out)) hb); clear HB; have HB := n0_; clear n0_; (try clear hb); (try clear hb2); (try clear hk); (try clear hi)) | ((with_reducible refine gate_callee (f := 12) rfl ?_); refine goesL_ (some 106) rfl rfl Tryd.func12 (by kernel_rfl) rfl #[.string a0, .string a1] rfl (by (try simp only [List.map_toArray, List.map_cons, List.map_nil]); first | done | rfl | (simp only [List.length_drop, List.length_take]; rfl)) ?_; (with_reducible refine (name_Beneath.calls a0 a1 t169 _ A39.out).mono ?_); rintro e w42 ⟨rfl, hb⟩; refine ⟨_, rfl, ?_⟩; have n0_ := Aside0.mk (below_step (by repeat (first | (with_reducible first | exact HB.out | apply below_alloc | apply pw_below_drewN | apply below_drew1) | exact HB.out)) hb); clear HB; have HB := n0_; clear n0_; (try clear hb); (try clear hb2); (try clear hk); (try clear hi)))
                          go_ret
                          exact ⟨by first | rfl | (simp [errW_none, errW_some] <;> rfl) | (simp [*, errW_none, errW_some] <;> rfl), by repeat (first | (with_reducible first | exact HB.out | apply below_alloc | apply pw_below_drewN | apply below_drew1) | exact HB.out)⟩
                        · rw [if_neg c38] at H
                          have c38b0 : decide (t162 < 0) = false := decide_eq_false c38
                          clear c38
                          obtain rfl := Option.some.inj H
                          go_wp2_with (first | ((with_reducible refine gate_callee (f := 13) rfl ?_); refine goesL_ (some 82) rfl rfl Tryd.func13 (by kernel_rfl) rfl #[.string a1] rfl (by (try simp only [List.map_toArray, List.map_cons, List.map_nil]); first | done | rfl | (simp only [List.length_drop, List.length_take]; rfl)) ?_; (with_reducible refine (name_Check.calls a1 t166 t167 _ A31.out).mono ?_); rintro e w43 ⟨rfl, hb⟩; refine ⟨_, rfl, ?_⟩; have n0_ := Aside0.mk (below_step (by repeat (first | (with_reducible first | exact HB.out | apply below_alloc | apply pw_below_drewN | apply below_drew1) | exact HB.out)) hb); clear HB; have HB := n0_; clear n0_; (try clear hb); (try clear hb2); (try clear hk); (try clear hi)) | (go_at_call 12; (with_reducible refine (name_Beneath.calls a0 a2 true _ A34.out).mono ?_); rintro e w44 ⟨rfl, hb⟩; have n0_ := Aside0.mk (below_step (by repeat (first | (with_reducible first | exact HB.out | apply below_alloc | apply pw_below_drewN | apply below_drew1) | exact HB.out)) hb); clear HB; have HB := n0_; clear n0_; (try clear hb); (try clear hb2); (try clear hk); (try clear hi)))
                          go_ret
                          exact ⟨by first | rfl | (simp [errW_none, errW_some] <;> rfl) | (simp [*, errW_none, errW_some] <;> rfl), by repeat (first | (with_reducible first | exact HB.out | apply below_alloc | apply pw_below_drewN | apply below_drew1) | exact HB.out)⟩
                      · rw [if_neg c37] at H
                        have c37b0 : decide (t161 < 0) = false := decide_eq_false c37
                        clear c37
                        obtain rfl := Option.some.inj H
                        go_wp2_with (first | ((with_reducible refine gate_callee (f := 13) rfl ?_); refine goesL_ (some 82) rfl rfl Tryd.func13 (by kernel_rfl) rfl #[.string a1] rfl (by (try simp only [List.map_toArray, List.map_cons, List.map_nil]); first | done | rfl | (simp only [List.length_drop, List.length_take]; rfl)) ?_; (with_reducible refine (name_Check.calls a1 t166 t167 _ A31.out).mono ?_); rintro e w45 ⟨rfl, hb⟩; refine ⟨_, rfl, ?_⟩; have n0_ := Aside0.mk (below_step (by repeat (first | (with_reducible first | exact HB.out | apply below_alloc | apply pw_below_drewN | apply below_drew1) | exact HB.out)) hb); clear HB; have HB := n0_; clear n0_; (try clear hb); (try clear hb2); (try clear hk); (try clear hi)) | (go_at_call 12; (with_reducible refine (name_Beneath.calls a0 a2 true _ A34.out).mono ?_); rintro e w46 ⟨rfl, hb⟩; have n0_ := Aside0.mk (below_step (by repeat (first | (with_reducible first | exact HB.out | apply below_alloc | apply pw_below_drewN | apply below_drew1) | exact HB.out)) hb); clear HB; have HB := n0_; clear n0_; (try clear hb); (try clear hb2); (try clear hk); (try clear hi)))
                        go_ret
                        exact ⟨by first | rfl | (simp [errW_none, errW_some] <;> rfl) | (simp [*, errW_none, errW_some] <;> rfl), by repeat (first | (with_reducible first | exact HB.out | apply below_alloc | apply pw_below_drewN | apply below_drew1) | exact HB.out)⟩
                    · rw [if_neg c36] at H
                      have c36b0 : (t167 == 0) = false := beq_eq_false_iff_ne.mpr c36
                      have c36b1 : (t167 != 0) = true := bne_iff_ne.mpr c36
                      obtain rfl := Option.some.inj H
                      go_wp2_with (first | ((with_reducible refine gate_callee (f := 13) rfl ?_); refine goesL_ (some 82) rfl rfl Tryd.func13 (by kernel_rfl) rfl #[.string a1] rfl (by (try simp only [List.map_toArray, List.map_cons, List.map_nil]); first | done | rfl | (simp only [List.length_drop, List.length_take]; rfl)) ?_; (with_reducible refine (name_Check.calls a1 t166 t167 _ A31.out).mono ?_); rintro e w47 ⟨rfl, hb⟩; refine ⟨_, rfl, ?_⟩; have n0_ := Aside0.mk (below_step (by repeat (first | (with_reducible first | exact HB.out | apply below_alloc | apply pw_below_drewN | apply below_drew1) | exact HB.out)) hb); clear HB; have HB := n0_; clear n0_; (try clear hb); (try clear hb2); (try clear hk); (try clear hi)) | (go_at_call 12; (with_reducible refine (name_Beneath.calls a0 a2 true _ A34.out).mono ?_); rintro e w48 ⟨rfl, hb⟩; have n0_ := Aside0.mk (below_step (by repeat (first | (with_reducible first | exact HB.out | apply below_alloc | apply pw_below_drewN | apply below_drew1) | exact HB.out)) hb); clear HB; have HB := n0_; clear n0_; (try clear hb); (try clear hb2); (try clear hk); (try clear hi)))
                      go_ret
                      exact ⟨by first | rfl | (simp [errW_none, errW_some] <;> rfl) | (simp [*, errW_none, errW_some] <;> rfl), by repeat (first | (with_reducible first | exact HB.out | apply below_alloc | apply pw_below_drewN | apply below_drew1) | exact HB.out)⟩
                  · replace c35 := Bool.eq_false_iff.mpr c35
                    subst c35
                    have H1 : (some true) = some r := by rw [if_neg (show ¬ (false = true) by decide)] at H; exact H
                    clear H
                    have H := H1
                    clear H1
                    obtain rfl := Option.some.inj H
                    go_wp2_with (first | ((with_reducible refine gate_callee (f := 13) rfl ?_); refine goesL_ (some 82) rfl rfl Tryd.func13 (by kernel_rfl) rfl #[.string a1] rfl (by (try simp only [List.map_toArray, List.map_cons, List.map_nil]); first | done | rfl | (simp only [List.length_drop, List.length_take]; rfl)) ?_; (with_reducible refine (name_Check.calls a1 t166 t167 _ A31.out).mono ?_); rintro e w49 ⟨rfl, hb⟩; refine ⟨_, rfl, ?_⟩; have n0_ := Aside0.mk (below_step (by repeat (first | (with_reducible first | exact HB.out | apply below_alloc | apply pw_below_drewN | apply below_drew1) | exact HB.out)) hb); clear HB; have HB := n0_; clear n0_; (try clear hb); (try clear hb2); (try clear hk); (try clear hi)) | (go_at_call 12; (with_reducible refine (name_Beneath.calls a0 a2 false _ A34.out).mono ?_); rintro e w50 ⟨rfl, hb⟩; have n0_ := Aside0.mk (below_step (by repeat (first | (with_reducible first | exact HB.out | apply below_alloc | apply pw_below_drewN | apply below_drew1) | exact HB.out)) hb); clear HB; have HB := n0_; clear n0_; (try clear hb); (try clear hb2); (try clear hk); (try clear hi)))
                    go_ret
                    exact ⟨by first | rfl | (simp [errW_none, errW_some] <;> rfl) | (simp [*, errW_none, errW_some] <;> rfl), by repeat (first | (with_reducible first | exact HB.out | apply below_alloc | apply pw_below_drewN | apply below_drew1) | exact HB.out)⟩
  · replace c5 := Bool.eq_false_iff.mpr c5
    subst c5
    have H1 : (some false) = some r := by rw [if_neg (show ¬ (false = true) by decide)] at H; exact H
    clear H
    have H := H1
    clear H1
    obtain rfl := Option.some.inj H
    go_enter Tryd.func4, Tryd.ntmps4
    go_wp2_with (first | ((with_reducible refine gate_callee (f := 10) rfl ?_); refine goesL_ (some 12) rfl rfl Tryd.func10 (by kernel_rfl) rfl #[] rfl (by (try simp only [List.map_toArray, List.map_cons, List.map_nil]); first | done | rfl | (simp only [List.length_drop, List.length_take]; rfl)) ?_; (with_reducible refine (tabularylaw08_awake.calls k  false _ A4.out).mono ?_); rintro e w51 ⟨rfl, hb⟩; refine ⟨_, rfl, ?_⟩; have n0_ := Aside0.mk (below_step (by repeat (first | (with_reducible first | exact HB.out | apply below_alloc | apply pw_below_drewN | apply below_drew1) | exact HB.out)) hb); clear HB; have HB := n0_; clear n0_; (try clear hb); (try clear hb2); (try clear hk); (try clear hi)))
    go_ret
    exact ⟨by first | rfl | (simp [errW_none, errW_some] <;> rfl) | (simp [*, errW_none, errW_some] <;> rfl), by repeat (first | (with_reducible first | exact HB.out | apply below_alloc | apply pw_below_drewN | apply below_drew1) | exact HB.out)⟩

/-! ### tabularylaw08_clean: function 14 -/
mutual
def tabularylaw08_clean.l0 : Nat → ByteArray → Int → Int → Option (Bool)
  | 0, _, _, _ => none
  | k + 1, x0, x3, x4 => if x4 ≤ (x0.size : Int) then (if x4 < (x0.size : Int) then (if 0 ≤ x4 then (tabularylaw08_clean.j1 k x0 x3 x4 ((bt x0 x4) == 0)) else (none)) else (tabularylaw08_clean.j1 k x0 x3 x4 false)) else (some true)
def tabularylaw08_clean.j1 : Nat → ByteArray → Int → Int → Bool → Option (Bool)
  | 0, _, _, _, _ => none
  | k + 1, x0, x3, x4, x21 => if x21 = true then (some false) else (if x4 = (x0.size : Int) then (tabularylaw08_clean.j2 k x0 x3 x4 true) else (if 0 ≤ x4 then (if x4 < (x0.size : Int) then (tabularylaw08_clean.j2 k x0 x3 x4 ((bt x0 x4) == 47)) else (none)) else (none)))
def tabularylaw08_clean.j2 : Nat → ByteArray → Int → Int → Bool → Option (Bool)
  | 0, _, _, _, _ => none
  | k + 1, x0, x3, x4, x31 => if x31 = true then (if 0 ≤ x3 then (if x3 ≤ x4 then (if x4 ≤ (x0.size : Int) then (if (x0.extract (x3 : Int).toNat (x4 : Int).toNat).toList = ([] : List UInt8) then (some false) else (if (x0.extract (x3 : Int).toNat (x4 : Int).toNat).toList = ([46] : List UInt8) then (some false) else (if (x0.extract (x3 : Int).toNat (x4 : Int).toNat).toList = ([46, 46] : List UInt8) then (some false) else (tabularylaw08_clean.l0 k x0 (wrap64 (x4 + 1)) (wrap64 (x4 + 1)))))) else (none)) else (none)) else (none)) else (tabularylaw08_clean.l0 k x0 x3 (wrap64 (x4 + 1)))
end
def tabularylaw08_clean.f (k : Nat) (a0 : ByteArray) : Option (Bool) := tabularylaw08_clean.l0 k a0 0 0
theorem tabularylaw08_clean.mono_l : ∀ k, (∀ y0 y1 y2, LeO (tabularylaw08_clean.l0 k y0 y1 y2) (tabularylaw08_clean.l0 (k + 1) y0 y1 y2)) ∧ (∀ y0 y1 y2 y3, LeO (tabularylaw08_clean.j1 k y0 y1 y2 y3) (tabularylaw08_clean.j1 (k + 1) y0 y1 y2 y3)) ∧ (∀ y0 y1 y2 y3, LeO (tabularylaw08_clean.j2 k y0 y1 y2 y3) (tabularylaw08_clean.j2 (k + 1) y0 y1 y2 y3))
  | 0 => ⟨fun _ _ _ r h => by simp [tabularylaw08_clean.l0] at h, fun _ _ _ _ r h => by simp [tabularylaw08_clean.j1] at h, fun _ _ _ _ r h => by simp [tabularylaw08_clean.j2] at h⟩
  | k + 1 => by
    obtain ⟨ih0, ih1, ih2⟩ := tabularylaw08_clean.mono_l k
    refine ⟨?_, ?_, ?_⟩
    · intro y0 y1 y2
      unfold tabularylaw08_clean.l0
      repeat' first
      | (with_reducible exact ih0 _ _ _)
      | (with_reducible exact ih1 _ _ _ _)
      | (with_reducible exact ih2 _ _ _ _)
      | (with_reducible exact LeO.refl _)
      | (with_reducible exact LeO.none _)
      | (with_reducible refine LeO.ite ?_ ?_)
      | (with_reducible refine LeO.bind ?_ (fun _ => ?_))
      | exact ih0 _ _ _
      | exact ih1 _ _ _ _
      | exact ih2 _ _ _ _
      | exact LeO.none _
      | refine LeO.ite ?_ ?_
      | refine LeO.bind ?_ (fun _ => ?_)
    · intro y0 y1 y2 y3
      unfold tabularylaw08_clean.j1
      repeat' first
      | (with_reducible exact ih0 _ _ _)
      | (with_reducible exact ih1 _ _ _ _)
      | (with_reducible exact ih2 _ _ _ _)
      | (with_reducible exact LeO.refl _)
      | (with_reducible exact LeO.none _)
      | (with_reducible refine LeO.ite ?_ ?_)
      | (with_reducible refine LeO.bind ?_ (fun _ => ?_))
      | exact ih0 _ _ _
      | exact ih1 _ _ _ _
      | exact ih2 _ _ _ _
      | exact LeO.none _
      | refine LeO.ite ?_ ?_
      | refine LeO.bind ?_ (fun _ => ?_)
    · intro y0 y1 y2 y3
      unfold tabularylaw08_clean.j2
      repeat' first
      | (with_reducible exact ih0 _ _ _)
      | (with_reducible exact ih1 _ _ _ _)
      | (with_reducible exact ih2 _ _ _ _)
      | (with_reducible exact LeO.refl _)
      | (with_reducible exact LeO.none _)
      | (with_reducible refine LeO.ite ?_ ?_)
      | (with_reducible refine LeO.bind ?_ (fun _ => ?_))
      | exact ih0 _ _ _
      | exact ih1 _ _ _ _
      | exact ih2 _ _ _ _
      | exact LeO.none _
      | refine LeO.ite ?_ ?_
      | refine LeO.bind ?_ (fun _ => ?_)
theorem tabularylaw08_clean.mono : ∀ a0 k, LeO (tabularylaw08_clean.f k a0) (tabularylaw08_clean.f (k + 1) a0) := by
  intro a0 k
  obtain ⟨ih0, ih1, ih2⟩ := tabularylaw08_clean.mono_l k
  unfold tabularylaw08_clean.f
  repeat' first
      | (with_reducible exact ih0 _ _ _)
      | (with_reducible exact ih1 _ _ _ _)
      | (with_reducible exact ih2 _ _ _ _)
      | (with_reducible exact LeO.refl _)
      | (with_reducible exact LeO.none _)
      | (with_reducible refine LeO.ite ?_ ?_)
      | (with_reducible refine LeO.bind ?_ (fun _ => ?_))
      | exact ih0 _ _ _
      | exact ih1 _ _ _ _
      | exact ih2 _ _ _ _
      | exact LeO.none _
      | refine LeO.ite ?_ ?_
      | refine LeO.bind ?_ (fun _ => ?_)
set_option maxHeartbeats 8000000 in
set_option maxRecDepth 100000 in
theorem tabularylaw08_clean.calls (k : Nat) (a0 : ByteArray) (r : Bool) (w : World) (h : tabularylaw08_clean.f k a0 = some r) :
    Calls Tryd.prog 14 #[.string a0] w fun e w' => e = .returned (.bool r) ∧ Drawn0 w w' := by
  have H : (tabularylaw08_clean.l0 k a0 0 0) = some r := h
  clear h
  have H' := Aside0.mk H
  clear H
  go_enter Tryd.func14, Tryd.ntmps14
  go_wp2
  go_loopg [3, 4] k (fun kq v3 v4 w' => ∃ (x3_1 : Int) (x4_1 : Int), v3 = .int .i64 x3_1 ∧ v4 = .int .i64 x4_1 ∧ Aside0 (tabularylaw08_clean.l0 kq a0 x3_1 x4_1 = some r) ∧ Aside0 (kq ≤ k) ∧ Drawn0 w w')
  case atStart => exact ⟨(0), (0), (by first | rfl | (simp; done) | (simp [*]; done)), (by first | rfl | (simp; done) | (simp [*]; done)), H', ⟨Nat.le_refl _⟩, by repeat (first | exact Drawn0.refl _ | apply Drawn0.step)⟩
  case round =>
    clear H'
    try clear c1
    obtain ⟨x3_1, x4_1, rfl, rfl, HA, HK1, ⟨m1, rfl⟩⟩ := hrel
    cases gk with
    | zero => exact absurd HA.out (by simp [tabularylaw08_clean.l0])
    | succ k1 =>
      have H := HA.out
      clear HA
      simp only [tabularylaw08_clean.l0] at H
      by_cases c2 : x4_1 ≤ (a0.size : Int)
      · rw [if_pos c2] at H
        have c2b0 : decide (x4_1 ≤ (a0.size : Int)) = true := decide_eq_true c2
        clear c2
        have HC3 := Aside0.mk H
        clear H
        go_upto_region 5 with (fail)
        go_cut [21] (fun v21 wc => ∃ (kq : Nat) (x21_2 : Bool), v21 = .bool x21_2 ∧ Aside0 (tabularylaw08_clean.j1 kq a0 x3_1 x4_1 x21_2 = some r) ∧ Aside0 (kq ≤ k1) ∧ Drawn0 w wc)
        case first =>
          have H := HC3.out
          clear HC3
          by_cases c4 : x4_1 < (a0.size : Int)
          · rw [if_pos c4] at H
            have c4b0 : decide (x4_1 < (a0.size : Int)) = true := decide_eq_true c4
            clear c4
            (first | rw [c4b0] | (simp only [i64_w, i32_w]; rw [c4b0]) | skip)
            by_cases c5 : 0 ≤ x4_1
            · rw [if_pos c5] at H
              have c5b0 : decide (0 ≤ x4_1) = true := decide_eq_true c5
              clear c5
              have H' := Aside0.mk H
              clear H
              have p6 : 0 ≤ (x4_1 : Int) := of_decide_eq_true (by first | (with_reducible assumption) | assumption)
              have q6 : x4_1 < (a0.size : Int) := of_decide_eq_true (by first | (with_reducible assumption) | assumption)
              have hx6 := bt_at a0 x4_1
              replace p6 := eq_true p6
              replace q6 := eq_true q6
              go_wp2
              go_meet
              case rel => exact ⟨_, (((bt a0 x4_1) == 0)), (by first | rfl | (simp; done) | (simp [*]; done)), H', ⟨by have := HK1.out; first | omega | exact Nat.le_refl _⟩, by repeat (first | exact Drawn0.refl _ | apply Drawn0.step)⟩
            · rw [if_neg c5] at H
              exact absurd H (by simp)
          · rw [if_neg c4] at H
            have c4b0 : decide (x4_1 < (a0.size : Int)) = false := decide_eq_false c4
            clear c4
            (first | rw [c4b0] | (simp only [i64_w, i32_w]; rw [c4b0]) | skip)
            have H' := Aside0.mk H
            clear H
            go_wp2
            go_meet
            case rel => exact ⟨_, (false), (by first | rfl | (simp; done) | (simp [*]; done)), H', ⟨by have := HK1.out; first | omega | exact Nat.le_refl _⟩, by repeat (first | exact Drawn0.refl _ | apply Drawn0.step)⟩
        case rest =>
          clear HC3
          try clear c1
          try clear c2
          try clear c2b0
          try clear p2
          try clear c4
          try clear c4b0
          try clear c5
          try clear c5b0
          try clear p6
          try clear q6
          try clear hx6
          try clear p6
          try clear q6
          obtain ⟨kq, x21_2, rfl, HA, HJ2, ⟨mc2, rfl⟩⟩ := hcut
          cases kq with
          | zero => exact absurd HA.out (by simp [tabularylaw08_clean.j1])
          | succ kj2 =>
            have H := HA.out
            clear HA
            simp only [tabularylaw08_clean.j1] at H
            by_cases c7 : x21_2 = true
            · subst c7
              have H1 : (some false) = some r := by rw [if_pos rfl] at H; exact H
              clear H
              have H := H1
              clear H1
              obtain rfl := Option.some.inj H
              go_wp2
              go_ret
              exact ⟨by first | rfl | (simp; done) | (simp [*]; done), by repeat (first | exact Drawn0.refl _ | apply Drawn0.step)⟩
            · replace c7 := Bool.eq_false_iff.mpr c7
              subst c7
              have H1 : (if x4_1 = (a0.size : Int) then (tabularylaw08_clean.j2 kj2 a0 x3_1 x4_1 true) else (if 0 ≤ x4_1 then (if x4_1 < (a0.size : Int) then (tabularylaw08_clean.j2 kj2 a0 x3_1 x4_1 ((bt a0 x4_1) == 47)) else (none)) else (none))) = some r := by rw [if_neg (show ¬ (false = true) by decide)] at H; exact H
              clear H
              have H := H1
              clear H1
              have HC8 := Aside0.mk H
              clear H
              go_upto_region 7 with (fail)
              go_cut [31] (fun v31 wc => ∃ (kq : Nat) (x31_7 : Bool), v31 = .bool x31_7 ∧ Aside0 (tabularylaw08_clean.j2 kq a0 x3_1 x4_1 x31_7 = some r) ∧ Aside0 (kq ≤ kj2) ∧ Drawn0 w wc)
              case first =>
                have H := HC8.out
                clear HC8
                by_cases c9 : x4_1 = (a0.size : Int)
                · rw [if_pos c9] at H
                  have c9b0 : (x4_1 == (a0.size : Int)) = true := beq_iff_eq.mpr c9
                  have c9b1 : (x4_1 != (a0.size : Int)) = false := bne_eq_false_iff_eq.mpr c9
                  clear c9
                  (first | rw [c9b0] | (simp only [i64_w, i32_w]; rw [c9b0]) | skip)
                  have H' := Aside0.mk H
                  clear H
                  go_wp2
                  go_meet
                  case rel => exact ⟨_, (true), (by first | rfl | (simp; done) | (simp [*]; done)), H', ⟨by have := HK1.out; have := HJ2.out; first | omega | exact Nat.le_refl _⟩, by repeat (first | exact Drawn0.refl _ | apply Drawn0.step)⟩
                · rw [if_neg c9] at H
                  have c9b0 : (x4_1 == (a0.size : Int)) = false := beq_eq_false_iff_ne.mpr c9
                  have c9b1 : (x4_1 != (a0.size : Int)) = true := bne_iff_ne.mpr c9
                  (first | rw [c9b0] | (simp only [i64_w, i32_w]; rw [c9b0]) | skip)
                  by_cases c10 : 0 ≤ x4_1
                  · rw [if_pos c10] at H
                    have c10b0 : decide (0 ≤ x4_1) = true := decide_eq_true c10
                    clear c10
                    by_cases c11 : x4_1 < (a0.size : Int)
                    · rw [if_pos c11] at H
                      have c11b0 : decide (x4_1 < (a0.size : Int)) = true := decide_eq_true c11
                      clear c11
                      have H' := Aside0.mk H
                      clear H
                      have p12 : 0 ≤ (x4_1 : Int) := of_decide_eq_true (by first | (with_reducible assumption) | assumption)
                      have q12 : x4_1 < (a0.size : Int) := of_decide_eq_true (by first | (with_reducible assumption) | assumption)
                      have hx12 := bt_at a0 x4_1
                      replace p12 := eq_true p12
                      replace q12 := eq_true q12
                      go_wp2
                      go_meet
                      case rel => exact ⟨_, (((bt a0 x4_1) == 47)), (by first | rfl | (simp; done) | (simp [*]; done)), H', ⟨by have := HK1.out; have := HJ2.out; first | omega | exact Nat.le_refl _⟩, by repeat (first | exact Drawn0.refl _ | apply Drawn0.step)⟩
                    · rw [if_neg c11] at H
                      exact absurd H (by simp)
                  · rw [if_neg c10] at H
                    exact absurd H (by simp)
              case rest =>
                clear HC8
                try clear c1
                try clear p1
                try clear q1
                try clear hx1
                try clear c2
                try clear c2b0
                try clear p2
                try clear c4
                try clear c4b0
                try clear c5
                try clear c5b0
                try clear p6
                try clear q6
                try clear hx6
                try clear c7
                try clear c9
                try clear c9b0
                try clear c9b1
                try clear c10
                try clear c10b0
                try clear c11
                try clear c11b0
                try clear p12
                try clear q12
                try clear hx12
                try clear p12
                try clear p2
                try clear p6
                try clear q12
                try clear q6
                obtain ⟨kq, x31_7, rfl, HA, HJ7, ⟨mc7, rfl⟩⟩ := hcut
                cases kq with
                | zero => exact absurd HA.out (by simp [tabularylaw08_clean.j2])
                | succ kj7 =>
                  have H := HA.out
                  clear HA
                  simp only [tabularylaw08_clean.j2] at H
                  by_cases c13 : x31_7 = true
                  · subst c13
                    have H1 : (if 0 ≤ x3_1 then (if x3_1 ≤ x4_1 then (if x4_1 ≤ (a0.size : Int) then (if (a0.extract (x3_1 : Int).toNat (x4_1 : Int).toNat).toList = ([] : List UInt8) then (some false) else (if (a0.extract (x3_1 : Int).toNat (x4_1 : Int).toNat).toList = ([46] : List UInt8) then (some false) else (if (a0.extract (x3_1 : Int).toNat (x4_1 : Int).toNat).toList = ([46, 46] : List UInt8) then (some false) else (tabularylaw08_clean.l0 kj7 a0 (wrap64 (x4_1 + 1)) (wrap64 (x4_1 + 1)))))) else (none)) else (none)) else (none)) = some r := by rw [if_pos rfl] at H; exact H
                    clear H
                    have H := H1
                    clear H1
                    by_cases c14 : 0 ≤ x3_1
                    · rw [if_pos c14] at H
                      have c14b0 := eq_true c14
                      have c14b1 : decide (0 ≤ x3_1) = true := decide_eq_true c14
                      clear c14
                      by_cases c15 : x3_1 ≤ x4_1
                      · rw [if_pos c15] at H
                        have c15b0 := eq_true c15
                        have c15b1 : decide (x3_1 ≤ x4_1) = true := decide_eq_true c15
                        clear c15
                        by_cases c16 : x4_1 ≤ (a0.size : Int)
                        · rw [if_pos c16] at H
                          have c16b0 := eq_true c16
                          have c16b1 : decide (x4_1 ≤ (a0.size : Int)) = true := decide_eq_true c16
                          clear c16
                          by_cases c17 : (a0.extract (x3_1 : Int).toNat (x4_1 : Int).toNat).toList = ([] : List UInt8)
                          · rw [if_pos c17] at H
                            have c17b0 : ((a0.extract (x3_1 : Int).toNat (x4_1 : Int).toNat).toList == ([] : List UInt8)) = true := beq_iff_eq.mpr c17
                            have c17b1 : ((a0.extract (x3_1 : Int).toNat (x4_1 : Int).toNat).toList != ([] : List UInt8)) = false := bne_eq_false_iff_eq.mpr c17
                            clear c17
                            obtain rfl := Option.some.inj H
                            go_wp2
                            go_ret
                            exact ⟨by first | rfl | (simp; done) | (simp [*]; done), by repeat (first | exact Drawn0.refl _ | apply Drawn0.step)⟩
                          · rw [if_neg c17] at H
                            have c17b0 : ((a0.extract (x3_1 : Int).toNat (x4_1 : Int).toNat).toList == ([] : List UInt8)) = false := beq_eq_false_iff_ne.mpr c17
                            have c17b1 : ((a0.extract (x3_1 : Int).toNat (x4_1 : Int).toNat).toList != ([] : List UInt8)) = true := bne_iff_ne.mpr c17
                            by_cases c18 : (a0.extract (x3_1 : Int).toNat (x4_1 : Int).toNat).toList = ([46] : List UInt8)
                            · rw [if_pos c18] at H
                              have c18b0 : ((a0.extract (x3_1 : Int).toNat (x4_1 : Int).toNat).toList == ([46] : List UInt8)) = true := beq_iff_eq.mpr c18
                              have c18b1 : ((a0.extract (x3_1 : Int).toNat (x4_1 : Int).toNat).toList != ([46] : List UInt8)) = false := bne_eq_false_iff_eq.mpr c18
                              clear c18
                              obtain rfl := Option.some.inj H
                              go_wp2
                              go_ret
                              exact ⟨by first | rfl | (simp; done) | (simp [*]; done), by repeat (first | exact Drawn0.refl _ | apply Drawn0.step)⟩
                            · rw [if_neg c18] at H
                              have c18b0 : ((a0.extract (x3_1 : Int).toNat (x4_1 : Int).toNat).toList == ([46] : List UInt8)) = false := beq_eq_false_iff_ne.mpr c18
                              have c18b1 : ((a0.extract (x3_1 : Int).toNat (x4_1 : Int).toNat).toList != ([46] : List UInt8)) = true := bne_iff_ne.mpr c18
                              by_cases c19 : (a0.extract (x3_1 : Int).toNat (x4_1 : Int).toNat).toList = ([46, 46] : List UInt8)
                              · rw [if_pos c19] at H
                                have c19b0 : ((a0.extract (x3_1 : Int).toNat (x4_1 : Int).toNat).toList == ([46, 46] : List UInt8)) = true := beq_iff_eq.mpr c19
                                have c19b1 : ((a0.extract (x3_1 : Int).toNat (x4_1 : Int).toNat).toList != ([46, 46] : List UInt8)) = false := bne_eq_false_iff_eq.mpr c19
                                clear c19
                                obtain rfl := Option.some.inj H
                                go_wp2
                                go_ret
                                exact ⟨by first | rfl | (simp; done) | (simp [*]; done), by repeat (first | exact Drawn0.refl _ | apply Drawn0.step)⟩
                              · rw [if_neg c19] at H
                                have c19b0 : ((a0.extract (x3_1 : Int).toNat (x4_1 : Int).toNat).toList == ([46, 46] : List UInt8)) = false := beq_eq_false_iff_ne.mpr c19
                                have c19b1 : ((a0.extract (x3_1 : Int).toNat (x4_1 : Int).toNat).toList != ([46, 46] : List UInt8)) = true := bne_iff_ne.mpr c19
                                have H' := Aside0.mk H
                                clear H
                                go_wp2
                                go_roundg kj7
                                case measure => have := HK1.out; have := HJ2.out; have := HJ7.out; omega
                                case rel => exact ⟨(wrap64 (x4_1 + 1)), (wrap64 (x4_1 + 1)), (by first | rfl | (simp; done) | (simp [*]; done)), (by first | rfl | (simp; done) | (simp [*]; done)), H', ⟨by have := HK1.out; have := HJ2.out; have := HJ7.out; omega⟩, by repeat (first | exact Drawn0.refl _ | apply Drawn0.step)⟩
                        · rw [if_neg c16] at H
                          exact absurd H (by simp)
                      · rw [if_neg c15] at H
                        exact absurd H (by simp)
                    · rw [if_neg c14] at H
                      exact absurd H (by simp)
                  · replace c13 := Bool.eq_false_iff.mpr c13
                    subst c13
                    have H1 : (tabularylaw08_clean.l0 kj7 a0 x3_1 (wrap64 (x4_1 + 1))) = some r := by rw [if_neg (show ¬ (false = true) by decide)] at H; exact H
                    clear H
                    have H := H1
                    clear H1
                    have H' := Aside0.mk H
                    clear H
                    go_wp2
                    go_roundg kj7
                    case measure => have := HK1.out; have := HJ2.out; have := HJ7.out; omega
                    case rel => exact ⟨(x3_1), (wrap64 (x4_1 + 1)), (by first | rfl | (simp; done) | (simp [*]; done)), (by first | rfl | (simp; done) | (simp [*]; done)), H', ⟨by have := HK1.out; have := HJ2.out; have := HJ7.out; omega⟩, by repeat (first | exact Drawn0.refl _ | apply Drawn0.step)⟩
      · rw [if_neg c2] at H
        have c2b0 : decide (x4_1 ≤ (a0.size : Int)) = false := decide_eq_false c2
        clear c2
        obtain rfl := Option.some.inj H
        go_wp2
        go_ret
        exact ⟨by first | rfl | (simp; done) | (simp [*]; done), by repeat (first | exact Drawn0.refl _ | apply Drawn0.step)⟩

end Go.Proofs.YtnceocjgcdcpgaaDoor.X
