-- PRINTED by print.py (a twelfth state) out of the translation. Not trusted: Lean checks it.
import Derived.Test.YtnceocjgcdcpgaaDoorX0
import Derived.Test.YtnceocjgcdcpgaaDoorX3
import Derived.Test.YtnceocjgcdcpgaaDoorX5
namespace Go.Proofs.YtnceocjgcdcpgaaDoor.X
open Go.RowKit Go.Proofs.YtnceocjgcdcpgaaDoorW.PrintWords Go.Proofs.YtnceocjgcdcpgaaDoorW.PrintLast Go.Proofs.YtnceocjgcdcpgaaDoorW.PrintMore
attribute [local go_sem] max2_int min2_int max_two min_two max_three min_three max_four min_four   -- for this text's walks alone
set_option linter.unusedVariables false
set_option linter.unusedSimpArgs false

/-! ### tabularylaw08_NameCuts: function 6 -/
def tabularylaw08_NameCuts.j0 : Nat → ByteArray → Int → ByteArray → ByteArray → Int → Bool → Option (Bool)
  | 0, _, _, _, _, _, _ => none
  | k + 1, x0, x1, x7, x8, x9, x76 => if x76 = true then (some false) else (if x1 < 0 then (if x9 = 0 then (some true) else (if x7.toList = ([] : List UInt8) then (some (x8.toList == ([] : List UInt8))) else (some false))) else (if x1 ≥ (x0.size : Int) then (if x9 = 0 then (some true) else (if x7.toList = ([] : List UInt8) then (some (x8.toList == ([] : List UInt8))) else (some false))) else (if 0 ≤ x1 then (if x1 < (x0.size : Int) then (if (bt x0 x1) = 47 then (if x1 > 155 then (if x9 = 0 then (some true) else (if x7.toList = ([] : List UInt8) then (some (x8.toList == ([] : List UInt8))) else (some false))) else (if (wrap64 ((wrap64 ((x0.size : Int) - x1)) - 1)) > 100 then (if x9 = 0 then (some true) else (if x7.toList = ([] : List UInt8) then (some (x8.toList == ([] : List UInt8))) else (some false))) else (if (x0.size : Int) ≤ 100 then (if x9 = 0 then (some true) else (if x7.toList = ([] : List UInt8) then (some (x8.toList == ([] : List UInt8))) else (some false))) else (if x9 = 0 then (some (decide ((x7.size : Int) ≥ x1))) else (some false))))) else (if x9 = 0 then (some true) else (if x7.toList = ([] : List UInt8) then (some (x8.toList == ([] : List UInt8))) else (some false)))) else (none)) else (none))))
def tabularylaw08_NameCuts.f (k : Nat) (a0 : ByteArray) (a1 : Int) : Option (Bool) := (tabularylaw08_awake.f k).bind fun t188 => (if t188 = true then ((name_Check.f a0).bind fun bt189 => ((name_Split.f k a0).bind fun bt191 => (if bt189.2 = 0 then (if bt191.2.2 = 0 then (if bt191.1.toList = ([] : List UInt8) then (if bt191.2.1.toList = a0.toList then (if (a0.size : Int) > 100 then (tabularylaw08_NameCuts.j0 k a0 a1 bt191.1 bt191.2.1 bt191.2.2 true) else (if (bt191.1.size : Int) > 155 then (tabularylaw08_NameCuts.j0 k a0 a1 bt191.1 bt191.2.1 bt191.2.2 true) else (tabularylaw08_NameCuts.j0 k a0 a1 bt191.1 bt191.2.1 bt191.2.2 (decide ((bt191.2.1.size : Int) > 100))))) else (tabularylaw08_NameCuts.j0 k a0 a1 bt191.1 bt191.2.1 bt191.2.2 true)) else (if bt191.1.size + 1 ≤ 9223372036854775807 then (if (bt191.1 ++ (⟨#[47]⟩ : ByteArray)).size + bt191.2.1.size ≤ 9223372036854775807 then (if ((bt191.1 ++ (⟨#[47]⟩ : ByteArray)) ++ bt191.2.1).toList = a0.toList then (if (a0.size : Int) ≤ 100 then (tabularylaw08_NameCuts.j0 k a0 a1 bt191.1 bt191.2.1 bt191.2.2 true) else (if (bt191.1.size : Int) > 155 then (tabularylaw08_NameCuts.j0 k a0 a1 bt191.1 bt191.2.1 bt191.2.2 true) else (tabularylaw08_NameCuts.j0 k a0 a1 bt191.1 bt191.2.1 bt191.2.2 (decide ((bt191.2.1.size : Int) > 100))))) else (tabularylaw08_NameCuts.j0 k a0 a1 bt191.1 bt191.2.1 bt191.2.2 true)) else (none)) else (none))) else (if a1 < 0 then (if bt191.1.toList = ([] : List UInt8) then (some (bt191.2.1.toList == ([] : List UInt8))) else (some false)) else (if a1 ≥ (a0.size : Int) then (if bt191.1.toList = ([] : List UInt8) then (some (bt191.2.1.toList == ([] : List UInt8))) else (some false)) else (if 0 ≤ a1 then (if a1 < (a0.size : Int) then (if (bt a0 a1) = 47 then (if a1 > 155 then (if bt191.1.toList = ([] : List UInt8) then (some (bt191.2.1.toList == ([] : List UInt8))) else (some false)) else (if (wrap64 ((wrap64 ((a0.size : Int) - a1)) - 1)) > 100 then (if bt191.1.toList = ([] : List UInt8) then (some (bt191.2.1.toList == ([] : List UInt8))) else (some false)) else (if (a0.size : Int) ≤ 100 then (if bt191.1.toList = ([] : List UInt8) then (some (bt191.2.1.toList == ([] : List UInt8))) else (some false)) else (some false)))) else (if bt191.1.toList = ([] : List UInt8) then (some (bt191.2.1.toList == ([] : List UInt8))) else (some false))) else (none)) else (none))))) else (if bt191.2.2 = bt189.2 then (if bt191.1.toList = ([] : List UInt8) then (some (bt191.2.1.toList == ([] : List UInt8))) else (some false)) else (some false))))) else (some false))
theorem tabularylaw08_NameCuts.mono_l : ∀ k, (∀ y0 y1 y2 y3 y4 y5, LeO (tabularylaw08_NameCuts.j0 k y0 y1 y2 y3 y4 y5) (tabularylaw08_NameCuts.j0 (k + 1) y0 y1 y2 y3 y4 y5))
  | 0 => fun _ _ _ _ _ _ r h => by simp [tabularylaw08_NameCuts.j0] at h
  | k + 1 => by
    have ih0 := tabularylaw08_NameCuts.mono_l k
    · intro y0 y1 y2 y3 y4 y5
      unfold tabularylaw08_NameCuts.j0
      repeat' first
      | (with_reducible exact ih0 _ _ _ _ _ _)
      | (with_reducible exact name_Split.mono _ _)
      | (with_reducible exact tabularylaw08_awake.mono _)
      | (with_reducible exact LeO.refl _)
      | (with_reducible exact LeO.none _)
      | (with_reducible refine LeO.ite ?_ ?_)
      | (with_reducible refine LeO.bind ?_ (fun _ => ?_))
      | exact ih0 _ _ _ _ _ _
      | exact name_Split.mono _ _
      | exact tabularylaw08_awake.mono _
      | exact LeO.none _
      | refine LeO.ite ?_ ?_
      | refine LeO.bind ?_ (fun _ => ?_)
theorem tabularylaw08_NameCuts.mono : ∀ a0 a1 k, LeO (tabularylaw08_NameCuts.f k a0 a1) (tabularylaw08_NameCuts.f (k + 1) a0 a1) := by
  intro a0 a1 k
  have ih0 := tabularylaw08_NameCuts.mono_l k
  unfold tabularylaw08_NameCuts.f
  repeat' first
      | (with_reducible exact ih0 _ _ _ _ _ _)
      | (with_reducible exact name_Split.mono _ _)
      | (with_reducible exact tabularylaw08_awake.mono _)
      | (with_reducible exact LeO.refl _)
      | (with_reducible exact LeO.none _)
      | (with_reducible refine LeO.ite ?_ ?_)
      | (with_reducible refine LeO.bind ?_ (fun _ => ?_))
      | exact ih0 _ _ _ _ _ _
      | exact name_Split.mono _ _
      | exact tabularylaw08_awake.mono _
      | exact LeO.none _
      | refine LeO.ite ?_ ?_
      | refine LeO.bind ?_ (fun _ => ?_)
set_option maxHeartbeats 8000000 in
set_option maxRecDepth 100000 in
theorem tabularylaw08_NameCuts.calls (k : Nat) (a0 : ByteArray) (a1 : Int) (r : Bool) (w : World) (h : tabularylaw08_NameCuts.f k a0 a1 = some r) :
    Calls Tryd.prog 6 #[.string a0, .int .i64 a1] w fun e w' => e = .returned (.bool r) ∧ Below w.heap.size w w' := by
  have HB := Aside0.mk (Below.refl w.heap.size w)
  have H : ((tabularylaw08_awake.f k).bind fun t188 => (if t188 = true then ((name_Check.f a0).bind fun bt189 => ((name_Split.f k a0).bind fun bt191 => (if bt189.2 = 0 then (if bt191.2.2 = 0 then (if bt191.1.toList = ([] : List UInt8) then (if bt191.2.1.toList = a0.toList then (if (a0.size : Int) > 100 then (tabularylaw08_NameCuts.j0 k a0 a1 bt191.1 bt191.2.1 bt191.2.2 true) else (if (bt191.1.size : Int) > 155 then (tabularylaw08_NameCuts.j0 k a0 a1 bt191.1 bt191.2.1 bt191.2.2 true) else (tabularylaw08_NameCuts.j0 k a0 a1 bt191.1 bt191.2.1 bt191.2.2 (decide ((bt191.2.1.size : Int) > 100))))) else (tabularylaw08_NameCuts.j0 k a0 a1 bt191.1 bt191.2.1 bt191.2.2 true)) else (if bt191.1.size + 1 ≤ 9223372036854775807 then (if (bt191.1 ++ (⟨#[47]⟩ : ByteArray)).size + bt191.2.1.size ≤ 9223372036854775807 then (if ((bt191.1 ++ (⟨#[47]⟩ : ByteArray)) ++ bt191.2.1).toList = a0.toList then (if (a0.size : Int) ≤ 100 then (tabularylaw08_NameCuts.j0 k a0 a1 bt191.1 bt191.2.1 bt191.2.2 true) else (if (bt191.1.size : Int) > 155 then (tabularylaw08_NameCuts.j0 k a0 a1 bt191.1 bt191.2.1 bt191.2.2 true) else (tabularylaw08_NameCuts.j0 k a0 a1 bt191.1 bt191.2.1 bt191.2.2 (decide ((bt191.2.1.size : Int) > 100))))) else (tabularylaw08_NameCuts.j0 k a0 a1 bt191.1 bt191.2.1 bt191.2.2 true)) else (none)) else (none))) else (if a1 < 0 then (if bt191.1.toList = ([] : List UInt8) then (some (bt191.2.1.toList == ([] : List UInt8))) else (some false)) else (if a1 ≥ (a0.size : Int) then (if bt191.1.toList = ([] : List UInt8) then (some (bt191.2.1.toList == ([] : List UInt8))) else (some false)) else (if 0 ≤ a1 then (if a1 < (a0.size : Int) then (if (bt a0 a1) = 47 then (if a1 > 155 then (if bt191.1.toList = ([] : List UInt8) then (some (bt191.2.1.toList == ([] : List UInt8))) else (some false)) else (if (wrap64 ((wrap64 ((a0.size : Int) - a1)) - 1)) > 100 then (if bt191.1.toList = ([] : List UInt8) then (some (bt191.2.1.toList == ([] : List UInt8))) else (some false)) else (if (a0.size : Int) ≤ 100 then (if bt191.1.toList = ([] : List UInt8) then (some (bt191.2.1.toList == ([] : List UInt8))) else (some false)) else (some false)))) else (if bt191.1.toList = ([] : List UInt8) then (some (bt191.2.1.toList == ([] : List UInt8))) else (some false))) else (none)) else (none))))) else (if bt191.2.2 = bt189.2 then (if bt191.1.toList = ([] : List UInt8) then (some (bt191.2.1.toList == ([] : List UInt8))) else (some false)) else (some false))))) else (some false))) = some r := h
  clear h
  replace H := Option.bind_eq_some_iff.mp H
  obtain ⟨t188, A30, H⟩ := H
  replace H : (if t188 = true then ((name_Check.f a0).bind fun bt189 => ((name_Split.f k a0).bind fun bt191 => (if bt189.2 = 0 then (if bt191.2.2 = 0 then (if bt191.1.toList = ([] : List UInt8) then (if bt191.2.1.toList = a0.toList then (if (a0.size : Int) > 100 then (tabularylaw08_NameCuts.j0 k a0 a1 bt191.1 bt191.2.1 bt191.2.2 true) else (if (bt191.1.size : Int) > 155 then (tabularylaw08_NameCuts.j0 k a0 a1 bt191.1 bt191.2.1 bt191.2.2 true) else (tabularylaw08_NameCuts.j0 k a0 a1 bt191.1 bt191.2.1 bt191.2.2 (decide ((bt191.2.1.size : Int) > 100))))) else (tabularylaw08_NameCuts.j0 k a0 a1 bt191.1 bt191.2.1 bt191.2.2 true)) else (if bt191.1.size + 1 ≤ 9223372036854775807 then (if (bt191.1 ++ (⟨#[47]⟩ : ByteArray)).size + bt191.2.1.size ≤ 9223372036854775807 then (if ((bt191.1 ++ (⟨#[47]⟩ : ByteArray)) ++ bt191.2.1).toList = a0.toList then (if (a0.size : Int) ≤ 100 then (tabularylaw08_NameCuts.j0 k a0 a1 bt191.1 bt191.2.1 bt191.2.2 true) else (if (bt191.1.size : Int) > 155 then (tabularylaw08_NameCuts.j0 k a0 a1 bt191.1 bt191.2.1 bt191.2.2 true) else (tabularylaw08_NameCuts.j0 k a0 a1 bt191.1 bt191.2.1 bt191.2.2 (decide ((bt191.2.1.size : Int) > 100))))) else (tabularylaw08_NameCuts.j0 k a0 a1 bt191.1 bt191.2.1 bt191.2.2 true)) else (none)) else (none))) else (if a1 < 0 then (if bt191.1.toList = ([] : List UInt8) then (some (bt191.2.1.toList == ([] : List UInt8))) else (some false)) else (if a1 ≥ (a0.size : Int) then (if bt191.1.toList = ([] : List UInt8) then (some (bt191.2.1.toList == ([] : List UInt8))) else (some false)) else (if 0 ≤ a1 then (if a1 < (a0.size : Int) then (if (bt a0 a1) = 47 then (if a1 > 155 then (if bt191.1.toList = ([] : List UInt8) then (some (bt191.2.1.toList == ([] : List UInt8))) else (some false)) else (if (wrap64 ((wrap64 ((a0.size : Int) - a1)) - 1)) > 100 then (if bt191.1.toList = ([] : List UInt8) then (some (bt191.2.1.toList == ([] : List UInt8))) else (some false)) else (if (a0.size : Int) ≤ 100 then (if bt191.1.toList = ([] : List UInt8) then (some (bt191.2.1.toList == ([] : List UInt8))) else (some false)) else (some false)))) else (if bt191.1.toList = ([] : List UInt8) then (some (bt191.2.1.toList == ([] : List UInt8))) else (some false))) else (none)) else (none))))) else (if bt191.2.2 = bt189.2 then (if bt191.1.toList = ([] : List UInt8) then (some (bt191.2.1.toList == ([] : List UInt8))) else (some false)) else (some false))))) else (some false)) = some r := H
  have A3 := Aside0.mk A30
  clear A30
  by_cases c4 : t188 = true
  · subst c4
    have H1 : ((name_Check.f a0).bind fun bt189 => ((name_Split.f k a0).bind fun bt191 => (if bt189.2 = 0 then (if bt191.2.2 = 0 then (if bt191.1.toList = ([] : List UInt8) then (if bt191.2.1.toList = a0.toList then (if (a0.size : Int) > 100 then (tabularylaw08_NameCuts.j0 k a0 a1 bt191.1 bt191.2.1 bt191.2.2 true) else (if (bt191.1.size : Int) > 155 then (tabularylaw08_NameCuts.j0 k a0 a1 bt191.1 bt191.2.1 bt191.2.2 true) else (tabularylaw08_NameCuts.j0 k a0 a1 bt191.1 bt191.2.1 bt191.2.2 (decide ((bt191.2.1.size : Int) > 100))))) else (tabularylaw08_NameCuts.j0 k a0 a1 bt191.1 bt191.2.1 bt191.2.2 true)) else (if bt191.1.size + 1 ≤ 9223372036854775807 then (if (bt191.1 ++ (⟨#[47]⟩ : ByteArray)).size + bt191.2.1.size ≤ 9223372036854775807 then (if ((bt191.1 ++ (⟨#[47]⟩ : ByteArray)) ++ bt191.2.1).toList = a0.toList then (if (a0.size : Int) ≤ 100 then (tabularylaw08_NameCuts.j0 k a0 a1 bt191.1 bt191.2.1 bt191.2.2 true) else (if (bt191.1.size : Int) > 155 then (tabularylaw08_NameCuts.j0 k a0 a1 bt191.1 bt191.2.1 bt191.2.2 true) else (tabularylaw08_NameCuts.j0 k a0 a1 bt191.1 bt191.2.1 bt191.2.2 (decide ((bt191.2.1.size : Int) > 100))))) else (tabularylaw08_NameCuts.j0 k a0 a1 bt191.1 bt191.2.1 bt191.2.2 true)) else (none)) else (none))) else (if a1 < 0 then (if bt191.1.toList = ([] : List UInt8) then (some (bt191.2.1.toList == ([] : List UInt8))) else (some false)) else (if a1 ≥ (a0.size : Int) then (if bt191.1.toList = ([] : List UInt8) then (some (bt191.2.1.toList == ([] : List UInt8))) else (some false)) else (if 0 ≤ a1 then (if a1 < (a0.size : Int) then (if (bt a0 a1) = 47 then (if a1 > 155 then (if bt191.1.toList = ([] : List UInt8) then (some (bt191.2.1.toList == ([] : List UInt8))) else (some false)) else (if (wrap64 ((wrap64 ((a0.size : Int) - a1)) - 1)) > 100 then (if bt191.1.toList = ([] : List UInt8) then (some (bt191.2.1.toList == ([] : List UInt8))) else (some false)) else (if (a0.size : Int) ≤ 100 then (if bt191.1.toList = ([] : List UInt8) then (some (bt191.2.1.toList == ([] : List UInt8))) else (some false)) else (some false)))) else (if bt191.1.toList = ([] : List UInt8) then (some (bt191.2.1.toList == ([] : List UInt8))) else (some false))) else (none)) else (none))))) else (if bt191.2.2 = bt189.2 then (if bt191.1.toList = ([] : List UInt8) then (some (bt191.2.1.toList == ([] : List UInt8))) else (some false)) else (some false))))) = some r := by rw [if_pos rfl] at H; exact H
    clear H
    have H := H1
    clear H1
    replace H := Option.bind_eq_some_iff.mp H
    obtain ⟨⟨t189, t190⟩, A50, H⟩ := H
    replace H : ((name_Split.f k a0).bind fun bt191 => (if t190 = 0 then (if bt191.2.2 = 0 then (if bt191.1.toList = ([] : List UInt8) then (if bt191.2.1.toList = a0.toList then (if (a0.size : Int) > 100 then (tabularylaw08_NameCuts.j0 k a0 a1 bt191.1 bt191.2.1 bt191.2.2 true) else (if (bt191.1.size : Int) > 155 then (tabularylaw08_NameCuts.j0 k a0 a1 bt191.1 bt191.2.1 bt191.2.2 true) else (tabularylaw08_NameCuts.j0 k a0 a1 bt191.1 bt191.2.1 bt191.2.2 (decide ((bt191.2.1.size : Int) > 100))))) else (tabularylaw08_NameCuts.j0 k a0 a1 bt191.1 bt191.2.1 bt191.2.2 true)) else (if bt191.1.size + 1 ≤ 9223372036854775807 then (if (bt191.1 ++ (⟨#[47]⟩ : ByteArray)).size + bt191.2.1.size ≤ 9223372036854775807 then (if ((bt191.1 ++ (⟨#[47]⟩ : ByteArray)) ++ bt191.2.1).toList = a0.toList then (if (a0.size : Int) ≤ 100 then (tabularylaw08_NameCuts.j0 k a0 a1 bt191.1 bt191.2.1 bt191.2.2 true) else (if (bt191.1.size : Int) > 155 then (tabularylaw08_NameCuts.j0 k a0 a1 bt191.1 bt191.2.1 bt191.2.2 true) else (tabularylaw08_NameCuts.j0 k a0 a1 bt191.1 bt191.2.1 bt191.2.2 (decide ((bt191.2.1.size : Int) > 100))))) else (tabularylaw08_NameCuts.j0 k a0 a1 bt191.1 bt191.2.1 bt191.2.2 true)) else (none)) else (none))) else (if a1 < 0 then (if bt191.1.toList = ([] : List UInt8) then (some (bt191.2.1.toList == ([] : List UInt8))) else (some false)) else (if a1 ≥ (a0.size : Int) then (if bt191.1.toList = ([] : List UInt8) then (some (bt191.2.1.toList == ([] : List UInt8))) else (some false)) else (if 0 ≤ a1 then (if a1 < (a0.size : Int) then (if (bt a0 a1) = 47 then (if a1 > 155 then (if bt191.1.toList = ([] : List UInt8) then (some (bt191.2.1.toList == ([] : List UInt8))) else (some false)) else (if (wrap64 ((wrap64 ((a0.size : Int) - a1)) - 1)) > 100 then (if bt191.1.toList = ([] : List UInt8) then (some (bt191.2.1.toList == ([] : List UInt8))) else (some false)) else (if (a0.size : Int) ≤ 100 then (if bt191.1.toList = ([] : List UInt8) then (some (bt191.2.1.toList == ([] : List UInt8))) else (some false)) else (some false)))) else (if bt191.1.toList = ([] : List UInt8) then (some (bt191.2.1.toList == ([] : List UInt8))) else (some false))) else (none)) else (none))))) else (if bt191.2.2 = t190 then (if bt191.1.toList = ([] : List UInt8) then (some (bt191.2.1.toList == ([] : List UInt8))) else (some false)) else (some false)))) = some r := H
    have A5 := Aside0.mk A50
    clear A50
    replace H := Option.bind_eq_some_iff.mp H
    obtain ⟨⟨t191, t192, t193⟩, A60, H⟩ := H
    replace H : (if t190 = 0 then (if t193 = 0 then (if t191.toList = ([] : List UInt8) then (if t192.toList = a0.toList then (if (a0.size : Int) > 100 then (tabularylaw08_NameCuts.j0 k a0 a1 t191 t192 t193 true) else (if (t191.size : Int) > 155 then (tabularylaw08_NameCuts.j0 k a0 a1 t191 t192 t193 true) else (tabularylaw08_NameCuts.j0 k a0 a1 t191 t192 t193 (decide ((t192.size : Int) > 100))))) else (tabularylaw08_NameCuts.j0 k a0 a1 t191 t192 t193 true)) else (if t191.size + 1 ≤ 9223372036854775807 then (if (t191 ++ (⟨#[47]⟩ : ByteArray)).size + t192.size ≤ 9223372036854775807 then (if ((t191 ++ (⟨#[47]⟩ : ByteArray)) ++ t192).toList = a0.toList then (if (a0.size : Int) ≤ 100 then (tabularylaw08_NameCuts.j0 k a0 a1 t191 t192 t193 true) else (if (t191.size : Int) > 155 then (tabularylaw08_NameCuts.j0 k a0 a1 t191 t192 t193 true) else (tabularylaw08_NameCuts.j0 k a0 a1 t191 t192 t193 (decide ((t192.size : Int) > 100))))) else (tabularylaw08_NameCuts.j0 k a0 a1 t191 t192 t193 true)) else (none)) else (none))) else (if a1 < 0 then (if t191.toList = ([] : List UInt8) then (some (t192.toList == ([] : List UInt8))) else (some false)) else (if a1 ≥ (a0.size : Int) then (if t191.toList = ([] : List UInt8) then (some (t192.toList == ([] : List UInt8))) else (some false)) else (if 0 ≤ a1 then (if a1 < (a0.size : Int) then (if (bt a0 a1) = 47 then (if a1 > 155 then (if t191.toList = ([] : List UInt8) then (some (t192.toList == ([] : List UInt8))) else (some false)) else (if (wrap64 ((wrap64 ((a0.size : Int) - a1)) - 1)) > 100 then (if t191.toList = ([] : List UInt8) then (some (t192.toList == ([] : List UInt8))) else (some false)) else (if (a0.size : Int) ≤ 100 then (if t191.toList = ([] : List UInt8) then (some (t192.toList == ([] : List UInt8))) else (some false)) else (some false)))) else (if t191.toList = ([] : List UInt8) then (some (t192.toList == ([] : List UInt8))) else (some false))) else (none)) else (none))))) else (if t193 = t190 then (if t191.toList = ([] : List UInt8) then (some (t192.toList == ([] : List UInt8))) else (some false)) else (some false))) = some r := H
    have A6 := Aside0.mk A60
    clear A60
    by_cases c7 : t190 = 0
    · rw [if_pos c7] at H
      have c7b0 : (t190 == 0) = true := beq_iff_eq.mpr c7
      have c7b1 : (t190 != 0) = false := bne_eq_false_iff_eq.mpr c7
      clear c7
      by_cases c8 : t193 = 0
      · rw [if_pos c8] at H
        have c8b0 : (t193 == 0) = true := beq_iff_eq.mpr c8
        have c8b1 : (t193 != 0) = false := bne_eq_false_iff_eq.mpr c8
        clear c8
        have HC9 := Aside0.mk H
        clear H
        go_enter Tryd.func6, Tryd.ntmps6
        go_upto_region 8 with (first | ((with_reducible refine gate_callee (f := 10) rfl ?_); refine goesL_ (some 10) rfl rfl Tryd.func10 (by kernel_rfl) rfl #[] rfl (by (try simp only [List.map_toArray, List.map_cons, List.map_nil]); first | done | rfl | (simp only [List.length_drop, List.length_take]; rfl)) ?_; (with_reducible refine (tabularylaw08_awake.calls k  true _ A3.out).mono ?_); rintro e w10 ⟨rfl, hb⟩; refine ⟨_, rfl, ?_⟩; have n0_ := Aside0.mk (below_step (by repeat (first | (with_reducible first | exact HB.out | apply below_alloc | apply pw_below_drewN | apply below_drew1) | exact HB.out)) hb); clear HB; have HB := n0_; clear n0_; (try clear hb); (try clear hb2); (try clear hk); (try clear hi)) | ((with_reducible refine gate_callee (f := 13) rfl ?_); refine goesL_ (some 14) rfl rfl Tryd.func13 (by kernel_rfl) rfl #[.string a0] rfl (by (try simp only [List.map_toArray, List.map_cons, List.map_nil]); first | done | rfl | (simp only [List.length_drop, List.length_take]; rfl)) ?_; (with_reducible refine (name_Check.calls a0 t189 t190 _ A5.out).mono ?_); rintro e w11 ⟨rfl, hb⟩; refine ⟨_, rfl, ?_⟩; have n0_ := Aside0.mk (below_step (by repeat (first | (with_reducible first | exact HB.out | apply below_alloc | apply pw_below_drewN | apply below_drew1) | exact HB.out)) hb); clear HB; have HB := n0_; clear n0_; (try clear hb); (try clear hb2); (try clear hk); (try clear hi)) | ((with_reducible refine gate_callee (f := 17) rfl ?_); refine goesL_ (some 19) rfl rfl Tryd.func17 (by kernel_rfl) rfl #[.string a0] rfl (by (try simp only [List.map_toArray, List.map_cons, List.map_nil]); first | done | rfl | (simp only [List.length_drop, List.length_take]; rfl)) ?_; (with_reducible refine (name_Split.calls k a0 t191 t192 t193 _ A6.out).mono ?_); rintro e w12 ⟨rfl, hb⟩; refine ⟨_, rfl, ?_⟩; have n0_ := Aside0.mk (below_step (by repeat (first | (with_reducible first | exact HB.out | apply below_alloc | apply pw_below_drewN | apply below_drew1) | exact HB.out)) hb); clear HB; have HB := n0_; clear n0_; (try clear hb); (try clear hb2); (try clear hk); (try clear hi)))
        (try simp only [Act.put, List.setIfInBounds_toArray, List.set_cons_zero, List.set_cons_succ])
        go_cut [76] (fun v76 wc => ∃ (kq : Nat) (x76_8 : Bool), v76 = .bool x76_8 ∧ Aside0 (tabularylaw08_NameCuts.j0 kq a0 a1 t191 t192 t193 x76_8 = some r) ∧ Aside0 (kq ≤ k) ∧ Aside0 (Below w.heap.size w wc))
        case first =>
          have H := HC9.out
          clear HC9
          by_cases c13 : t191.toList = ([] : List UInt8)
          · rw [if_pos c13] at H
            have c13b0 : (t191.toList == ([] : List UInt8)) = true := beq_iff_eq.mpr c13
            have c13b1 : (t191.toList != ([] : List UInt8)) = false := bne_eq_false_iff_eq.mpr c13
            clear c13
            (first | rw [c13b0] | (simp only [i64_w, i32_w]; rw [c13b0]) | skip)
            by_cases c14 : t192.toList = a0.toList
            · rw [if_pos c14] at H
              have c14b0 : (t192.toList == a0.toList) = true := beq_iff_eq.mpr c14
              have c14b1 : (t192.toList != a0.toList) = false := bne_eq_false_iff_eq.mpr c14
              clear c14
              by_cases c15 : (a0.size : Int) > 100
              · rw [if_pos c15] at H
                have c15b0 : decide (100 < (a0.size : Int)) = true := decide_eq_true c15
                have c15b1 : decide (100 < a0.size) = true := decide_eq_true (by omega)
                clear c15
                have H' := Aside0.mk H
                clear H
                go_wp2
                go_meet
                case rel => exact ⟨_, (true), (by first | rfl | (simp; done) | (simp [*]; done)), H', ⟨by first | omega | exact Nat.le_refl _⟩, ⟨by repeat (first | (with_reducible first | exact HB.out | apply below_alloc | apply pw_below_drewN | apply below_drew1) | exact HB.out)⟩⟩
              · rw [if_neg c15] at H
                have c15b0 : decide (100 < (a0.size : Int)) = false := decide_eq_false c15
                have c15b1 : decide (100 < a0.size) = false := decide_eq_false (by omega)
                clear c15
                by_cases c16 : (t191.size : Int) > 155
                · rw [if_pos c16] at H
                  have c16b0 : decide (155 < (t191.size : Int)) = true := decide_eq_true c16
                  have c16b1 : decide (155 < t191.size) = true := decide_eq_true (by omega)
                  clear c16
                  have H' := Aside0.mk H
                  clear H
                  go_wp2
                  go_meet
                  case rel => exact ⟨_, (true), (by first | rfl | (simp; done) | (simp [*]; done)), H', ⟨by first | omega | exact Nat.le_refl _⟩, ⟨by repeat (first | (with_reducible first | exact HB.out | apply below_alloc | apply pw_below_drewN | apply below_drew1) | exact HB.out)⟩⟩
                · rw [if_neg c16] at H
                  have c16b0 : decide (155 < (t191.size : Int)) = false := decide_eq_false c16
                  have c16b1 : decide (155 < t191.size) = false := decide_eq_false (by omega)
                  clear c16
                  have H' := Aside0.mk H
                  clear H
                  go_wp2
                  go_meet
                  case rel => exact ⟨_, (decide ((t192.size : Int) > 100)), (by first | rfl | (simp; done) | (simp [*]; done)), H', ⟨by first | omega | exact Nat.le_refl _⟩, ⟨by repeat (first | (with_reducible first | exact HB.out | apply below_alloc | apply pw_below_drewN | apply below_drew1) | exact HB.out)⟩⟩
            · rw [if_neg c14] at H
              have c14b0 : (t192.toList == a0.toList) = false := beq_eq_false_iff_ne.mpr c14
              have c14b1 : (t192.toList != a0.toList) = true := bne_iff_ne.mpr c14
              have H' := Aside0.mk H
              clear H
              go_wp2
              go_meet
              case rel => exact ⟨_, (true), (by first | rfl | (simp; done) | (simp [*]; done)), H', ⟨by first | omega | exact Nat.le_refl _⟩, ⟨by repeat (first | (with_reducible first | exact HB.out | apply below_alloc | apply pw_below_drewN | apply below_drew1) | exact HB.out)⟩⟩
          · rw [if_neg c13] at H
            have c13b0 : (t191.toList == ([] : List UInt8)) = false := beq_eq_false_iff_ne.mpr c13
            have c13b1 : (t191.toList != ([] : List UInt8)) = true := bne_iff_ne.mpr c13
            (first | rw [c13b0] | (simp only [i64_w, i32_w]; rw [c13b0]) | skip)
            by_cases c17 : t191.size + 1 ≤ 9223372036854775807
            · rw [if_pos c17] at H
              have c17b0 := eq_true c17
              have c17b1 : decide (t191.size + 1 ≤ 9223372036854775807) = true := decide_eq_true c17
              try have c17b2 : (9223372036854775807 < t191.size + 1) = False := eq_false (Nat.not_lt.2 c17)
              by_cases c18 : (t191 ++ (⟨#[47]⟩ : ByteArray)).size + t192.size ≤ 9223372036854775807
              · rw [if_pos c18] at H
                have c18b0 := eq_true c18
                have c18b1 : decide ((t191 ++ (⟨#[47]⟩ : ByteArray)).size + t192.size ≤ 9223372036854775807) = true := decide_eq_true c18
                try have c18b2 : (9223372036854775807 < (t191 ++ (⟨#[47]⟩ : ByteArray)).size + t192.size) = False := eq_false (Nat.not_lt.2 c18)
                by_cases c19 : ((t191 ++ (⟨#[47]⟩ : ByteArray)) ++ t192).toList = a0.toList
                · rw [if_pos c19] at H
                  have c19b0 : (((t191 ++ (⟨#[47]⟩ : ByteArray)) ++ t192).toList == a0.toList) = true := beq_iff_eq.mpr c19
                  have c19b1 : (((t191 ++ (⟨#[47]⟩ : ByteArray)) ++ t192).toList != a0.toList) = false := bne_eq_false_iff_eq.mpr c19
                  clear c19
                  by_cases c20 : (a0.size : Int) ≤ 100
                  · rw [if_pos c20] at H
                    have c20b0 : decide ((a0.size : Int) ≤ 100) = true := decide_eq_true c20
                    have c20b1 : decide (a0.size ≤ 100) = true := decide_eq_true (by omega)
                    clear c20
                    have H' := Aside0.mk H
                    clear H
                    go_wp2
                    go_meet
                    case rel => exact ⟨_, (true), (by first | rfl | (simp; done) | (simp [*]; done)), H', ⟨by first | omega | exact Nat.le_refl _⟩, ⟨by repeat (first | (with_reducible first | exact HB.out | apply below_alloc | apply pw_below_drewN | apply below_drew1) | exact HB.out)⟩⟩
                  · rw [if_neg c20] at H
                    have c20b0 : decide ((a0.size : Int) ≤ 100) = false := decide_eq_false c20
                    have c20b1 : decide (a0.size ≤ 100) = false := decide_eq_false (by omega)
                    clear c20
                    by_cases c21 : (t191.size : Int) > 155
                    · rw [if_pos c21] at H
                      have c21b0 : decide (155 < (t191.size : Int)) = true := decide_eq_true c21
                      have c21b1 : decide (155 < t191.size) = true := decide_eq_true (by omega)
                      clear c21
                      have H' := Aside0.mk H
                      clear H
                      go_wp2
                      go_meet
                      case rel => exact ⟨_, (true), (by first | rfl | (simp; done) | (simp [*]; done)), H', ⟨by first | omega | exact Nat.le_refl _⟩, ⟨by repeat (first | (with_reducible first | exact HB.out | apply below_alloc | apply pw_below_drewN | apply below_drew1) | exact HB.out)⟩⟩
                    · rw [if_neg c21] at H
                      have c21b0 : decide (155 < (t191.size : Int)) = false := decide_eq_false c21
                      have c21b1 : decide (155 < t191.size) = false := decide_eq_false (by omega)
                      clear c21
                      have H' := Aside0.mk H
                      clear H
                      go_wp2
                      go_meet
                      case rel => exact ⟨_, (decide ((t192.size : Int) > 100)), (by first | rfl | (simp; done) | (simp [*]; done)), H', ⟨by first | omega | exact Nat.le_refl _⟩, ⟨by repeat (first | (with_reducible first | exact HB.out | apply below_alloc | apply pw_below_drewN | apply below_drew1) | exact HB.out)⟩⟩
                · rw [if_neg c19] at H
                  have c19b0 : (((t191 ++ (⟨#[47]⟩ : ByteArray)) ++ t192).toList == a0.toList) = false := beq_eq_false_iff_ne.mpr c19
                  have c19b1 : (((t191 ++ (⟨#[47]⟩ : ByteArray)) ++ t192).toList != a0.toList) = true := bne_iff_ne.mpr c19
                  have H' := Aside0.mk H
                  clear H
                  go_wp2
                  go_meet
                  case rel => exact ⟨_, (true), (by first | rfl | (simp; done) | (simp [*]; done)), H', ⟨by first | omega | exact Nat.le_refl _⟩, ⟨by repeat (first | (with_reducible first | exact HB.out | apply below_alloc | apply pw_below_drewN | apply below_drew1) | exact HB.out)⟩⟩
              · rw [if_neg c18] at H
                exact absurd H (by simp)
            · rw [if_neg c17] at H
              exact absurd H (by simp)
        case rest =>
          clear HC9
          try clear c1
          try clear c2
          try clear p2
          try clear c4
          try clear c6
          try clear p6
          try clear c7
          try clear c7b0
          try clear c7b1
          try clear c8
          try clear c8b0
          try clear c8b1
          try clear c10
          try clear c13
          try clear c13b0
          try clear c13b1
          try clear c14
          try clear c14b0
          try clear c14b1
          try clear c15
          try clear c15b0
          try clear c15b1
          try clear c16
          try clear c16b0
          try clear c16b1
          try clear c17
          try clear c17b0
          try clear c17b1
          try clear c17b2
          try clear c18
          try clear c18b0
          try clear c18b1
          try clear c18b2
          try clear c19
          try clear c19b0
          try clear c19b1
          try clear c20
          try clear c20b0
          try clear c20b1
          try clear c21
          try clear c21b0
          try clear c21b1
          obtain ⟨kq, x76_8, rfl, HA, HJ8, HB⟩ := hcut
          cases kq with
          | zero => exact absurd HA.out (by simp [tabularylaw08_NameCuts.j0])
          | succ kj8 =>
            have H := HA.out
            clear HA
            simp only [tabularylaw08_NameCuts.j0] at H
            by_cases c22 : x76_8 = true
            · subst c22
              have H1 : (some false) = some r := by rw [if_pos rfl] at H; exact H
              clear H
              have H := H1
              clear H1
              obtain rfl := Option.some.inj H
              go_wp2
              go_ret
              exact ⟨by first | rfl | (simp [errW_none, errW_some] <;> rfl) | (simp [*, errW_none, errW_some] <;> rfl), by repeat (first | (with_reducible first | exact HB.out | apply below_alloc | apply pw_below_drewN | apply below_drew1) | exact HB.out)⟩
            · replace c22 := Bool.eq_false_iff.mpr c22
              subst c22
              have H1 : (if a1 < 0 then (if t193 = 0 then (some true) else (if t191.toList = ([] : List UInt8) then (some (t192.toList == ([] : List UInt8))) else (some false))) else (if a1 ≥ (a0.size : Int) then (if t193 = 0 then (some true) else (if t191.toList = ([] : List UInt8) then (some (t192.toList == ([] : List UInt8))) else (some false))) else (if 0 ≤ a1 then (if a1 < (a0.size : Int) then (if (bt a0 a1) = 47 then (if a1 > 155 then (if t193 = 0 then (some true) else (if t191.toList = ([] : List UInt8) then (some (t192.toList == ([] : List UInt8))) else (some false))) else (if (wrap64 ((wrap64 ((a0.size : Int) - a1)) - 1)) > 100 then (if t193 = 0 then (some true) else (if t191.toList = ([] : List UInt8) then (some (t192.toList == ([] : List UInt8))) else (some false))) else (if (a0.size : Int) ≤ 100 then (if t193 = 0 then (some true) else (if t191.toList = ([] : List UInt8) then (some (t192.toList == ([] : List UInt8))) else (some false))) else (if t193 = 0 then (some (decide ((t191.size : Int) ≥ a1))) else (some false))))) else (if t193 = 0 then (some true) else (if t191.toList = ([] : List UInt8) then (some (t192.toList == ([] : List UInt8))) else (some false)))) else (none)) else (none)))) = some r := by rw [if_neg (show ¬ (false = true) by decide)] at H; exact H
              clear H
              have H := H1
              clear H1
              by_cases c23 : a1 < 0
              · rw [if_pos c23] at H
                have c23b0 : decide (a1 < 0) = true := decide_eq_true c23
                clear c23
                by_cases c24 : t193 = 0
                · rw [if_pos c24] at H
                  have c24b0 : (t193 == 0) = true := beq_iff_eq.mpr c24
                  have c24b1 : (t193 != 0) = false := bne_eq_false_iff_eq.mpr c24
                  clear c24
                  obtain rfl := Option.some.inj H
                  go_wp2
                  go_ret
                  exact ⟨by first | rfl | (simp [errW_none, errW_some] <;> rfl) | (simp [*, errW_none, errW_some] <;> rfl), by repeat (first | (with_reducible first | exact HB.out | apply below_alloc | apply pw_below_drewN | apply below_drew1) | exact HB.out)⟩
                · rw [if_neg c24] at H
                  have c24b0 : (t193 == 0) = false := beq_eq_false_iff_ne.mpr c24
                  have c24b1 : (t193 != 0) = true := bne_iff_ne.mpr c24
                  by_cases c25 : t191.toList = ([] : List UInt8)
                  · rw [if_pos c25] at H
                    have c25b0 : (t191.toList == ([] : List UInt8)) = true := beq_iff_eq.mpr c25
                    have c25b1 : (t191.toList != ([] : List UInt8)) = false := bne_eq_false_iff_eq.mpr c25
                    clear c25
                    obtain rfl := Option.some.inj H
                    go_wp2
                    go_ret
                    exact ⟨by first | rfl | (simp [errW_none, errW_some] <;> rfl) | (simp [*, errW_none, errW_some] <;> rfl), by repeat (first | (with_reducible first | exact HB.out | apply below_alloc | apply pw_below_drewN | apply below_drew1) | exact HB.out)⟩
                  · rw [if_neg c25] at H
                    have c25b0 : (t191.toList == ([] : List UInt8)) = false := beq_eq_false_iff_ne.mpr c25
                    have c25b1 : (t191.toList != ([] : List UInt8)) = true := bne_iff_ne.mpr c25
                    obtain rfl := Option.some.inj H
                    go_wp2
                    go_ret
                    exact ⟨by first | rfl | (simp [errW_none, errW_some] <;> rfl) | (simp [*, errW_none, errW_some] <;> rfl), by repeat (first | (with_reducible first | exact HB.out | apply below_alloc | apply pw_below_drewN | apply below_drew1) | exact HB.out)⟩
              · rw [if_neg c23] at H
                have c23b0 : decide (a1 < 0) = false := decide_eq_false c23
                clear c23
                by_cases c26 : a1 ≥ (a0.size : Int)
                · rw [if_pos c26] at H
                  have c26b0 : decide ((a0.size : Int) ≤ a1) = true := decide_eq_true c26
                  clear c26
                  by_cases c27 : t193 = 0
                  · rw [if_pos c27] at H
                    have c27b0 : (t193 == 0) = true := beq_iff_eq.mpr c27
                    have c27b1 : (t193 != 0) = false := bne_eq_false_iff_eq.mpr c27
                    clear c27
                    obtain rfl := Option.some.inj H
                    go_wp2
                    go_ret
                    exact ⟨by first | rfl | (simp [errW_none, errW_some] <;> rfl) | (simp [*, errW_none, errW_some] <;> rfl), by repeat (first | (with_reducible first | exact HB.out | apply below_alloc | apply pw_below_drewN | apply below_drew1) | exact HB.out)⟩
                  · rw [if_neg c27] at H
                    have c27b0 : (t193 == 0) = false := beq_eq_false_iff_ne.mpr c27
                    have c27b1 : (t193 != 0) = true := bne_iff_ne.mpr c27
                    by_cases c28 : t191.toList = ([] : List UInt8)
                    · rw [if_pos c28] at H
                      have c28b0 : (t191.toList == ([] : List UInt8)) = true := beq_iff_eq.mpr c28
                      have c28b1 : (t191.toList != ([] : List UInt8)) = false := bne_eq_false_iff_eq.mpr c28
                      clear c28
                      obtain rfl := Option.some.inj H
                      go_wp2
                      go_ret
                      exact ⟨by first | rfl | (simp [errW_none, errW_some] <;> rfl) | (simp [*, errW_none, errW_some] <;> rfl), by repeat (first | (with_reducible first | exact HB.out | apply below_alloc | apply pw_below_drewN | apply below_drew1) | exact HB.out)⟩
                    · rw [if_neg c28] at H
                      have c28b0 : (t191.toList == ([] : List UInt8)) = false := beq_eq_false_iff_ne.mpr c28
                      have c28b1 : (t191.toList != ([] : List UInt8)) = true := bne_iff_ne.mpr c28
                      obtain rfl := Option.some.inj H
                      go_wp2
                      go_ret
                      exact ⟨by first | rfl | (simp [errW_none, errW_some] <;> rfl) | (simp [*, errW_none, errW_some] <;> rfl), by repeat (first | (with_reducible first | exact HB.out | apply below_alloc | apply pw_below_drewN | apply below_drew1) | exact HB.out)⟩
                · rw [if_neg c26] at H
                  have c26b0 : decide ((a0.size : Int) ≤ a1) = false := decide_eq_false c26
                  clear c26
                  by_cases c29 : 0 ≤ a1
                  · rw [if_pos c29] at H
                    have c29b0 : decide (0 ≤ a1) = true := decide_eq_true c29
                    clear c29
                    by_cases c30 : a1 < (a0.size : Int)
                    · rw [if_pos c30] at H
                      have c30b0 : decide (a1 < (a0.size : Int)) = true := decide_eq_true c30
                      clear c30
                      by_cases c32 : (bt a0 a1) = 47
                      · rw [if_pos c32] at H
                        have c32b0 : ((bt a0 a1) == 47) = true := beq_iff_eq.mpr c32
                        have c32b1 : ((bt a0 a1) != 47) = false := bne_eq_false_iff_eq.mpr c32
                        clear c32
                        by_cases c33 : a1 > 155
                        · rw [if_pos c33] at H
                          have c33b0 : decide (155 < a1) = true := decide_eq_true c33
                          clear c33
                          by_cases c34 : t193 = 0
                          · rw [if_pos c34] at H
                            have c34b0 : (t193 == 0) = true := beq_iff_eq.mpr c34
                            have c34b1 : (t193 != 0) = false := bne_eq_false_iff_eq.mpr c34
                            clear c34
                            obtain rfl := Option.some.inj H
                            have p31 : 0 ≤ (a1 : Int) := of_decide_eq_true (by first | (with_reducible assumption) | assumption)
                            have q31 : a1 < (a0.size : Int) := of_decide_eq_true (by first | (with_reducible assumption) | assumption)
                            have hx31 := bt_at a0 a1
                            replace p31 := eq_true p31
                            replace q31 := eq_true q31
                            go_wp2
                            go_ret
                            exact ⟨by first | rfl | (simp [errW_none, errW_some] <;> rfl) | (simp [*, errW_none, errW_some] <;> rfl), by repeat (first | (with_reducible first | exact HB.out | apply below_alloc | apply pw_below_drewN | apply below_drew1) | exact HB.out)⟩
                          · rw [if_neg c34] at H
                            have c34b0 : (t193 == 0) = false := beq_eq_false_iff_ne.mpr c34
                            have c34b1 : (t193 != 0) = true := bne_iff_ne.mpr c34
                            by_cases c35 : t191.toList = ([] : List UInt8)
                            · rw [if_pos c35] at H
                              have c35b0 : (t191.toList == ([] : List UInt8)) = true := beq_iff_eq.mpr c35
                              have c35b1 : (t191.toList != ([] : List UInt8)) = false := bne_eq_false_iff_eq.mpr c35
                              clear c35
                              obtain rfl := Option.some.inj H
                              have p31 : 0 ≤ (a1 : Int) := of_decide_eq_true (by first | (with_reducible assumption) | assumption)
                              have q31 : a1 < (a0.size : Int) := of_decide_eq_true (by first | (with_reducible assumption) | assumption)
                              have hx31 := bt_at a0 a1
                              replace p31 := eq_true p31
                              replace q31 := eq_true q31
                              go_wp2
                              go_ret
                              exact ⟨by first | rfl | (simp [errW_none, errW_some] <;> rfl) | (simp [*, errW_none, errW_some] <;> rfl), by repeat (first | (with_reducible first | exact HB.out | apply below_alloc | apply pw_below_drewN | apply below_drew1) | exact HB.out)⟩
                            · rw [if_neg c35] at H
                              have c35b0 : (t191.toList == ([] : List UInt8)) = false := beq_eq_false_iff_ne.mpr c35
                              have c35b1 : (t191.toList != ([] : List UInt8)) = true := bne_iff_ne.mpr c35
                              obtain rfl := Option.some.inj H
                              have p31 : 0 ≤ (a1 : Int) := of_decide_eq_true (by first | (with_reducible assumption) | assumption)
                              have q31 : a1 < (a0.size : Int) := of_decide_eq_true (by first | (with_reducible assumption) | assumption)
                              have hx31 := bt_at a0 a1
                              replace p31 := eq_true p31
                              replace q31 := eq_true q31
                              go_wp2
                              go_ret
                              exact ⟨by first | rfl | (simp [errW_none, errW_some] <;> rfl) | (simp [*, errW_none, errW_some] <;> rfl), by repeat (first | (with_reducible first | exact HB.out | apply below_alloc | apply pw_below_drewN | apply below_drew1) | exact HB.out)⟩
                        · rw [if_neg c33] at H
                          have c33b0 : decide (155 < a1) = false := decide_eq_false c33
                          clear c33
                          by_cases c36 : (wrap64 ((wrap64 ((a0.size : Int) - a1)) - 1)) > 100
                          · rw [if_pos c36] at H
                            have c36b0 : decide (100 < (wrap64 ((wrap64 ((a0.size : Int) - a1)) - 1))) = true := decide_eq_true c36
                            clear c36
                            by_cases c37 : t193 = 0
                            · rw [if_pos c37] at H
                              have c37b0 : (t193 == 0) = true := beq_iff_eq.mpr c37
                              have c37b1 : (t193 != 0) = false := bne_eq_false_iff_eq.mpr c37
                              clear c37
                              obtain rfl := Option.some.inj H
                              have p31 : 0 ≤ (a1 : Int) := of_decide_eq_true (by first | (with_reducible assumption) | assumption)
                              have q31 : a1 < (a0.size : Int) := of_decide_eq_true (by first | (with_reducible assumption) | assumption)
                              have hx31 := bt_at a0 a1
                              replace p31 := eq_true p31
                              replace q31 := eq_true q31
                              go_wp2
                              go_ret
                              exact ⟨by first | rfl | (simp [errW_none, errW_some] <;> rfl) | (simp [*, errW_none, errW_some] <;> rfl), by repeat (first | (with_reducible first | exact HB.out | apply below_alloc | apply pw_below_drewN | apply below_drew1) | exact HB.out)⟩
                            · rw [if_neg c37] at H
                              have c37b0 : (t193 == 0) = false := beq_eq_false_iff_ne.mpr c37
                              have c37b1 : (t193 != 0) = true := bne_iff_ne.mpr c37
                              by_cases c38 : t191.toList = ([] : List UInt8)
                              · rw [if_pos c38] at H
                                have c38b0 : (t191.toList == ([] : List UInt8)) = true := beq_iff_eq.mpr c38
                                have c38b1 : (t191.toList != ([] : List UInt8)) = false := bne_eq_false_iff_eq.mpr c38
                                clear c38
                                obtain rfl := Option.some.inj H
                                have p31 : 0 ≤ (a1 : Int) := of_decide_eq_true (by first | (with_reducible assumption) | assumption)
                                have q31 : a1 < (a0.size : Int) := of_decide_eq_true (by first | (with_reducible assumption) | assumption)
                                have hx31 := bt_at a0 a1
                                replace p31 := eq_true p31
                                replace q31 := eq_true q31
                                go_wp2
                                go_ret
                                exact ⟨by first | rfl | (simp [errW_none, errW_some] <;> rfl) | (simp [*, errW_none, errW_some] <;> rfl), by repeat (first | (with_reducible first | exact HB.out | apply below_alloc | apply pw_below_drewN | apply below_drew1) | exact HB.out)⟩
                              · rw [if_neg c38] at H
                                have c38b0 : (t191.toList == ([] : List UInt8)) = false := beq_eq_false_iff_ne.mpr c38
                                have c38b1 : (t191.toList != ([] : List UInt8)) = true := bne_iff_ne.mpr c38
                                obtain rfl := Option.some.inj H
                                have p31 : 0 ≤ (a1 : Int) := of_decide_eq_true (by first | (with_reducible assumption) | assumption)
                                have q31 : a1 < (a0.size : Int) := of_decide_eq_true (by first | (with_reducible assumption) | assumption)
                                have hx31 := bt_at a0 a1
                                replace p31 := eq_true p31
                                replace q31 := eq_true q31
                                go_wp2
                                go_ret
                                exact ⟨by first | rfl | (simp [errW_none, errW_some] <;> rfl) | (simp [*, errW_none, errW_some] <;> rfl), by repeat (first | (with_reducible first | exact HB.out | apply below_alloc | apply pw_below_drewN | apply below_drew1) | exact HB.out)⟩
                          · rw [if_neg c36] at H
                            have c36b0 : decide (100 < (wrap64 ((wrap64 ((a0.size : Int) - a1)) - 1))) = false := decide_eq_false c36
                            clear c36
                            by_cases c39 : (a0.size : Int) ≤ 100
                            · rw [if_pos c39] at H
                              have c39b0 : decide ((a0.size : Int) ≤ 100) = true := decide_eq_true c39
                              have c39b1 : decide (a0.size ≤ 100) = true := decide_eq_true (by omega)
                              clear c39
                              by_cases c40 : t193 = 0
                              · rw [if_pos c40] at H
                                have c40b0 : (t193 == 0) = true := beq_iff_eq.mpr c40
                                have c40b1 : (t193 != 0) = false := bne_eq_false_iff_eq.mpr c40
                                clear c40
                                obtain rfl := Option.some.inj H
                                have p31 : 0 ≤ (a1 : Int) := of_decide_eq_true (by first | (with_reducible assumption) | assumption)
                                have q31 : a1 < (a0.size : Int) := of_decide_eq_true (by first | (with_reducible assumption) | assumption)
                                have hx31 := bt_at a0 a1
                                replace p31 := eq_true p31
                                replace q31 := eq_true q31
                                go_wp2
                                go_ret
                                exact ⟨by first | rfl | (simp [errW_none, errW_some] <;> rfl) | (simp [*, errW_none, errW_some] <;> rfl), by repeat (first | (with_reducible first | exact HB.out | apply below_alloc | apply pw_below_drewN | apply below_drew1) | exact HB.out)⟩
                              · rw [if_neg c40] at H
                                have c40b0 : (t193 == 0) = false := beq_eq_false_iff_ne.mpr c40
                                have c40b1 : (t193 != 0) = true := bne_iff_ne.mpr c40
                                by_cases c41 : t191.toList = ([] : List UInt8)
                                · rw [if_pos c41] at H
                                  have c41b0 : (t191.toList == ([] : List UInt8)) = true := beq_iff_eq.mpr c41
                                  have c41b1 : (t191.toList != ([] : List UInt8)) = false := bne_eq_false_iff_eq.mpr c41
                                  clear c41
                                  obtain rfl := Option.some.inj H
                                  have p31 : 0 ≤ (a1 : Int) := of_decide_eq_true (by first | (with_reducible assumption) | assumption)
                                  have q31 : a1 < (a0.size : Int) := of_decide_eq_true (by first | (with_reducible assumption) | assumption)
                                  have hx31 := bt_at a0 a1
                                  replace p31 := eq_true p31
                                  replace q31 := eq_true q31
                                  go_wp2
                                  go_ret
                                  exact ⟨by first | rfl | (simp [errW_none, errW_some] <;> rfl) | (simp [*, errW_none, errW_some] <;> rfl), by repeat (first | (with_reducible first | exact HB.out | apply below_alloc | apply pw_below_drewN | apply below_drew1) | exact HB.out)⟩
                                · rw [if_neg c41] at H
                                  have c41b0 : (t191.toList == ([] : List UInt8)) = false := beq_eq_false_iff_ne.mpr c41
                                  have c41b1 : (t191.toList != ([] : List UInt8)) = true := bne_iff_ne.mpr c41
                                  obtain rfl := Option.some.inj H
                                  have p31 : 0 ≤ (a1 : Int) := of_decide_eq_true (by first | (with_reducible assumption) | assumption)
                                  have q31 : a1 < (a0.size : Int) := of_decide_eq_true (by first | (with_reducible assumption) | assumption)
                                  have hx31 := bt_at a0 a1
                                  replace p31 := eq_true p31
                                  replace q31 := eq_true q31
                                  go_wp2
                                  go_ret
                                  exact ⟨by first | rfl | (simp [errW_none, errW_some] <;> rfl) | (simp [*, errW_none, errW_some] <;> rfl), by repeat (first | (with_reducible first | exact HB.out | apply below_alloc | apply pw_below_drewN | apply below_drew1) | exact HB.out)⟩
                            · rw [if_neg c39] at H
                              have c39b0 : decide ((a0.size : Int) ≤ 100) = false := decide_eq_false c39
                              have c39b1 : decide (a0.size ≤ 100) = false := decide_eq_false (by omega)
                              clear c39
                              by_cases c42 : t193 = 0
                              · rw [if_pos c42] at H
                                have c42b0 : (t193 == 0) = true := beq_iff_eq.mpr c42
                                have c42b1 : (t193 != 0) = false := bne_eq_false_iff_eq.mpr c42
                                clear c42
                                obtain rfl := Option.some.inj H
                                have p31 : 0 ≤ (a1 : Int) := of_decide_eq_true (by first | (with_reducible assumption) | assumption)
                                have q31 : a1 < (a0.size : Int) := of_decide_eq_true (by first | (with_reducible assumption) | assumption)
                                have hx31 := bt_at a0 a1
                                replace p31 := eq_true p31
                                replace q31 := eq_true q31
                                go_wp2
                                go_ret
                                exact ⟨by first | rfl | (simp [errW_none, errW_some] <;> rfl) | (simp [*, errW_none, errW_some] <;> rfl), by repeat (first | (with_reducible first | exact HB.out | apply below_alloc | apply pw_below_drewN | apply below_drew1) | exact HB.out)⟩
                              · rw [if_neg c42] at H
                                have c42b0 : (t193 == 0) = false := beq_eq_false_iff_ne.mpr c42
                                have c42b1 : (t193 != 0) = true := bne_iff_ne.mpr c42
                                obtain rfl := Option.some.inj H
                                have p31 : 0 ≤ (a1 : Int) := of_decide_eq_true (by first | (with_reducible assumption) | assumption)
                                have q31 : a1 < (a0.size : Int) := of_decide_eq_true (by first | (with_reducible assumption) | assumption)
                                have hx31 := bt_at a0 a1
                                replace p31 := eq_true p31
                                replace q31 := eq_true q31
                                go_wp2
                                go_ret
                                exact ⟨by first | rfl | (simp [errW_none, errW_some] <;> rfl) | (simp [*, errW_none, errW_some] <;> rfl), by repeat (first | (with_reducible first | exact HB.out | apply below_alloc | apply pw_below_drewN | apply below_drew1) | exact HB.out)⟩
                      · rw [if_neg c32] at H
                        have c32b0 : ((bt a0 a1) == 47) = false := beq_eq_false_iff_ne.mpr c32
                        have c32b1 : ((bt a0 a1) != 47) = true := bne_iff_ne.mpr c32
                        by_cases c43 : t193 = 0
                        · rw [if_pos c43] at H
                          have c43b0 : (t193 == 0) = true := beq_iff_eq.mpr c43
                          have c43b1 : (t193 != 0) = false := bne_eq_false_iff_eq.mpr c43
                          clear c43
                          obtain rfl := Option.some.inj H
                          have p31 : 0 ≤ (a1 : Int) := of_decide_eq_true (by first | (with_reducible assumption) | assumption)
                          have q31 : a1 < (a0.size : Int) := of_decide_eq_true (by first | (with_reducible assumption) | assumption)
                          have hx31 := bt_at a0 a1
                          replace p31 := eq_true p31
                          replace q31 := eq_true q31
                          go_wp2
                          go_ret
                          exact ⟨by first | rfl | (simp [errW_none, errW_some] <;> rfl) | (simp [*, errW_none, errW_some] <;> rfl), by repeat (first | (with_reducible first | exact HB.out | apply below_alloc | apply pw_below_drewN | apply below_drew1) | exact HB.out)⟩
                        · rw [if_neg c43] at H
                          have c43b0 : (t193 == 0) = false := beq_eq_false_iff_ne.mpr c43
                          have c43b1 : (t193 != 0) = true := bne_iff_ne.mpr c43
                          by_cases c44 : t191.toList = ([] : List UInt8)
                          · rw [if_pos c44] at H
                            have c44b0 : (t191.toList == ([] : List UInt8)) = true := beq_iff_eq.mpr c44
                            have c44b1 : (t191.toList != ([] : List UInt8)) = false := bne_eq_false_iff_eq.mpr c44
                            clear c44
                            obtain rfl := Option.some.inj H
                            have p31 : 0 ≤ (a1 : Int) := of_decide_eq_true (by first | (with_reducible assumption) | assumption)
                            have q31 : a1 < (a0.size : Int) := of_decide_eq_true (by first | (with_reducible assumption) | assumption)
                            have hx31 := bt_at a0 a1
                            replace p31 := eq_true p31
                            replace q31 := eq_true q31
                            go_wp2
                            go_ret
                            exact ⟨by first | rfl | (simp [errW_none, errW_some] <;> rfl) | (simp [*, errW_none, errW_some] <;> rfl), by repeat (first | (with_reducible first | exact HB.out | apply below_alloc | apply pw_below_drewN | apply below_drew1) | exact HB.out)⟩
                          · rw [if_neg c44] at H
                            have c44b0 : (t191.toList == ([] : List UInt8)) = false := beq_eq_false_iff_ne.mpr c44
                            have c44b1 : (t191.toList != ([] : List UInt8)) = true := bne_iff_ne.mpr c44
                            obtain rfl := Option.some.inj H
                            have p31 : 0 ≤ (a1 : Int) := of_decide_eq_true (by first | (with_reducible assumption) | assumption)
                            have q31 : a1 < (a0.size : Int) := of_decide_eq_true (by first | (with_reducible assumption) | assumption)
                            have hx31 := bt_at a0 a1
                            replace p31 := eq_true p31
                            replace q31 := eq_true q31
                            go_wp2
                            go_ret
                            exact ⟨by first | rfl | (simp [errW_none, errW_some] <;> rfl) | (simp [*, errW_none, errW_some] <;> rfl), by repeat (first | (with_reducible first | exact HB.out | apply below_alloc | apply pw_below_drewN | apply below_drew1) | exact HB.out)⟩
                    · rw [if_neg c30] at H
                      exact absurd H (by simp)
                  · rw [if_neg c29] at H
                    exact absurd H (by simp)
      · rw [if_neg c8] at H
        have c8b0 : (t193 == 0) = false := beq_eq_false_iff_ne.mpr c8
        have c8b1 : (t193 != 0) = true := bne_iff_ne.mpr c8
        by_cases c45 : a1 < 0
        · rw [if_pos c45] at H
          have c45b0 : decide (a1 < 0) = true := decide_eq_true c45
          clear c45
          by_cases c46 : t191.toList = ([] : List UInt8)
          · rw [if_pos c46] at H
            have c46b0 : (t191.toList == ([] : List UInt8)) = true := beq_iff_eq.mpr c46
            have c46b1 : (t191.toList != ([] : List UInt8)) = false := bne_eq_false_iff_eq.mpr c46
            clear c46
            obtain rfl := Option.some.inj H
            go_enter Tryd.func6, Tryd.ntmps6
            go_wp2_with (first | ((with_reducible refine gate_callee (f := 10) rfl ?_); refine goesL_ (some 10) rfl rfl Tryd.func10 (by kernel_rfl) rfl #[] rfl (by (try simp only [List.map_toArray, List.map_cons, List.map_nil]); first | done | rfl | (simp only [List.length_drop, List.length_take]; rfl)) ?_; (with_reducible refine (tabularylaw08_awake.calls k  true _ A3.out).mono ?_); rintro e w47 ⟨rfl, hb⟩; refine ⟨_, rfl, ?_⟩; have n0_ := Aside0.mk (below_step (by repeat (first | (with_reducible first | exact HB.out | apply below_alloc | apply pw_below_drewN | apply below_drew1) | exact HB.out)) hb); clear HB; have HB := n0_; clear n0_; (try clear hb); (try clear hb2); (try clear hk); (try clear hi)) | ((with_reducible refine gate_callee (f := 13) rfl ?_); refine goesL_ (some 14) rfl rfl Tryd.func13 (by kernel_rfl) rfl #[.string a0] rfl (by (try simp only [List.map_toArray, List.map_cons, List.map_nil]); first | done | rfl | (simp only [List.length_drop, List.length_take]; rfl)) ?_; (with_reducible refine (name_Check.calls a0 t189 t190 _ A5.out).mono ?_); rintro e w48 ⟨rfl, hb⟩; refine ⟨_, rfl, ?_⟩; have n0_ := Aside0.mk (below_step (by repeat (first | (with_reducible first | exact HB.out | apply below_alloc | apply pw_below_drewN | apply below_drew1) | exact HB.out)) hb); clear HB; have HB := n0_; clear n0_; (try clear hb); (try clear hb2); (try clear hk); (try clear hi)) | ((with_reducible refine gate_callee (f := 17) rfl ?_); refine goesL_ (some 19) rfl rfl Tryd.func17 (by kernel_rfl) rfl #[.string a0] rfl (by (try simp only [List.map_toArray, List.map_cons, List.map_nil]); first | done | rfl | (simp only [List.length_drop, List.length_take]; rfl)) ?_; (with_reducible refine (name_Split.calls k a0 t191 t192 t193 _ A6.out).mono ?_); rintro e w49 ⟨rfl, hb⟩; refine ⟨_, rfl, ?_⟩; have n0_ := Aside0.mk (below_step (by repeat (first | (with_reducible first | exact HB.out | apply below_alloc | apply pw_below_drewN | apply below_drew1) | exact HB.out)) hb); clear HB; have HB := n0_; clear n0_; (try clear hb); (try clear hb2); (try clear hk); (try clear hi)))
            go_ret
            exact ⟨by first | rfl | (simp [errW_none, errW_some] <;> rfl) | (simp [*, errW_none, errW_some] <;> rfl), by repeat (first | (with_reducible first | exact HB.out | apply below_alloc | apply pw_below_drewN | apply below_drew1) | exact HB.out)⟩
          · rw [if_neg c46] at H
            have c46b0 : (t191.toList == ([] : List UInt8)) = false := beq_eq_false_iff_ne.mpr c46
            have c46b1 : (t191.toList != ([] : List UInt8)) = true := bne_iff_ne.mpr c46
            obtain rfl := Option.some.inj H
            go_enter Tryd.func6, Tryd.ntmps6
            go_wp2_with (first | ((with_reducible refine gate_callee (f := 10) rfl ?_); refine goesL_ (some 10) rfl rfl Tryd.func10 (by kernel_rfl) rfl #[] rfl (by (try simp only [List.map_toArray, List.map_cons, List.map_nil]); first | done | rfl | (simp only [List.length_drop, List.length_take]; rfl)) ?_; (with_reducible refine (tabularylaw08_awake.calls k  true _ A3.out).mono ?_); rintro e w50 ⟨rfl, hb⟩; refine ⟨_, rfl, ?_⟩; have n0_ := Aside0.mk (below_step (by repeat (first | (with_reducible first | exact HB.out | apply below_alloc | apply pw_below_drewN | apply below_drew1) | exact HB.out)) hb); clear HB; have HB := n0_; clear n0_; (try clear hb); (try clear hb2); (try clear hk); (try clear hi)) | ((with_reducible refine gate_callee (f := 13) rfl ?_); refine goesL_ (some 14) rfl rfl Tryd.func13 (by kernel_rfl) rfl #[.string a0] rfl (by (try simp only [List.map_toArray, List.map_cons, List.map_nil]); first | done | rfl | (simp only [List.length_drop, List.length_take]; rfl)) ?_; (with_reducible refine (name_Check.calls a0 t189 t190 _ A5.out).mono ?_); rintro e w51 ⟨rfl, hb⟩; refine ⟨_, rfl, ?_⟩; have n0_ := Aside0.mk (below_step (by repeat (first | (with_reducible first | exact HB.out | apply below_alloc | apply pw_below_drewN | apply below_drew1) | exact HB.out)) hb); clear HB; have HB := n0_; clear n0_; (try clear hb); (try clear hb2); (try clear hk); (try clear hi)) | ((with_reducible refine gate_callee (f := 17) rfl ?_); refine goesL_ (some 19) rfl rfl Tryd.func17 (by kernel_rfl) rfl #[.string a0] rfl (by (try simp only [List.map_toArray, List.map_cons, List.map_nil]); first | done | rfl | (simp only [List.length_drop, List.length_take]; rfl)) ?_; (with_reducible refine (name_Split.calls k a0 t191 t192 t193 _ A6.out).mono ?_); rintro e w52 ⟨rfl, hb⟩; refine ⟨_, rfl, ?_⟩; have n0_ := Aside0.mk (below_step (by repeat (first | (with_reducible first | exact HB.out | apply below_alloc | apply pw_below_drewN | apply below_drew1) | exact HB.out)) hb); clear HB; have HB := n0_; clear n0_; (try clear hb); (try clear hb2); (try clear hk); (try clear hi)))
            go_ret
            exact ⟨by first | rfl | (simp [errW_none, errW_some] <;> rfl) | (simp [*, errW_none, errW_some] <;> rfl), by repeat (first | (with_reducible first | exact HB.out | apply below_alloc | apply pw_below_drewN | apply below_drew1) | exact HB.out)⟩
        · rw [if_neg c45] at H
          have c45b0 : decide (a1 < 0) = false := decide_eq_false c45
          clear c45
          by_cases c53 : a1 ≥ (a0.size : Int)
          · rw [if_pos c53] at H
            have c53b0 : decide ((a0.size : Int) ≤ a1) = true := decide_eq_true c53
            clear c53
            by_cases c54 : t191.toList = ([] : List UInt8)
            · rw [if_pos c54] at H
              have c54b0 : (t191.toList == ([] : List UInt8)) = true := beq_iff_eq.mpr c54
              have c54b1 : (t191.toList != ([] : List UInt8)) = false := bne_eq_false_iff_eq.mpr c54
              clear c54
              obtain rfl := Option.some.inj H
              go_enter Tryd.func6, Tryd.ntmps6
              go_wp2_with (first | ((with_reducible refine gate_callee (f := 10) rfl ?_); refine goesL_ (some 10) rfl rfl Tryd.func10 (by kernel_rfl) rfl #[] rfl (by (try simp only [List.map_toArray, List.map_cons, List.map_nil]); first | done | rfl | (simp only [List.length_drop, List.length_take]; rfl)) ?_; (with_reducible refine (tabularylaw08_awake.calls k  true _ A3.out).mono ?_); rintro e w55 ⟨rfl, hb⟩; refine ⟨_, rfl, ?_⟩; have n0_ := Aside0.mk (below_step (by repeat (first | (with_reducible first | exact HB.out | apply below_alloc | apply pw_below_drewN | apply below_drew1) | exact HB.out)) hb); clear HB; have HB := n0_; clear n0_; (try clear hb); (try clear hb2); (try clear hk); (try clear hi)) | ((with_reducible refine gate_callee (f := 13) rfl ?_); refine goesL_ (some 14) rfl rfl Tryd.func13 (by kernel_rfl) rfl #[.string a0] rfl (by (try simp only [List.map_toArray, List.map_cons, List.map_nil]); first | done | rfl | (simp only [List.length_drop, List.length_take]; rfl)) ?_; (with_reducible refine (name_Check.calls a0 t189 t190 _ A5.out).mono ?_); rintro e w56 ⟨rfl, hb⟩; refine ⟨_, rfl, ?_⟩; have n0_ := Aside0.mk (below_step (by repeat (first | (with_reducible first | exact HB.out | apply below_alloc | apply pw_below_drewN | apply below_drew1) | exact HB.out)) hb); clear HB; have HB := n0_; clear n0_; (try clear hb); (try clear hb2); (try clear hk); (try clear hi)) | ((with_reducible refine gate_callee (f := 17) rfl ?_); refine goesL_ (some 19) rfl rfl Tryd.func17 (by kernel_rfl) rfl #[.string a0] rfl (by (try simp only [List.map_toArray, List.map_cons, List.map_nil]); first | done | rfl | (simp only [List.length_drop, List.length_take]; rfl)) ?_; (with_reducible refine (name_Split.calls k a0 t191 t192 t193 _ A6.out).mono ?_); rintro e w57 ⟨rfl, hb⟩; refine ⟨_, rfl, ?_⟩; have n0_ := Aside0.mk (below_step (by repeat (first | (with_reducible first | exact HB.out | apply below_alloc | apply pw_below_drewN | apply below_drew1) | exact HB.out)) hb); clear HB; have HB := n0_; clear n0_; (try clear hb); (try clear hb2); (try clear hk); (try clear hi)))
              go_ret
              exact ⟨by first | rfl | (simp [errW_none, errW_some] <;> rfl) | (simp [*, errW_none, errW_some] <;> rfl), by repeat (first | (with_reducible first | exact HB.out | apply below_alloc | apply pw_below_drewN | apply below_drew1) | exact HB.out)⟩
            · rw [if_neg c54] at H
              have c54b0 : (t191.toList == ([] : List UInt8)) = false := beq_eq_false_iff_ne.mpr c54
              have c54b1 : (t191.toList != ([] : List UInt8)) = true := bne_iff_ne.mpr c54
              obtain rfl := Option.some.inj H
              go_enter Tryd.func6, Tryd.ntmps6
              go_wp2_with (first | ((with_reducible refine gate_callee (f := 10) rfl ?_); refine goesL_ (some 10) rfl rfl Tryd.func10 (by kernel_rfl) rfl #[] rfl (by (try simp only [List.map_toArray, List.map_cons, List.map_nil]); first | done | rfl | (simp only [List.length_drop, List.length_take]; rfl)) ?_; (with_reducible refine (tabularylaw08_awake.calls k  true _ A3.out).mono ?_); rintro e w58 ⟨rfl, hb⟩; refine ⟨_, rfl, ?_⟩; have n0_ := Aside0.mk (below_step (by repeat (first | (with_reducible first | exact HB.out | apply below_alloc | apply pw_below_drewN | apply below_drew1) | exact HB.out)) hb); clear HB; have HB := n0_; clear n0_; (try clear hb); (try clear hb2); (try clear hk); (try clear hi)) | ((with_reducible refine gate_callee (f := 13) rfl ?_); refine goesL_ (some 14) rfl rfl Tryd.func13 (by kernel_rfl) rfl #[.string a0] rfl (by (try simp only [List.map_toArray, List.map_cons, List.map_nil]); first | done | rfl | (simp only [List.length_drop, List.length_take]; rfl)) ?_; (with_reducible refine (name_Check.calls a0 t189 t190 _ A5.out).mono ?_); rintro e w59 ⟨rfl, hb⟩; refine ⟨_, rfl, ?_⟩; have n0_ := Aside0.mk (below_step (by repeat (first | (with_reducible first | exact HB.out | apply below_alloc | apply pw_below_drewN | apply below_drew1) | exact HB.out)) hb); clear HB; have HB := n0_; clear n0_; (try clear hb); (try clear hb2); (try clear hk); (try clear hi)) | ((with_reducible refine gate_callee (f := 17) rfl ?_); refine goesL_ (some 19) rfl rfl Tryd.func17 (by kernel_rfl) rfl #[.string a0] rfl (by (try simp only [List.map_toArray, List.map_cons, List.map_nil]); first | done | rfl | (simp only [List.length_drop, List.length_take]; rfl)) ?_; (with_reducible refine (name_Split.calls k a0 t191 t192 t193 _ A6.out).mono ?_); rintro e w60 ⟨rfl, hb⟩; refine ⟨_, rfl, ?_⟩; have n0_ := Aside0.mk (below_step (by repeat (first | (with_reducible first | exact HB.out | apply below_alloc | apply pw_below_drewN | apply below_drew1) | exact HB.out)) hb); clear HB; have HB := n0_; clear n0_; (try clear hb); (try clear hb2); (try clear hk); (try clear hi)))
              go_ret
              exact ⟨by first | rfl | (simp [errW_none, errW_some] <;> rfl) | (simp [*, errW_none, errW_some] <;> rfl), by repeat (first | (with_reducible first | exact HB.out | apply below_alloc | apply pw_below_drewN | apply below_drew1) | exact HB.out)⟩
          · rw [if_neg c53] at H
            have c53b0 : decide ((a0.size : Int) ≤ a1) = false := decide_eq_false c53
            clear c53
            by_cases c61 : 0 ≤ a1
            · rw [if_pos c61] at H
              have c61b0 : decide (0 ≤ a1) = true := decide_eq_true c61
              clear c61
              by_cases c62 : a1 < (a0.size : Int)
              · rw [if_pos c62] at H
                have c62b0 : decide (a1 < (a0.size : Int)) = true := decide_eq_true c62
                clear c62
                by_cases c64 : (bt a0 a1) = 47
                · rw [if_pos c64] at H
                  have c64b0 : ((bt a0 a1) == 47) = true := beq_iff_eq.mpr c64
                  have c64b1 : ((bt a0 a1) != 47) = false := bne_eq_false_iff_eq.mpr c64
                  clear c64
                  by_cases c65 : a1 > 155
                  · rw [if_pos c65] at H
                    have c65b0 : decide (155 < a1) = true := decide_eq_true c65
                    clear c65
                    by_cases c66 : t191.toList = ([] : List UInt8)
                    · rw [if_pos c66] at H
                      have c66b0 : (t191.toList == ([] : List UInt8)) = true := beq_iff_eq.mpr c66
                      have c66b1 : (t191.toList != ([] : List UInt8)) = false := bne_eq_false_iff_eq.mpr c66
                      clear c66
                      obtain rfl := Option.some.inj H
                      go_enter Tryd.func6, Tryd.ntmps6
                      go_wp2_with (first | ((with_reducible refine gate_callee (f := 10) rfl ?_); refine goesL_ (some 10) rfl rfl Tryd.func10 (by kernel_rfl) rfl #[] rfl (by (try simp only [List.map_toArray, List.map_cons, List.map_nil]); first | done | rfl | (simp only [List.length_drop, List.length_take]; rfl)) ?_; (with_reducible refine (tabularylaw08_awake.calls k  true _ A3.out).mono ?_); rintro e w67 ⟨rfl, hb⟩; refine ⟨_, rfl, ?_⟩; have n0_ := Aside0.mk (below_step (by repeat (first | (with_reducible first | exact HB.out | apply below_alloc | apply pw_below_drewN | apply below_drew1) | exact HB.out)) hb); clear HB; have HB := n0_; clear n0_; (try clear hb); (try clear hb2); (try clear hk); (try clear hi)) | ((with_reducible refine gate_callee (f := 13) rfl ?_); refine goesL_ (some 14) rfl rfl Tryd.func13 (by kernel_rfl) rfl #[.string a0] rfl (by (try simp only [List.map_toArray, List.map_cons, List.map_nil]); first | done | rfl | (simp only [List.length_drop, List.length_take]; rfl)) ?_; (with_reducible refine (name_Check.calls a0 t189 t190 _ A5.out).mono ?_); rintro e w68 ⟨rfl, hb⟩; refine ⟨_, rfl, ?_⟩; have n0_ := Aside0.mk (below_step (by repeat (first | (with_reducible first | exact HB.out | apply below_alloc | apply pw_below_drewN | apply below_drew1) | exact HB.out)) hb); clear HB; have HB := n0_; clear n0_; (try clear hb); (try clear hb2); (try clear hk); (try clear hi)) | ((with_reducible refine gate_callee (f := 17) rfl ?_); refine goesL_ (some 19) rfl rfl Tryd.func17 (by kernel_rfl) rfl #[.string a0] rfl (by (try simp only [List.map_toArray, List.map_cons, List.map_nil]); first | done | rfl | (simp only [List.length_drop, List.length_take]; rfl)) ?_; (with_reducible refine (name_Split.calls k a0 t191 t192 t193 _ A6.out).mono ?_); rintro e w69 ⟨rfl, hb⟩; refine ⟨_, rfl, ?_⟩; have n0_ := Aside0.mk (below_step (by repeat (first | (with_reducible first | exact HB.out | apply below_alloc | apply pw_below_drewN | apply below_drew1) | exact HB.out)) hb); clear HB; have HB := n0_; clear n0_; (try clear hb); (try clear hb2); (try clear hk); (try clear hi); have p63 : 0 ≤ (a1 : Int) := of_decide_eq_true (by first | (with_reducible assumption) | assumption); have q63 : a1 < (a0.size : Int) := of_decide_eq_true (by first | (with_reducible assumption) | assumption); have hx63 := bt_at a0 a1; replace p63 := eq_true p63; replace q63 := eq_true q63))
                      go_ret
                      exact ⟨by first | rfl | (simp [errW_none, errW_some] <;> rfl) | (simp [*, errW_none, errW_some] <;> rfl), by repeat (first | (with_reducible first | exact HB.out | apply below_alloc | apply pw_below_drewN | apply below_drew1) | exact HB.out)⟩
                    · rw [if_neg c66] at H
                      have c66b0 : (t191.toList == ([] : List UInt8)) = false := beq_eq_false_iff_ne.mpr c66
                      have c66b1 : (t191.toList != ([] : List UInt8)) = true := bne_iff_ne.mpr c66
                      obtain rfl := Option.some.inj H
                      go_enter Tryd.func6, Tryd.ntmps6
                      go_wp2_with (first | ((with_reducible refine gate_callee (f := 10) rfl ?_); refine goesL_ (some 10) rfl rfl Tryd.func10 (by kernel_rfl) rfl #[] rfl (by (try simp only [List.map_toArray, List.map_cons, List.map_nil]); first | done | rfl | (simp only [List.length_drop, List.length_take]; rfl)) ?_; (with_reducible refine (tabularylaw08_awake.calls k  true _ A3.out).mono ?_); rintro e w70 ⟨rfl, hb⟩; refine ⟨_, rfl, ?_⟩; have n0_ := Aside0.mk (below_step (by repeat (first | (with_reducible first | exact HB.out | apply below_alloc | apply pw_below_drewN | apply below_drew1) | exact HB.out)) hb); clear HB; have HB := n0_; clear n0_; (try clear hb); (try clear hb2); (try clear hk); (try clear hi)) | ((with_reducible refine gate_callee (f := 13) rfl ?_); refine goesL_ (some 14) rfl rfl Tryd.func13 (by kernel_rfl) rfl #[.string a0] rfl (by (try simp only [List.map_toArray, List.map_cons, List.map_nil]); first | done | rfl | (simp only [List.length_drop, List.length_take]; rfl)) ?_; (with_reducible refine (name_Check.calls a0 t189 t190 _ A5.out).mono ?_); rintro e w71 ⟨rfl, hb⟩; refine ⟨_, rfl, ?_⟩; have n0_ := Aside0.mk (below_step (by repeat (first | (with_reducible first | exact HB.out | apply below_alloc | apply pw_below_drewN | apply below_drew1) | exact HB.out)) hb); clear HB; have HB := n0_; clear n0_; (try clear hb); (try clear hb2); (try clear hk); (try clear hi)) | ((with_reducible refine gate_callee (f := 17) rfl ?_); refine goesL_ (some 19) rfl rfl Tryd.func17 (by kernel_rfl) rfl #[.string a0] rfl (by (try simp only [List.map_toArray, List.map_cons, List.map_nil]); first | done | rfl | (simp only [List.length_drop, List.length_take]; rfl)) ?_; (with_reducible refine (name_Split.calls k a0 t191 t192 t193 _ A6.out).mono ?_); rintro e w72 ⟨rfl, hb⟩; refine ⟨_, rfl, ?_⟩; have n0_ := Aside0.mk (below_step (by repeat (first | (with_reducible first | exact HB.out | apply below_alloc | apply pw_below_drewN | apply below_drew1) | exact HB.out)) hb); clear HB; have HB := n0_; clear n0_; (try clear hb); (try clear hb2); (try clear hk); (try clear hi); have p63 : 0 ≤ (a1 : Int) := of_decide_eq_true (by first | (with_reducible assumption) | assumption); have q63 : a1 < (a0.size : Int) := of_decide_eq_true (by first | (with_reducible assumption) | assumption); have hx63 := bt_at a0 a1; replace p63 := eq_true p63; replace q63 := eq_true q63))
                      go_ret
                      exact ⟨by first | rfl | (simp [errW_none, errW_some] <;> rfl) | (simp [*, errW_none, errW_some] <;> rfl), by repeat (first | (with_reducible first | exact HB.out | apply below_alloc | apply pw_below_drewN | apply below_drew1) | exact HB.out)⟩
                  · rw [if_neg c65] at H
                    have c65b0 : decide (155 < a1) = false := decide_eq_false c65
                    clear c65
                    by_cases c73 : (wrap64 ((wrap64 ((a0.size : Int) - a1)) - 1)) > 100
                    · rw [if_pos c73] at H
                      have c73b0 : decide (100 < (wrap64 ((wrap64 ((a0.size : Int) - a1)) - 1))) = true := decide_eq_true c73
                      clear c73
                      by_cases c74 : t191.toList = ([] : List UInt8)
                      · rw [if_pos c74] at H
                        have c74b0 : (t191.toList == ([] : List UInt8)) = true := beq_iff_eq.mpr c74
                        have c74b1 : (t191.toList != ([] : List UInt8)) = false := bne_eq_false_iff_eq.mpr c74
                        clear c74
                        obtain rfl := Option.some.inj H
                        go_enter Tryd.func6, Tryd.ntmps6
                        go_wp2_with (first | ((with_reducible refine gate_callee (f := 10) rfl ?_); refine goesL_ (some 10) rfl rfl Tryd.func10 (by kernel_rfl) rfl #[] rfl (by (try simp only [List.map_toArray, List.map_cons, List.map_nil]); first | done | rfl | (simp only [List.length_drop, List.length_take]; rfl)) ?_; (with_reducible refine (tabularylaw08_awake.calls k  true _ A3.out).mono ?_); rintro e w75 ⟨rfl, hb⟩; refine ⟨_, rfl, ?_⟩; have n0_ := Aside0.mk (below_step (by repeat (first | (with_reducible first | exact HB.out | apply below_alloc | apply pw_below_drewN | apply below_drew1) | exact HB.out)) hb); clear HB; have HB := n0_; clear n0_; (try clear hb); (try clear hb2); (try clear hk); (try clear hi)) | ((with_reducible refine gate_callee (f := 13) rfl ?_); refine goesL_ (some 14) rfl rfl Tryd.func13 (by kernel_rfl) rfl #[.string a0] rfl (by (try simp only [List.map_toArray, List.map_cons, List.map_nil]); first | done | rfl | (simp only [List.length_drop, List.length_take]; rfl)) ?_; (with_reducible refine (name_Check.calls a0 t189 t190 _ A5.out).mono ?_); rintro e w76 ⟨rfl, hb⟩; refine ⟨_, rfl, ?_⟩; have n0_ := Aside0.mk (below_step (by repeat (first | (with_reducible first | exact HB.out | apply below_alloc | apply pw_below_drewN | apply below_drew1) | exact HB.out)) hb); clear HB; have HB := n0_; clear n0_; (try clear hb); (try clear hb2); (try clear hk); (try clear hi)) | ((with_reducible refine gate_callee (f := 17) rfl ?_); refine goesL_ (some 19) rfl rfl Tryd.func17 (by kernel_rfl) rfl #[.string a0] rfl (by (try simp only [List.map_toArray, List.map_cons, List.map_nil]); first | done | rfl | (simp only [List.length_drop, List.length_take]; rfl)) ?_; (with_reducible refine (name_Split.calls k a0 t191 t192 t193 _ A6.out).mono ?_); rintro e w77 ⟨rfl, hb⟩; refine ⟨_, rfl, ?_⟩; have n0_ := Aside0.mk (below_step (by repeat (first | (with_reducible first | exact HB.out | apply below_alloc | apply pw_below_drewN | apply below_drew1) | exact HB.out)) hb); clear HB; have HB := n0_; clear n0_; (try clear hb); (try clear hb2); (try clear hk); (try clear hi); have p63 : 0 ≤ (a1 : Int) := of_decide_eq_true (by first | (with_reducible assumption) | assumption); have q63 : a1 < (a0.size : Int) := of_decide_eq_true (by first | (with_reducible assumption) | assumption); have hx63 := bt_at a0 a1; replace p63 := eq_true p63; replace q63 := eq_true q63))
                        go_ret
                        exact ⟨by first | rfl | (simp [errW_none, errW_some] <;> rfl) | (simp [*, errW_none, errW_some] <;> rfl), by repeat (first | (with_reducible first | exact HB.out | apply below_alloc | apply pw_below_drewN | apply below_drew1) | exact HB.out)⟩
                      · rw [if_neg c74] at H
                        have c74b0 : (t191.toList == ([] : List UInt8)) = false := beq_eq_false_iff_ne.mpr c74
                        have c74b1 : (t191.toList != ([] : List UInt8)) = true := bne_iff_ne.mpr c74
                        obtain rfl := Option.some.inj H
                        go_enter Tryd.func6, Tryd.ntmps6
                        go_wp2_with (first | ((with_reducible refine gate_callee (f := 10) rfl ?_); refine goesL_ (some 10) rfl rfl Tryd.func10 (by kernel_rfl) rfl #[] rfl (by (try simp only [List.map_toArray, List.map_cons, List.map_nil]); first | done | rfl | (simp only [List.length_drop, List.length_take]; rfl)) ?_; (with_reducible refine (tabularylaw08_awake.calls k  true _ A3.out).mono ?_); rintro e w78 ⟨rfl, hb⟩; refine ⟨_, rfl, ?_⟩; have n0_ := Aside0.mk (below_step (by repeat (first | (with_reducible first | exact HB.out | apply below_alloc | apply pw_below_drewN | apply below_drew1) | exact HB.out)) hb); clear HB; have HB := n0_; clear n0_; (try clear hb); (try clear hb2); (try clear hk); (try clear hi)) | ((with_reducible refine gate_callee (f := 13) rfl ?_); refine goesL_ (some 14) rfl rfl Tryd.func13 (by kernel_rfl) rfl #[.string a0] rfl (by (try simp only [List.map_toArray, List.map_cons, List.map_nil]); first | done | rfl | (simp only [List.length_drop, List.length_take]; rfl)) ?_; (with_reducible refine (name_Check.calls a0 t189 t190 _ A5.out).mono ?_); rintro e w79 ⟨rfl, hb⟩; refine ⟨_, rfl, ?_⟩; have n0_ := Aside0.mk (below_step (by repeat (first | (with_reducible first | exact HB.out | apply below_alloc | apply pw_below_drewN | apply below_drew1) | exact HB.out)) hb); clear HB; have HB := n0_; clear n0_; (try clear hb); (try clear hb2); (try clear hk); (try clear hi)) | ((with_reducible refine gate_callee (f := 17) rfl ?_); refine goesL_ (some 19) rfl rfl Tryd.func17 (by kernel_rfl) rfl #[.string a0] rfl (by (try simp only [List.map_toArray, List.map_cons, List.map_nil]); first | done | rfl | (simp only [List.length_drop, List.length_take]; rfl)) ?_; (with_reducible refine (name_Split.calls k a0 t191 t192 t193 _ A6.out).mono ?_); rintro e w80 ⟨rfl, hb⟩; refine ⟨_, rfl, ?_⟩; have n0_ := Aside0.mk (below_step (by repeat (first | (with_reducible first | exact HB.out | apply below_alloc | apply pw_below_drewN | apply below_drew1) | exact HB.out)) hb); clear HB; have HB := n0_; clear n0_; (try clear hb); (try clear hb2); (try clear hk); (try clear hi); have p63 : 0 ≤ (a1 : Int) := of_decide_eq_true (by first | (with_reducible assumption) | assumption); have q63 : a1 < (a0.size : Int) := of_decide_eq_true (by first | (with_reducible assumption) | assumption); have hx63 := bt_at a0 a1; replace p63 := eq_true p63; replace q63 := eq_true q63))
                        go_ret
                        exact ⟨by first | rfl | (simp [errW_none, errW_some] <;> rfl) | (simp [*, errW_none, errW_some] <;> rfl), by repeat (first | (with_reducible first | exact HB.out | apply below_alloc | apply pw_below_drewN | apply below_drew1) | exact HB.out)⟩
                    · rw [if_neg c73] at H
                      have c73b0 : decide (100 < (wrap64 ((wrap64 ((a0.size : Int) - a1)) - 1))) = false := decide_eq_false c73
                      clear c73
                      by_cases c81 : (a0.size : Int) ≤ 100
                      · rw [if_pos c81] at H
                        have c81b0 : decide ((a0.size : Int) ≤ 100) = true := decide_eq_true c81
                        have c81b1 : decide (a0.size ≤ 100) = true := decide_eq_true (by omega)
                        clear c81
                        by_cases c82 : t191.toList = ([] : List UInt8)
                        · rw [if_pos c82] at H
                          have c82b0 : (t191.toList == ([] : List UInt8)) = true := beq_iff_eq.mpr c82
                          have c82b1 : (t191.toList != ([] : List UInt8)) = false := bne_eq_false_iff_eq.mpr c82
                          clear c82
                          obtain rfl := Option.some.inj H
                          go_enter Tryd.func6, Tryd.ntmps6
                          go_wp2_with (first | ((with_reducible refine gate_callee (f := 10) rfl ?_); refine goesL_ (some 10) rfl rfl Tryd.func10 (by kernel_rfl) rfl #[] rfl (by (try simp only [List.map_toArray, List.map_cons, List.map_nil]); first | done | rfl | (simp only [List.length_drop, List.length_take]; rfl)) ?_; (with_reducible refine (tabularylaw08_awake.calls k  true _ A3.out).mono ?_); rintro e w83 ⟨rfl, hb⟩; refine ⟨_, rfl, ?_⟩; have n0_ := Aside0.mk (below_step (by repeat (first | (with_reducible first | exact HB.out | apply below_alloc | apply pw_below_drewN | apply below_drew1) | exact HB.out)) hb); clear HB; have HB := n0_; clear n0_; (try clear hb); (try clear hb2); (try clear hk); (try clear hi)) | ((with_reducible refine gate_callee (f := 13) rfl ?_); refine goesL_ (some 14) rfl rfl Tryd.func13 (by kernel_rfl) rfl #[.string a0] rfl (by (try simp only [List.map_toArray, List.map_cons, List.map_nil]); first | done | rfl | (simp only [List.length_drop, List.length_take]; rfl)) ?_; (with_reducible refine (name_Check.calls a0 t189 t190 _ A5.out).mono ?_); rintro e w84 ⟨rfl, hb⟩; refine ⟨_, rfl, ?_⟩; have n0_ := Aside0.mk (below_step (by repeat (first | (with_reducible first | exact HB.out | apply below_alloc | apply pw_below_drewN | apply below_drew1) | exact HB.out)) hb); clear HB; have HB := n0_; clear n0_; (try clear hb); (try clear hb2); (try clear hk); (try clear hi)) | ((with_reducible refine gate_callee (f := 17) rfl ?_); refine goesL_ (some 19) rfl rfl Tryd.func17 (by kernel_rfl) rfl #[.string a0] rfl (by (try simp only [List.map_toArray, List.map_cons, List.map_nil]); first | done | rfl | (simp only [List.length_drop, List.length_take]; rfl)) ?_; (with_reducible refine (name_Split.calls k a0 t191 t192 t193 _ A6.out).mono ?_); rintro e w85 ⟨rfl, hb⟩; refine ⟨_, rfl, ?_⟩; have n0_ := Aside0.mk (below_step (by repeat (first | (with_reducible first | exact HB.out | apply below_alloc | apply pw_below_drewN | apply below_drew1) | exact HB.out)) hb); clear HB; have HB := n0_; clear n0_; (try clear hb); (try clear hb2); (try clear hk); (try clear hi); have p63 : 0 ≤ (a1 : Int) := of_decide_eq_true (by first | (with_reducible assumption) | assumption); have q63 : a1 < (a0.size : Int) := of_decide_eq_true (by first | (with_reducible assumption) | assumption); have hx63 := bt_at a0 a1; replace p63 := eq_true p63; replace q63 := eq_true q63))
                          go_ret
                          exact ⟨by first | rfl | (simp [errW_none, errW_some] <;> rfl) | (simp [*, errW_none, errW_some] <;> rfl), by repeat (first | (with_reducible first | exact HB.out | apply below_alloc | apply pw_below_drewN | apply below_drew1) | exact HB.out)⟩
                        · rw [if_neg c82] at H
                          have c82b0 : (t191.toList == ([] : List UInt8)) = false := beq_eq_false_iff_ne.mpr c82
                          have c82b1 : (t191.toList != ([] : List UInt8)) = true := bne_iff_ne.mpr c82
                          obtain rfl := Option.some.inj H
                          go_enter Tryd.func6, Tryd.ntmps6
                          go_wp2_with (first | ((with_reducible refine gate_callee (f := 10) rfl ?_); refine goesL_ (some 10) rfl rfl Tryd.func10 (by kernel_rfl) rfl #[] rfl (by (try simp only [List.map_toArray, List.map_cons, List.map_nil]); first | done | rfl | (simp only [List.length_drop, List.length_take]; rfl)) ?_; (with_reducible refine (tabularylaw08_awake.calls k  true _ A3.out).mono ?_); rintro e w86 ⟨rfl, hb⟩; refine ⟨_, rfl, ?_⟩; have n0_ := Aside0.mk (below_step (by repeat (first | (with_reducible first | exact HB.out | apply below_alloc | apply pw_below_drewN | apply below_drew1) | exact HB.out)) hb); clear HB; have HB := n0_; clear n0_; (try clear hb); (try clear hb2); (try clear hk); (try clear hi)) | ((with_reducible refine gate_callee (f := 13) rfl ?_); refine goesL_ (some 14) rfl rfl Tryd.func13 (by kernel_rfl) rfl #[.string a0] rfl (by (try simp only [List.map_toArray, List.map_cons, List.map_nil]); first | done | rfl | (simp only [List.length_drop, List.length_take]; rfl)) ?_; (with_reducible refine (name_Check.calls a0 t189 t190 _ A5.out).mono ?_); rintro e w87 ⟨rfl, hb⟩; refine ⟨_, rfl, ?_⟩; have n0_ := Aside0.mk (below_step (by repeat (first | (with_reducible first | exact HB.out | apply below_alloc | apply pw_below_drewN | apply below_drew1) | exact HB.out)) hb); clear HB; have HB := n0_; clear n0_; (try clear hb); (try clear hb2); (try clear hk); (try clear hi)) | ((with_reducible refine gate_callee (f := 17) rfl ?_); refine goesL_ (some 19) rfl rfl Tryd.func17 (by kernel_rfl) rfl #[.string a0] rfl (by (try simp only [List.map_toArray, List.map_cons, List.map_nil]); first | done | rfl | (simp only [List.length_drop, List.length_take]; rfl)) ?_; (with_reducible refine (name_Split.calls k a0 t191 t192 t193 _ A6.out).mono ?_); rintro e w88 ⟨rfl, hb⟩; refine ⟨_, rfl, ?_⟩; have n0_ := Aside0.mk (below_step (by repeat (first | (with_reducible first | exact HB.out | apply below_alloc | apply pw_below_drewN | apply below_drew1) | exact HB.out)) hb); clear HB; have HB := n0_; clear n0_; (try clear hb); (try clear hb2); (try clear hk); (try clear hi); have p63 : 0 ≤ (a1 : Int) := of_decide_eq_true (by first | (with_reducible assumption) | assumption); have q63 : a1 < (a0.size : Int) := of_decide_eq_true (by first | (with_reducible assumption) | assumption); have hx63 := bt_at a0 a1; replace p63 := eq_true p63; replace q63 := eq_true q63))
                          go_ret
                          exact ⟨by first | rfl | (simp [errW_none, errW_some] <;> rfl) | (simp [*, errW_none, errW_some] <;> rfl), by repeat (first | (with_reducible first | exact HB.out | apply below_alloc | apply pw_below_drewN | apply below_drew1) | exact HB.out)⟩
                      · rw [if_neg c81] at H
                        have c81b0 : decide ((a0.size : Int) ≤ 100) = false := decide_eq_false c81
                        have c81b1 : decide (a0.size ≤ 100) = false := decide_eq_false (by omega)
                        clear c81
                        obtain rfl := Option.some.inj H
                        go_enter Tryd.func6, Tryd.ntmps6
                        go_wp2_with (first | ((with_reducible refine gate_callee (f := 10) rfl ?_); refine goesL_ (some 10) rfl rfl Tryd.func10 (by kernel_rfl) rfl #[] rfl (by (try simp only [List.map_toArray, List.map_cons, List.map_nil]); first | done | rfl | (simp only [List.length_drop, List.length_take]; rfl)) ?_; (with_reducible refine (tabularylaw08_awake.calls k  true _ A3.out).mono ?_); rintro e w89 ⟨rfl, hb⟩; refine ⟨_, rfl, ?_⟩; have n0_ := Aside0.mk (below_step (by repeat (first | (with_reducible first | exact HB.out | apply below_alloc | apply pw_below_drewN | apply below_drew1) | exact HB.out)) hb); clear HB; have HB := n0_; clear n0_; (try clear hb); (try clear hb2); (try clear hk); (try clear hi)) | ((with_reducible refine gate_callee (f := 13) rfl ?_); refine goesL_ (some 14) rfl rfl Tryd.func13 (by kernel_rfl) rfl #[.string a0] rfl (by (try simp only [List.map_toArray, List.map_cons, List.map_nil]); first | done | rfl | (simp only [List.length_drop, List.length_take]; rfl)) ?_; (with_reducible refine (name_Check.calls a0 t189 t190 _ A5.out).mono ?_); rintro e w90 ⟨rfl, hb⟩; refine ⟨_, rfl, ?_⟩; have n0_ := Aside0.mk (below_step (by repeat (first | (with_reducible first | exact HB.out | apply below_alloc | apply pw_below_drewN | apply below_drew1) | exact HB.out)) hb); clear HB; have HB := n0_; clear n0_; (try clear hb); (try clear hb2); (try clear hk); (try clear hi)) | ((with_reducible refine gate_callee (f := 17) rfl ?_); refine goesL_ (some 19) rfl rfl Tryd.func17 (by kernel_rfl) rfl #[.string a0] rfl (by (try simp only [List.map_toArray, List.map_cons, List.map_nil]); first | done | rfl | (simp only [List.length_drop, List.length_take]; rfl)) ?_; (with_reducible refine (name_Split.calls k a0 t191 t192 t193 _ A6.out).mono ?_); rintro e w91 ⟨rfl, hb⟩; refine ⟨_, rfl, ?_⟩; have n0_ := Aside0.mk (below_step (by repeat (first | (with_reducible first | exact HB.out | apply below_alloc | apply pw_below_drewN | apply below_drew1) | exact HB.out)) hb); clear HB; have HB := n0_; clear n0_; (try clear hb); (try clear hb2); (try clear hk); (try clear hi); have p63 : 0 ≤ (a1 : Int) := of_decide_eq_true (by first | (with_reducible assumption) | assumption); have q63 : a1 < (a0.size : Int) := of_decide_eq_true (by first | (with_reducible assumption) | assumption); have hx63 := bt_at a0 a1; replace p63 := eq_true p63; replace q63 := eq_true q63))
                        go_ret
                        exact ⟨by first | rfl | (simp [errW_none, errW_some] <;> rfl) | (simp [*, errW_none, errW_some] <;> rfl), by repeat (first | (with_reducible first | exact HB.out | apply below_alloc | apply pw_below_drewN | apply below_drew1) | exact HB.out)⟩
                · rw [if_neg c64] at H
                  have c64b0 : ((bt a0 a1) == 47) = false := beq_eq_false_iff_ne.mpr c64
                  have c64b1 : ((bt a0 a1) != 47) = true := bne_iff_ne.mpr c64
                  by_cases c92 : t191.toList = ([] : List UInt8)
                  · rw [if_pos c92] at H
                    have c92b0 : (t191.toList == ([] : List UInt8)) = true := beq_iff_eq.mpr c92
                    have c92b1 : (t191.toList != ([] : List UInt8)) = false := bne_eq_false_iff_eq.mpr c92
                    clear c92
                    obtain rfl := Option.some.inj H
                    go_enter Tryd.func6, Tryd.ntmps6
                    go_wp2_with (first | ((with_reducible refine gate_callee (f := 10) rfl ?_); refine goesL_ (some 10) rfl rfl Tryd.func10 (by kernel_rfl) rfl #[] rfl (by (try simp only [List.map_toArray, List.map_cons, List.map_nil]); first | done | rfl | (simp only [List.length_drop, List.length_take]; rfl)) ?_; (with_reducible refine (tabularylaw08_awake.calls k  true _ A3.out).mono ?_); rintro e w93 ⟨rfl, hb⟩; refine ⟨_, rfl, ?_⟩; have n0_ := Aside0.mk (below_step (by repeat (first | (with_reducible first | exact HB.out | apply below_alloc | apply pw_below_drewN | apply below_drew1) | exact HB.out)) hb); clear HB; have HB := n0_; clear n0_; (try clear hb); (try clear hb2); (try clear hk); (try clear hi)) | ((with_reducible refine gate_callee (f := 13) rfl ?_); refine goesL_ (some 14) rfl rfl Tryd.func13 (by kernel_rfl) rfl #[.string a0] rfl (by (try simp only [List.map_toArray, List.map_cons, List.map_nil]); first | done | rfl | (simp only [List.length_drop, List.length_take]; rfl)) ?_; (with_reducible refine (name_Check.calls a0 t189 t190 _ A5.out).mono ?_); rintro e w94 ⟨rfl, hb⟩; refine ⟨_, rfl, ?_⟩; have n0_ := Aside0.mk (below_step (by repeat (first | (with_reducible first | exact HB.out | apply below_alloc | apply pw_below_drewN | apply below_drew1) | exact HB.out)) hb); clear HB; have HB := n0_; clear n0_; (try clear hb); (try clear hb2); (try clear hk); (try clear hi)) | ((with_reducible refine gate_callee (f := 17) rfl ?_); refine goesL_ (some 19) rfl rfl Tryd.func17 (by kernel_rfl) rfl #[.string a0] rfl (by (try simp only [List.map_toArray, List.map_cons, List.map_nil]); first | done | rfl | (simp only [List.length_drop, List.length_take]; rfl)) ?_; (with_reducible refine (name_Split.calls k a0 t191 t192 t193 _ A6.out).mono ?_); rintro e w95 ⟨rfl, hb⟩; refine ⟨_, rfl, ?_⟩; have n0_ := Aside0.mk (below_step (by repeat (first | (with_reducible first | exact HB.out | apply below_alloc | apply pw_below_drewN | apply below_drew1) | exact HB.out)) hb); clear HB; have HB := n0_; clear n0_; (try clear hb); (try clear hb2); (try clear hk); (try clear hi); have p63 : 0 ≤ (a1 : Int) := of_decide_eq_true (by first | (with_reducible assumption) | assumption); have q63 : a1 < (a0.size : Int) := of_decide_eq_true (by first | (with_reducible assumption) | assumption); have hx63 := bt_at a0 a1; replace p63 := eq_true p63; replace q63 := eq_true q63))
                    go_ret
                    exact ⟨by first | rfl | (simp [errW_none, errW_some] <;> rfl) | (simp [*, errW_none, errW_some] <;> rfl), by repeat (first | (with_reducible first | exact HB.out | apply below_alloc | apply pw_below_drewN | apply below_drew1) | exact HB.out)⟩
                  · rw [if_neg c92] at H
                    have c92b0 : (t191.toList == ([] : List UInt8)) = false := beq_eq_false_iff_ne.mpr c92
                    have c92b1 : (t191.toList != ([] : List UInt8)) = true := bne_iff_ne.mpr c92
                    obtain rfl := Option.some.inj H
                    go_enter Tryd.func6, Tryd.ntmps6
                    go_wp2_with (first | ((with_reducible refine gate_callee (f := 10) rfl ?_); refine goesL_ (some 10) rfl rfl Tryd.func10 (by kernel_rfl) rfl #[] rfl (by (try simp only [List.map_toArray, List.map_cons, List.map_nil]); first | done | rfl | (simp only [List.length_drop, List.length_take]; rfl)) ?_; (with_reducible refine (tabularylaw08_awake.calls k  true _ A3.out).mono ?_); rintro e w96 ⟨rfl, hb⟩; refine ⟨_, rfl, ?_⟩; have n0_ := Aside0.mk (below_step (by repeat (first | (with_reducible first | exact HB.out | apply below_alloc | apply pw_below_drewN | apply below_drew1) | exact HB.out)) hb); clear HB; have HB := n0_; clear n0_; (try clear hb); (try clear hb2); (try clear hk); (try clear hi)) | ((with_reducible refine gate_callee (f := 13) rfl ?_); refine goesL_ (some 14) rfl rfl Tryd.func13 (by kernel_rfl) rfl #[.string a0] rfl (by (try simp only [List.map_toArray, List.map_cons, List.map_nil]); first | done | rfl | (simp only [List.length_drop, List.length_take]; rfl)) ?_; (with_reducible refine (name_Check.calls a0 t189 t190 _ A5.out).mono ?_); rintro e w97 ⟨rfl, hb⟩; refine ⟨_, rfl, ?_⟩; have n0_ := Aside0.mk (below_step (by repeat (first | (with_reducible first | exact HB.out | apply below_alloc | apply pw_below_drewN | apply below_drew1) | exact HB.out)) hb); clear HB; have HB := n0_; clear n0_; (try clear hb); (try clear hb2); (try clear hk); (try clear hi)) | ((with_reducible refine gate_callee (f := 17) rfl ?_); refine goesL_ (some 19) rfl rfl Tryd.func17 (by kernel_rfl) rfl #[.string a0] rfl (by (try simp only [List.map_toArray, List.map_cons, List.map_nil]); first | done | rfl | (simp only [List.length_drop, List.length_take]; rfl)) ?_; (with_reducible refine (name_Split.calls k a0 t191 t192 t193 _ A6.out).mono ?_); rintro e w98 ⟨rfl, hb⟩; refine ⟨_, rfl, ?_⟩; have n0_ := Aside0.mk (below_step (by repeat (first | (with_reducible first | exact HB.out | apply below_alloc | apply pw_below_drewN | apply below_drew1) | exact HB.out)) hb); clear HB; have HB := n0_; clear n0_; (try clear hb); (try clear hb2); (try clear hk); (try clear hi); have p63 : 0 ≤ (a1 : Int) := of_decide_eq_true (by first | (with_reducible assumption) | assumption); have q63 : a1 < (a0.size : Int) := of_decide_eq_true (by first | (with_reducible assumption) | assumption); have hx63 := bt_at a0 a1; replace p63 := eq_true p63; replace q63 := eq_true q63))
                    go_ret
                    exact ⟨by first | rfl | (simp [errW_none, errW_some] <;> rfl) | (simp [*, errW_none, errW_some] <;> rfl), by repeat (first | (with_reducible first | exact HB.out | apply below_alloc | apply pw_below_drewN | apply below_drew1) | exact HB.out)⟩
              · rw [if_neg c62] at H
                exact absurd H (by simp)
            · rw [if_neg c61] at H
              exact absurd H (by simp)
    · rw [if_neg c7] at H
      have c7b0 : (t190 == 0) = false := beq_eq_false_iff_ne.mpr c7
      have c7b1 : (t190 != 0) = true := bne_iff_ne.mpr c7
      by_cases c99 : t193 = t190
      · rw [if_pos c99] at H
        have c99b0 : (t193 == t190) = true := beq_iff_eq.mpr c99
        have c99b1 : (t193 != t190) = false := bne_eq_false_iff_eq.mpr c99
        clear c99
        by_cases c100 : t191.toList = ([] : List UInt8)
        · rw [if_pos c100] at H
          have c100b0 : (t191.toList == ([] : List UInt8)) = true := beq_iff_eq.mpr c100
          have c100b1 : (t191.toList != ([] : List UInt8)) = false := bne_eq_false_iff_eq.mpr c100
          clear c100
          obtain rfl := Option.some.inj H
          go_enter Tryd.func6, Tryd.ntmps6
          go_wp2_with (first | ((with_reducible refine gate_callee (f := 10) rfl ?_); refine goesL_ (some 10) rfl rfl Tryd.func10 (by kernel_rfl) rfl #[] rfl (by (try simp only [List.map_toArray, List.map_cons, List.map_nil]); first | done | rfl | (simp only [List.length_drop, List.length_take]; rfl)) ?_; (with_reducible refine (tabularylaw08_awake.calls k  true _ A3.out).mono ?_); rintro e w101 ⟨rfl, hb⟩; refine ⟨_, rfl, ?_⟩; have n0_ := Aside0.mk (below_step (by repeat (first | (with_reducible first | exact HB.out | apply below_alloc | apply pw_below_drewN | apply below_drew1) | exact HB.out)) hb); clear HB; have HB := n0_; clear n0_; (try clear hb); (try clear hb2); (try clear hk); (try clear hi)) | ((with_reducible refine gate_callee (f := 13) rfl ?_); refine goesL_ (some 14) rfl rfl Tryd.func13 (by kernel_rfl) rfl #[.string a0] rfl (by (try simp only [List.map_toArray, List.map_cons, List.map_nil]); first | done | rfl | (simp only [List.length_drop, List.length_take]; rfl)) ?_; (with_reducible refine (name_Check.calls a0 t189 t190 _ A5.out).mono ?_); rintro e w102 ⟨rfl, hb⟩; refine ⟨_, rfl, ?_⟩; have n0_ := Aside0.mk (below_step (by repeat (first | (with_reducible first | exact HB.out | apply below_alloc | apply pw_below_drewN | apply below_drew1) | exact HB.out)) hb); clear HB; have HB := n0_; clear n0_; (try clear hb); (try clear hb2); (try clear hk); (try clear hi)) | ((with_reducible refine gate_callee (f := 17) rfl ?_); refine goesL_ (some 19) rfl rfl Tryd.func17 (by kernel_rfl) rfl #[.string a0] rfl (by (try simp only [List.map_toArray, List.map_cons, List.map_nil]); first | done | rfl | (simp only [List.length_drop, List.length_take]; rfl)) ?_; (with_reducible refine (name_Split.calls k a0 t191 t192 t193 _ A6.out).mono ?_); rintro e w103 ⟨rfl, hb⟩; refine ⟨_, rfl, ?_⟩; have n0_ := Aside0.mk (below_step (by repeat (first | (with_reducible first | exact HB.out | apply below_alloc | apply pw_below_drewN | apply below_drew1) | exact HB.out)) hb); clear HB; have HB := n0_; clear n0_; (try clear hb); (try clear hb2); (try clear hk); (try clear hi)))
          go_ret
          exact ⟨by first | rfl | (simp [errW_none, errW_some] <;> rfl) | (simp [*, errW_none, errW_some] <;> rfl), by repeat (first | (with_reducible first | exact HB.out | apply below_alloc | apply pw_below_drewN | apply below_drew1) | exact HB.out)⟩
        · rw [if_neg c100] at H
          have c100b0 : (t191.toList == ([] : List UInt8)) = false := beq_eq_false_iff_ne.mpr c100
          have c100b1 : (t191.toList != ([] : List UInt8)) = true := bne_iff_ne.mpr c100
          obtain rfl := Option.some.inj H
          go_enter Tryd.func6, Tryd.ntmps6
          go_wp2_with (first | ((with_reducible refine gate_callee (f := 10) rfl ?_); refine goesL_ (some 10) rfl rfl Tryd.func10 (by kernel_rfl) rfl #[] rfl (by (try simp only [List.map_toArray, List.map_cons, List.map_nil]); first | done | rfl | (simp only [List.length_drop, List.length_take]; rfl)) ?_; (with_reducible refine (tabularylaw08_awake.calls k  true _ A3.out).mono ?_); rintro e w104 ⟨rfl, hb⟩; refine ⟨_, rfl, ?_⟩; have n0_ := Aside0.mk (below_step (by repeat (first | (with_reducible first | exact HB.out | apply below_alloc | apply pw_below_drewN | apply below_drew1) | exact HB.out)) hb); clear HB; have HB := n0_; clear n0_; (try clear hb); (try clear hb2); (try clear hk); (try clear hi)) | ((with_reducible refine gate_callee (f := 13) rfl ?_); refine goesL_ (some 14) rfl rfl Tryd.func13 (by kernel_rfl) rfl #[.string a0] rfl (by (try simp only [List.map_toArray, List.map_cons, List.map_nil]); first | done | rfl | (simp only [List.length_drop, List.length_take]; rfl)) ?_; (with_reducible refine (name_Check.calls a0 t189 t190 _ A5.out).mono ?_); rintro e w105 ⟨rfl, hb⟩; refine ⟨_, rfl, ?_⟩; have n0_ := Aside0.mk (below_step (by repeat (first | (with_reducible first | exact HB.out | apply below_alloc | apply pw_below_drewN | apply below_drew1) | exact HB.out)) hb); clear HB; have HB := n0_; clear n0_; (try clear hb); (try clear hb2); (try clear hk); (try clear hi)) | ((with_reducible refine gate_callee (f := 17) rfl ?_); refine goesL_ (some 19) rfl rfl Tryd.func17 (by kernel_rfl) rfl #[.string a0] rfl (by (try simp only [List.map_toArray, List.map_cons, List.map_nil]); first | done | rfl | (simp only [List.length_drop, List.length_take]; rfl)) ?_; (with_reducible refine (name_Split.calls k a0 t191 t192 t193 _ A6.out).mono ?_); rintro e w106 ⟨rfl, hb⟩; refine ⟨_, rfl, ?_⟩; have n0_ := Aside0.mk (below_step (by repeat (first | (with_reducible first | exact HB.out | apply below_alloc | apply pw_below_drewN | apply below_drew1) | exact HB.out)) hb); clear HB; have HB := n0_; clear n0_; (try clear hb); (try clear hb2); (try clear hk); (try clear hi)))
          go_ret
          exact ⟨by first | rfl | (simp [errW_none, errW_some] <;> rfl) | (simp [*, errW_none, errW_some] <;> rfl), by repeat (first | (with_reducible first | exact HB.out | apply below_alloc | apply pw_below_drewN | apply below_drew1) | exact HB.out)⟩
      · rw [if_neg c99] at H
        have c99b0 : (t193 == t190) = false := beq_eq_false_iff_ne.mpr c99
        have c99b1 : (t193 != t190) = true := bne_iff_ne.mpr c99
        obtain rfl := Option.some.inj H
        go_enter Tryd.func6, Tryd.ntmps6
        go_wp2_with (first | ((with_reducible refine gate_callee (f := 10) rfl ?_); refine goesL_ (some 10) rfl rfl Tryd.func10 (by kernel_rfl) rfl #[] rfl (by (try simp only [List.map_toArray, List.map_cons, List.map_nil]); first | done | rfl | (simp only [List.length_drop, List.length_take]; rfl)) ?_; (with_reducible refine (tabularylaw08_awake.calls k  true _ A3.out).mono ?_); rintro e w107 ⟨rfl, hb⟩; refine ⟨_, rfl, ?_⟩; have n0_ := Aside0.mk (below_step (by repeat (first | (with_reducible first | exact HB.out | apply below_alloc | apply pw_below_drewN | apply below_drew1) | exact HB.out)) hb); clear HB; have HB := n0_; clear n0_; (try clear hb); (try clear hb2); (try clear hk); (try clear hi)) | ((with_reducible refine gate_callee (f := 13) rfl ?_); refine goesL_ (some 14) rfl rfl Tryd.func13 (by kernel_rfl) rfl #[.string a0] rfl (by (try simp only [List.map_toArray, List.map_cons, List.map_nil]); first | done | rfl | (simp only [List.length_drop, List.length_take]; rfl)) ?_; (with_reducible refine (name_Check.calls a0 t189 t190 _ A5.out).mono ?_); rintro e w108 ⟨rfl, hb⟩; refine ⟨_, rfl, ?_⟩; have n0_ := Aside0.mk (below_step (by repeat (first | (with_reducible first | exact HB.out | apply below_alloc | apply pw_below_drewN | apply below_drew1) | exact HB.out)) hb); clear HB; have HB := n0_; clear n0_; (try clear hb); (try clear hb2); (try clear hk); (try clear hi)) | ((with_reducible refine gate_callee (f := 17) rfl ?_); refine goesL_ (some 19) rfl rfl Tryd.func17 (by kernel_rfl) rfl #[.string a0] rfl (by (try simp only [List.map_toArray, List.map_cons, List.map_nil]); first | done | rfl | (simp only [List.length_drop, List.length_take]; rfl)) ?_; (with_reducible refine (name_Split.calls k a0 t191 t192 t193 _ A6.out).mono ?_); rintro e w109 ⟨rfl, hb⟩; refine ⟨_, rfl, ?_⟩; have n0_ := Aside0.mk (below_step (by repeat (first | (with_reducible first | exact HB.out | apply below_alloc | apply pw_below_drewN | apply below_drew1) | exact HB.out)) hb); clear HB; have HB := n0_; clear n0_; (try clear hb); (try clear hb2); (try clear hk); (try clear hi)))
        go_ret
        exact ⟨by first | rfl | (simp [errW_none, errW_some] <;> rfl) | (simp [*, errW_none, errW_some] <;> rfl), by repeat (first | (with_reducible first | exact HB.out | apply below_alloc | apply pw_below_drewN | apply below_drew1) | exact HB.out)⟩
  · replace c4 := Bool.eq_false_iff.mpr c4
    subst c4
    have H1 : (some false) = some r := by rw [if_neg (show ¬ (false = true) by decide)] at H; exact H
    clear H
    have H := H1
    clear H1
    obtain rfl := Option.some.inj H
    go_enter Tryd.func6, Tryd.ntmps6
    go_wp2_with (first | ((with_reducible refine gate_callee (f := 10) rfl ?_); refine goesL_ (some 10) rfl rfl Tryd.func10 (by kernel_rfl) rfl #[] rfl (by (try simp only [List.map_toArray, List.map_cons, List.map_nil]); first | done | rfl | (simp only [List.length_drop, List.length_take]; rfl)) ?_; (with_reducible refine (tabularylaw08_awake.calls k  false _ A3.out).mono ?_); rintro e w110 ⟨rfl, hb⟩; refine ⟨_, rfl, ?_⟩; have n0_ := Aside0.mk (below_step (by repeat (first | (with_reducible first | exact HB.out | apply below_alloc | apply pw_below_drewN | apply below_drew1) | exact HB.out)) hb); clear HB; have HB := n0_; clear n0_; (try clear hb); (try clear hb2); (try clear hk); (try clear hi)))
    go_ret
    exact ⟨by first | rfl | (simp [errW_none, errW_some] <;> rfl) | (simp [*, errW_none, errW_some] <;> rfl), by repeat (first | (with_reducible first | exact HB.out | apply below_alloc | apply pw_below_drewN | apply below_drew1) | exact HB.out)⟩

end Go.Proofs.YtnceocjgcdcpgaaDoor.X
