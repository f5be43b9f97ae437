/- Acts, and lists of acts, laid open. -/
import Derived.Test.YtojpmihgpjmobaaOp2
import Derived.Test.YtojpmihgpjmobaaDkR
namespace Go.Proofs.Ytojpmihgpjmobaa.X
open Go Go.RowKit Go.Maps Go.Shelf Go.Proofs.Ytojpmihgpjmobaa Go.Proofs.YtojpmihgpjmobaaW.PrintWords Go.Proofs.Ytojpmihgpjmobaa.Op2
set_option linter.unusedVariables false
set_option linter.unusedSimpArgs false

/-- What is known of an act that was read. -/
def GoodAct (x : SAct) : Prop := (Lit.int .i64 x.f0).wf = true ∧ (Lit.int .i64 x.f1).wf = true ∧ (Lit.int .i64 x.f2).wf = true ∧ (x.f3.length * 1 ≤ 140737488351232 ∧ x.f3.length ≤ 9223372036854775807 ∧ ∀ n ∈ x.f3, (Lit.int .u8 n).wf = true) ∧ (x.f4.length * 8 ≤ 140737488351232 ∧ x.f4.length ≤ 9223372036854775807 ∧ ∀ n ∈ x.f4, (Lit.int .i64 n).wf = true) ∧ (Lit.int .u8 x.f5).wf = true
theorem sixth {α : Type} {l : List α} (h : l.length = 6) : ∃ a b c d e f, l = [a, b, c, d, e, f] := by
  match l, h with
  | [a, b, c, d, e, f], _ => exact ⟨a, b, c, d, e, f, rfl⟩
theorem opens_act {H : Type} {enc : TypeId × Value → H} {W : World} {base : Nat} {spare : Nat → Bool} {held : Bool} : Opens enc Try.prog W base spare held 32 kAct GoodAct := by
  intro fuel cs x h hw
  obtain ⟨xs, n, _, rfl, hl, hx, hel⟩ := DataW.trod_struct Try.underlying32 h
  have hc : Try.prog.cellsOf 32 = 6 := by kernel_rfl
  rw [hc] at hl
  obtain ⟨u0, u1, u2, u3, u4, u5, rfl⟩ := sixth hl
  obtain ⟨y0, y1, y2, y3, y4, y5, rfl⟩ := sixth (show xs.length = 6 from hx)
  simp only [DataW.weights, Try.underlying32] at hw
  have c0 : Try.prog.cellsOf 3 = 1 := by kernel_rfl
  have c1 : Try.prog.cellsOf 5 = 1 := by kernel_rfl
  have c2 : Try.prog.cellsOf 23 = 1 := by kernel_rfl
  have c4 : Try.prog.cellsOf 30 = 1 := by kernel_rfl
  have e0 : DataW.trod enc Try.prog W base spare held n 3 (([u0, u1, u2, u3, u4, u5].drop 0).take (Try.prog.cellsOf 3)) = some y0 := hel 0 _ rfl
  rw [c0] at e0
  have e1 : DataW.trod enc Try.prog W base spare held n 3 (([u0, u1, u2, u3, u4, u5].drop 1).take (Try.prog.cellsOf 3)) = some y1 := hel 1 _ rfl
  rw [c0] at e1
  have e2 : DataW.trod enc Try.prog W base spare held n 3 (([u0, u1, u2, u3, u4, u5].drop 2).take (Try.prog.cellsOf 3)) = some y2 := hel 2 _ rfl
  rw [c0] at e2
  have e3 : DataW.trod enc Try.prog W base spare held n 30 (([u0, u1, u2, u3, u4, u5].drop 3).take (Try.prog.cellsOf 30)) = some y3 := hel 3 _ rfl
  rw [c4] at e3
  have e4 : DataW.trod enc Try.prog W base spare held n 23 (([u0, u1, u2, u3, u4, u5].drop 4).take (Try.prog.cellsOf 23)) = some y4 := hel 4 _ rfl
  rw [c2] at e4
  have e5 : DataW.trod enc Try.prog W base spare held n 5 (([u0, u1, u2, u3, u4, u5].drop 5).take (Try.prog.cellsOf 5)) = some y5 := hel 5 _ rfl
  rw [c1] at e5
  have wt : ∀ (j : Nat) (t : TypeId) (y : DataW H × List MemPlace), ((#[_, _, _, _, _, _] : Array Field).toList.map (·.type))[j]? = some t → [y0, y1, y2, y3, y4, y5][j]? = some y → ∀ m ∈ y.1.weights Try.prog t, m ≤ reachBytes :=
    fun j t y h1 h2 m hm => hw m (weightsEach_mem h1 (by rw [List.getElem?_map, h2]; rfl) hm)
  obtain ⟨z0, k0, g0⟩ := opens_int Try.underlying3 n _ _ e0 (wt 0 _ _ rfl rfl)
  obtain ⟨z1, k1, g1⟩ := opens_int Try.underlying3 n _ _ e1 (wt 1 _ _ rfl rfl)
  obtain ⟨z2, k2, g2⟩ := opens_int Try.underlying3 n _ _ e2 (wt 2 _ _ rfl rfl)
  obtain ⟨z3, k3, g3⟩ := opens_slice (b := 1) Try.underlying30 (by kernel_rfl) (by kernel_rfl) (opens_int Try.underlying5) n _ _ e3 (wt 3 _ _ rfl rfl)
  obtain ⟨z4, k4, g4⟩ := opens_slice (b := 8) Try.underlying23 (by kernel_rfl) (by kernel_rfl) (opens_int Try.underlying3) n _ _ e4 (wt 4 _ _ rfl rfl)
  obtain ⟨z5, k5, g5⟩ := opens_int Try.underlying5 n _ _ e5 (wt 5 _ _ rfl rfl)
  exact ⟨⟨z0, z1, z2, z3, z4, z5⟩, ⟨_, _, rfl, k0, ⟨_, _, rfl, k1, ⟨_, _, rfl, k2, ⟨_, _, rfl, k3, ⟨_, _, rfl, k4, k5⟩⟩⟩⟩⟩, g0, g1, g2, g3, g4, g5⟩
theorem opens_acts {H : Type} {enc : TypeId × Value → H} {W : World} {base : Nat} {spare : Nat → Bool} {held : Bool} : Opens enc Try.prog W base spare held 22 (Kd.slice 32 kAct) (fun xs => xs.length * 80 ≤ 140737488351232 ∧ xs.length ≤ 9223372036854775807 ∧ ∀ x ∈ xs, GoodAct x) :=
  opens_slice Try.underlying22 (by kernel_rfl) (by kernel_rfl) opens_act
theorem opens_bytesL {H : Type} {enc : TypeId × Value → H} {W : World} {base : Nat} {spare : Nat → Bool} {held : Bool} : Opens enc Try.prog W base spare held 30 (Kd.slice 5 (Kd.int .u8)) (fun xs => xs.length * 1 ≤ 140737488351232 ∧ xs.length ≤ 9223372036854775807 ∧ ∀ x ∈ xs, (Lit.int .u8 x).wf = true) :=
  opens_slice Try.underlying30 (by kernel_rfl) (by kernel_rfl) (opens_int Try.underlying5)
theorem opens_intsL {H : Type} {enc : TypeId × Value → H} {W : World} {base : Nat} {spare : Nat → Bool} {held : Bool} : Opens enc Try.prog W base spare held 23 (Kd.slice 3 (Kd.int .i64)) (fun xs => xs.length * 8 ≤ 140737488351232 ∧ xs.length ≤ 9223372036854775807 ∧ ∀ x ∈ xs, (Lit.int .i64 x).wf = true) :=
  opens_slice Try.underlying23 (by kernel_rfl) (by kernel_rfl) (opens_int Try.underlying3)
theorem opens_boolsL {H : Type} {enc : TypeId × Value → H} {W : World} {base : Nat} {spare : Nat → Bool} {held : Bool} : Opens enc Try.prog W base spare held 40 (Kd.slice 4 Kd.bool) (fun xs => xs.length * 1 ≤ 140737488351232 ∧ xs.length ≤ 9223372036854775807 ∧ ∀ x ∈ xs, True) :=
  opens_slice Try.underlying40 (by kernel_rfl) (by kernel_rfl) (opens_bool Try.underlying4)
end Go.Proofs.Ytojpmihgpjmobaa.X
