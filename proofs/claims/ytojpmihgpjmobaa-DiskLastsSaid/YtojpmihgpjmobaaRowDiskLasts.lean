/- The row of the law tabulary/tabularylaw14.DiskLasts: for every input the call returns true, and each argument reads behind the call as it read before. -/
import Derived.Test.YtojpmihgpjmobaaRows
import Derived.Test.YtojpmihgpjmobaaDlA
import Derived.WalkKit
import Derived.ProofKit
import Derived.OpenShut
import Derived.ShutString
import Derived.ChangeOld
import Derived.Below
import Derived.SizedLaws
import Derived.JoinedCond
import Derived.Deep.CondSized
namespace Go.Proofs.Ytojpmihgpjmobaa.diskLastsRow
open Go.ChangeShapes Go.WideShapes Go.ChangeAt Go.RowKit
open Go.ChangeMaps (open_string shut_string)
set_option linter.unusedVariables false
set_option linter.unusedSimpArgs false
theorem own : ownKnob Try.prog.godebug = none := by kernel_rfl
open Go.Proofs.Ytojpmihgpjmobaa Go.Proofs.YtojpmihgpjmobaaW.PrintWords
theorem laidOut : laidOutB Try.prog = true := by kernel_rfl
theorem walk (A0 : Option Addr) (c0 : Nat) (a0 : List X.SAct) (A1 : Option Addr) (c1 : Nat) (a1 : List X.SAct) (A2 : Option Addr) (c2 : Nat) (a2 : List Int) (w : World) (h0 : Kd.C X.kAct w A0 a0.length a0) (hc0 : a0.length ≤ c0) (hg0 : a0.length * 80 ≤ 140737488351232 ∧ a0.length ≤ 9223372036854775807 ∧ ∀ x ∈ a0, X.GoodAct x) (h1 : Kd.C X.kAct w A1 a1.length a1) (hc1 : a1.length ≤ c1) (hg1 : a1.length * 80 ≤ 140737488351232 ∧ a1.length ≤ 9223372036854775807 ∧ ∀ x ∈ a1, X.GoodAct x) (h2 : Kd.C (Kd.int .i64) w A2 a2.length a2) (hc2 : a2.length ≤ c2) (hg2 : a2.length * 8 ≤ 140737488351232 ∧ a2.length ≤ 9223372036854775807 ∧ ∀ x ∈ a2, (Lit.int .i64 x).wf = true) : Calls Try.prog 3 #[.slice A0 a0.length c0, .slice A1 a1.length c1, .slice A2 a2.length c2] w fun e w' => e = .returned (.bool true) ∧ Below w.heap.size w w' := by
  have q0 := hg0
  have q1 := hg1
  have q2 := hg2
  exact X.diskLasts_any w A0 c0 a0 A1 c1 a1 A2 c2 a2 h0 h1 h2 (by have := q0.1; omega) (by have := q1.1; omega) (by have := q2.1; omega) q0.2.2 q1.2.2 (fun x hx => by have h := q2.2.2 x hx; have e : IntKind.i64.min = -9223372036854775808 := rfl; simp [Lit.wf] at h; omega)
set_option maxRecDepth 100000 in
theorem contract (H : Type) (enc : TypeId × Value → H) (W : World) (base : Nat) (args : Array Value) (ds gs : List (DataW H)) (before : List MemPlace)
    (hval : ∀ (j : Nat) t v, Try.f3.params[j]? = some t → args[j]? = some v → Value.okWide Try.prog W .any base t v)
    (hW : DataW.Whole enc Try.prog Try.f3.params.toList Rows.diskLastsSpec.vars false W args.toList ds gs before) (hsz0 : (DataW.weightsEach Try.prog (Try.f3.params.toList ++ Rows.diskLastsSpec.plain.varTypes Try.prog) (ds ++ gs)).all (· ≤ reachBytes) = true) :
    Calls Try.prog 3 args W fun e W' => ∃ v, e = .returned v ∧ Rows.diskLastsSpec.post enc Try.prog Try.f3 false true false false W args v W' := by
  have hW' := hW
  obtain ⟨p, q, hA0, hV, rfl, hfz, hnd⟩ := hW
  have hA : DataW.TrodAll enc Try.prog W 0 (fun _ => true) true Try.f3.params.toList args.toList ds p := hA0
  have hsz := hsz0
  rw [Try.params3] at hA hval hsz
  obtain ⟨v0, vs0, d0, ds0, p0, q0, hargs, rfl, rfl, h0, r0⟩ := trodAll_cons hA
  obtain ⟨v1, vs1, d1, ds1, p1, q1, rfl, rfl, rfl, h1, r1⟩ := trodAll_cons r0
  obtain ⟨v2, vs2, d2, ds2, p2, q2, rfl, rfl, rfl, h2, r2⟩ := trodAll_cons r1
  obtain ⟨rfl, rfl, rfl⟩ := trodAll_nil r2
  obtain rfl : args = #[v0, v1, v2] := by cases args; simp_all
  obtain ⟨rfl, rfl⟩ := trodVars_none hV
  have k0 := h0
  have lt0 : ∀ x ∈ p0, x.block < W.heap.size := by obtain ⟨m, hm⟩ := k0; exact DataW.trod_lt m _ _ _ hm
  obtain ⟨va0, vl0, vc0, rfl⟩ := okWide_slice Try.underlying22 (hval 0 22 v0 rfl rfl)
  obtain ⟨m0, hm0⟩ := h0
  obtain ⟨a0, hK0, w0⟩ := X.opens_acts m0 _ _ hm0 (fun n hn => of_decide_eq_true (List.all_eq_true.1 hsz n (DataW.weights_mem_each (j := 0) rfl rfl n hn)))
  obtain ⟨A0, c0, he0, wc0, wK0⟩ := hK0
  obtain ⟨ea0, el0, ec0⟩ : va0 = A0 ∧ vl0 = a0.length ∧ vc0 = c0 := by simpa [Value.cells] using he0
  obtain rfl : A0 = va0 := ea0.symm
  obtain rfl : a0.length = vl0 := el0.symm
  obtain rfl : c0 = vc0 := ec0.symm
  have k1 := h1
  have lt1 : ∀ x ∈ p1, x.block < W.heap.size := by obtain ⟨m, hm⟩ := k1; exact DataW.trod_lt m _ _ _ hm
  obtain ⟨va1, vl1, vc1, rfl⟩ := okWide_slice Try.underlying22 (hval 1 22 v1 rfl rfl)
  obtain ⟨m1, hm1⟩ := h1
  obtain ⟨a1, hK1, w1⟩ := X.opens_acts m1 _ _ hm1 (fun n hn => of_decide_eq_true (List.all_eq_true.1 hsz n (DataW.weights_mem_each (j := 1) rfl rfl n hn)))
  obtain ⟨A1, c1, he1, wc1, wK1⟩ := hK1
  obtain ⟨ea1, el1, ec1⟩ : va1 = A1 ∧ vl1 = a1.length ∧ vc1 = c1 := by simpa [Value.cells] using he1
  obtain rfl : A1 = va1 := ea1.symm
  obtain rfl : a1.length = vl1 := el1.symm
  obtain rfl : c1 = vc1 := ec1.symm
  have k2 := h2
  have lt2 : ∀ x ∈ p2, x.block < W.heap.size := by obtain ⟨m, hm⟩ := k2; exact DataW.trod_lt m _ _ _ hm
  obtain ⟨va2, vl2, vc2, rfl⟩ := okWide_slice Try.underlying23 (hval 2 23 v2 rfl rfl)
  obtain ⟨m2, hm2⟩ := h2
  obtain ⟨a2, hK2, w2⟩ := (Op2.opens_slice (d := Kd.int .i64) (b := 8) Try.underlying23 (by kernel_rfl) (by kernel_rfl) (Op2.opens_int Try.underlying3)) m2 _ _ hm2 (fun n hn => of_decide_eq_true (List.all_eq_true.1 hsz n (DataW.weights_mem_each (j := 2) rfl rfl n hn)))
  obtain ⟨A2, c2, he2, wc2, wK2⟩ := hK2
  obtain ⟨ea2, el2, ec2⟩ : va2 = A2 ∧ vl2 = a2.length ∧ vc2 = c2 := by simpa [Value.cells] using he2
  obtain rfl : A2 = va2 := ea2.symm
  obtain rfl : a2.length = vl2 := el2.symm
  obtain rfl : c2 = vc2 := ec2.symm
  clear hA0
  refine (walk A0 c0 a0 A1 c1 a1 A2 c2 a2 W wK0 wc0 w0 wK1 wc1 w1 wK2 wc2 w2).mono fun e W' ⟨he, bel⟩ => ?_
  subst he
  exact ⟨_, rfl, _, _, _, [], _, [], hW', trodAll_mk1 (shut_bool Try.underlying4 _), (trodAll_cons_mk (Below.trod laidOut (by kernel_rfl) (of_decide_eq_true (by kernel_rfl)) k0 bel lt0) (trodAll_cons_mk (Below.trod laidOut (by kernel_rfl) (of_decide_eq_true (by kernel_rfl)) k1 bel lt1) (trodAll_cons_mk (Below.trod laidOut (by kernel_rfl) (of_decide_eq_true (by kernel_rfl)) k2 bel lt2) trodAll_mk0))), rfl, bel.frame _, fun h => by cases h⟩
set_option maxRecDepth 100000 in
theorem lifted (os : Os) (started : os.Started) (H : Type) (enc : TypeId × Value → H) :
    ReturnsInHanded {} Try.checked os 3 .any (Rows.diskLastsSpec.pre6 enc Try.prog Try.f3 Rows.diskLastsRow.domain false) (Rows.diskLastsSpec.post enc Try.prog Try.f3 false true false false) := by
  refine returnsInHanded_of_change_sized (C := Try.checked) own started (by kernel_rfl) Try.func3
    (ChangeSpec.witness6 (enc := enc) (C := Try.checked) false ⟨#[], #[.slice none 0 0, .slice none 0 0, .slice none 0 0], []⟩ 8 (by kernel_rfl) (by kernel_rfl) (by kernel_rfl) (by kernel_rfl)) ?_
  intro W base args ds gs before hval hW _ hsz0 _
  exact contract H enc W base args ds gs before hval hW hsz0
theorem proved : Rows.DiskLastsSaid :=
  OpenClaim.holds_of_wide 3 Try.f3 rfl rfl rfl rfl rfl rfl rfl ⟨rfl, rfl, rfl, rfl, rfl⟩ rfl rfl rfl rfl rfl (by kernel_rfl) Try.func3 (by kernel_rfl)
    (of_decide_eq_true (by kernel_rfl)) (by unfold Func.isWrapper; first | (rw [if_pos (by decide +kernel)]; kernel_rfl) | (rw [if_neg (by decide +kernel)]; exact ⟨rfl, rfl⟩))
    (fun os started H enc _ => lifted os started H enc)
end Go.Proofs.Ytojpmihgpjmobaa.diskLastsRow
namespace Go.Proofs.Ytojpmihgpjmobaa
/-- The row, under a short name, for the claim. -/
theorem diskLasts_holds : Rows.DiskLastsSaid := diskLastsRow.proved
#print axioms diskLasts_holds
end Go.Proofs.Ytojpmihgpjmobaa
