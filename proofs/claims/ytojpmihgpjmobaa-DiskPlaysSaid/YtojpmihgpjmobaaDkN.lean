/- The disk: Restart. -/
import Derived.Test.YtojpmihgpjmobaaDkM
import Derived.Deep.RegionHeld3
import Derived.Deep.DeepCutAuto
namespace Go.Proofs.Ytojpmihgpjmobaa.X
open Go Go.RowKit Go.Maps Go.Shelf Go.Proofs.Ytojpmihgpjmobaa Go.Proofs.YtojpmihgpjmobaaW.PrintWords Go.Proofs.YtojpmihgpjmobaaW.PrintLast Go.Proofs.YtojpmihgpjmobaaW.PrintMore
set_option linter.unusedVariables false
set_option linter.unusedSimpArgs false

/-- Keys that are read, in order. -/
def KeysAt (W : World) (v : Value) (ks : List Nat) : Prop := (ks = [] ∧ ∃ A G, v = .slice A 0 G) ∨ ∃ g G cur, v = .slice (some ⟨g, 0, none⟩) ks.length G ∧ W.heap[g]? = some (.cells cur 3 (0, 0)) ∧ ∀ (i k : Nat), ks[i]? = some k → cur[i]? = some (.int .i64 (k : Int))
/-- What slices.Sorted(maps.Keys(m)) tells of a disk's map. -/
def SortTells : Prop := ∀ (W : World) (p lb mb : Nat) (D : DataW Unit) (wb : Nat → Nat) (s : DS), Hold W p lb mb D wb s →
  Calls Try.prog 32 #[.func (.func 43) #[] #[.pointer (some ⟨W.heap.size, 0, none⟩)]] (W.alloc (.cells #[.map (some mb)] 55)) fun e w' => (∃ v, e = .returned v ∧ KeysAt w' v s.keys) ∧ Below W.heap.size W w'
theorem keys_any (mb : Option Nat) (W : World) : Calls Try.prog 33 #[.map mb] W fun e w' => e = .returned (.func (.func 43) #[] #[.pointer (some ⟨W.heap.size, 0, none⟩)]) ∧ W.alloc (.cells #[.map mb] 55) = w' := by
  go_enter Try.func33, Try.ntmps33
  go_wp2
  go_ret
  exact ⟨rfl, rfl⟩
/-- m[k], without ok. -/
theorem look1 {W : World} {p lb mb : Nat} {D : DataW Unit} {wb : Nat → Nat} {s : DS} (h : Hold W p lb mb D wb s) (k : Nat) (hk : k < 65537) {f : Nat → Int} (hw : s.wt k = some f) :
    ∃ c, 64 ≤ c ∧ By W (some ⟨wb k, 0, none⟩) 64 f ∧ (Instr.lookup 55 (.map (some mb)) (.int .i64 (k : Int)) false).run Try.prog W = .ok (.slice (some ⟨wb k, 0, none⟩) 64 c) W := by
  obtain ⟨v, ps, hrun, hv⟩ := h.map.lookup (t := 55) (int_keyed Try.underlying3) Try.underlying55 (zero_bytes W) (zd := .nil) (zp := []) rfl (key_at k hk)
  obtain ⟨q1, cur, q2, q3⟩ := h.val k f hw
  rw [q1] at hv
  obtain ⟨c, rfl, hc⟩ := slR_inv hv
  refine ⟨c, hc, .inr ⟨_, rfl, fun i hi => ?_⟩, hrun⟩
  rw [Addr.add_lit, Nat.zero_add]
  exact (blk_cell q2 i).trans (q3 i hi)
theorem DS.rest_zero (s : DS) (fates : List Int) : s.rest fates 0 = s := by
  unfold DS.rest
  have e1 : (fun j => if s.idx (j / 64) < 0 then s.left fates j else s.la j) = s.la := funext fun j => if_neg (by omega)
  have e2 : (fun k => if s.idx k < 0 then none else s.wt k) = s.wt := funext fun k => if_neg (by omega)
  rw [e1, e2]
/-- One sector more is torn. -/
theorem DS.rest_next {s : DS} {fates : List Int} {i k : Nat} (hk : (s.wt k).isSome = true) (hi : s.idx k = i) : s.rest fates (i + 1) = { s.rest fates i with la := fun j => if j / 64 = k then s.left fates j else (s.rest fates i).la j, wt := fun k' => if k' = k then none else (s.rest fates i).wt k' } := by
  unfold DS.rest
  have e1 : (fun j => if s.idx (j / 64) < i + 1 then s.left fates j else s.la j) = (fun j => if j / 64 = k then s.left fates j else if s.idx (j / 64) < i then s.left fates j else s.la j) := funext fun j => by
    by_cases h1 : j / 64 = k
    · rw [if_pos h1, h1, if_pos (by omega)]
    · rw [if_neg h1]
      by_cases h2 : s.idx (j / 64) < i
      · rw [if_pos h2, if_pos (by omega)]
      · rw [if_neg h2]
        by_cases h3 : s.idx (j / 64) < i + 1
        · rw [if_pos h3]
          cases hw : s.wt (j / 64) with
          | none => exact DS.left_none hw
          | some f => exact absurd (idx_inj (by rw [hw]; rfl) hk (by omega)) h1
        · rw [if_neg h3]
  have e2 : (fun k' => if s.idx k' < i + 1 then none else s.wt k') = (fun k' => if k' = k then none else if s.idx k' < i then none else s.wt k') := funext fun k' => by
    by_cases h1 : k' = k
    · rw [if_pos h1, h1, if_pos (by omega)]
    · rw [if_neg h1]
      by_cases h2 : s.idx k' < i
      · rw [if_pos h2, if_pos (by omega)]
      · rw [if_neg h2]
        by_cases h3 : s.idx k' < i + 1
        · rw [if_pos h3]
          cases hw : s.wt k' with
          | none => rfl
          | some f => exact absurd (idx_inj (by rw [hw]; rfl) hk (by omega)) h1
        · rw [if_neg h3]
  rw [e1, e2]
theorem DS.rest_all {W : World} {p lb mb : Nat} {D : DataW Unit} {wb : Nat → Nat} (s : DS) (hlim : ∀ k, (s.wt k).isSome = true → k < s.n) (fates : List Int) : ({ s.rest fates s.keys.length with dead := false, fuse := -1 } : DS) = s.restart fates := by
  have hi : ∀ k, (s.wt k).isSome = true → s.idx k < s.keys.length := fun k hk => by
    have e : List.range s.n = List.range (k + 1) ++ (List.range (s.n - (k + 1))).map (k + 1 + ·) := by rw [← List.range_add]; congr 1; have := hlim k hk; omega
    unfold DS.keys DS.idx
    rw [e, List.filter_append, List.length_append, List.range_succ, List.filter_append, List.length_append]
    simp [hk]
    omega
  unfold DS.rest DS.restart
  have e1 : (fun j => if s.idx (j / 64) < s.keys.length then s.left fates j else s.la j) = s.left fates := funext fun j => by
    cases hw : s.wt (j / 64) with
    | none => rw [DS.left_none hw]; split <;> rfl
    | some f => rw [if_pos (hi _ (by rw [hw]; rfl))]
  have e2 : (fun k => if s.idx k < s.keys.length then none else s.wt k) = (fun _ => none) := funext fun k => by
    cases hw : s.wt k with
    | none => split <;> rfl
    | some f => rw [if_pos (hi _ (by rw [hw]; rfl))]
  show (⟨s.n, fun j => if s.idx (j / 64) < s.keys.length then s.left fates j else s.la j, fun k => if s.idx k < s.keys.length then none else s.wt k, false, -1⟩ : DS) = _
  rw [e1, e2]
end Go.Proofs.Ytojpmihgpjmobaa.X
