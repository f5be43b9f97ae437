/- The disk: Read. -/
import Derived.Test.YtojpmihgpjmobaaDkD
namespace Go.Proofs.Ytojpmihgpjmobaa.X
open Go Go.RowKit Go.Maps Go.Shelf Go.Proofs.Ytojpmihgpjmobaa Go.Proofs.YtojpmihgpjmobaaW.PrintWords Go.Proofs.YtojpmihgpjmobaaW.PrintLast Go.Proofs.YtojpmihgpjmobaaW.PrintMore
set_option linter.unusedVariables false
set_option linter.unusedSimpArgs false

theorem run_copy_wide {P : Program} (w : World) (dT sT ty elem : TypeId) (sz g o dLen dCap : Nat) (sp : Option Addr) (sLen sCap : Nat) (cur : Array Value) (t : TypeId) (cs : List Value)
    (hu : P.underlying dT = some (.slice elem)) (hs : (P.info? elem).map (·.size) = some sz)
    (hg : w.heap[g]? = some (.cells cur t (0, 0))) (hn : cs.length = Nat.min sLen dLen * sz)
    (hsrc : 0 < cs.length → ∃ ad, sp = some ad ∧ ∀ j v, cs[j]? = some v → w.cell? (ad.add j) = some v) (hfit : o + cs.length ≤ cur.size) (h1 : ∀ v ∈ cs, v.oneCell' = true) :
    (Builtin.copy_ #[dT, sT] ty #[.slice (some ⟨g, o, none⟩) dLen dCap, .slice sp sLen sCap]).run P w =
      .ok (goInt (Nat.min sLen dLen)) (w.setRow g (cur.toList.take o ++ cs ++ cur.toList.drop (o + cs.length)).toArray) := by
  have hst := run_storeCells_at P g o t cs 0 cur w hg (by simpa using hfit) h1
  cases hq : P.info? elem with
  | none => simp [hq] at hs
  | some i =>
    have hi : i.size = sz := by simpa [hq] using hs
    by_cases h0 : cs.length = 0
    · obtain rfl : cs = [] := List.eq_nil_of_length_eq_zero h0
      cases sp with
      | none => simp [Builtin.copy_, run_underlying hu, Builtin.lenOf, Builtin.firstCells, sizeOf, typeInfo, hq, hi] at hst ⊢; simp [hst]
      | some ad =>
        have hl := run_loadCells_list (P := P) w ad [] (fun j v h => by cases h)
        have hn' : Nat.min sLen dLen * sz = 0 := by rw [← hn]; rfl
        simp at hl hst
        simp [Builtin.copy_, run_underlying hu, Builtin.lenOf, Builtin.firstCells, sizeOf, typeInfo, hq, hi, hn', hl, hst]
    · obtain ⟨ad, rfl, hc⟩ := hsrc (by omega)
      have hl := run_loadCells_list (P := P) w ad cs hc
      simp [Builtin.copy_, run_underlying hu, Builtin.lenOf, Builtin.firstCells, sizeOf, typeInfo, hq, hi, ← hn, hl, hst]


theorem setRow_far (W : World) (g : Nat) (cs : Array Value) {k : Nat} (h : k ≠ g) : (W.setRow g cs).heap[k]? = W.heap[k]? := by
  simp [World.setRow, Array.getElem?_modify, Ne.symm h]
/-- copy, of bytes. -/
theorem copy_run {W : World} {g o dLen dCap sLen sCap n : Nat} {cur : Array Value} {sp : Option Addr} {f : Nat → Int} (hg : W.heap[g]? = some (.cells cur 5 (0, 0))) (hn : n = Nat.min sLen dLen) (hsrc : By W sp n f) (hfit : o + n ≤ cur.size) :
    ∃ W' cur', (∀ ty, (Builtin.copy_ #[30, 30] ty #[.slice (some ⟨g, o, none⟩) dLen dCap, .slice sp sLen sCap]).run Try.prog W = .ok (.int .i64 n) W') ∧ W'.heap[g]? = some (.cells cur' 5 (0, 0)) ∧ cur'.size = cur.size ∧
      (∀ j, o ≤ j → j < o + n → cur'[j]? = some (.int .u8 (f (j - o)))) ∧ (∀ j, (j < o ∨ o + n ≤ j) → cur'[j]? = cur[j]?) ∧ Tn W W' (fun k => k = g) := by
  have hcl : ((List.range n).map fun i => Value.int .u8 (f i)).length = n := by simp
  refine ⟨W.setRow g (cur.toList.take o ++ ((List.range n).map fun i => Value.int .u8 (f i)) ++ cur.toList.drop (o + ((List.range n).map fun i => Value.int .u8 (f i)).length)).toArray, _, fun ty => ?_, setRow_heap W g cur _ _ _ hg, ?_, fun j h1 h2 => ?_, fun j hj => ?_, ?_⟩
  · have := run_copy_wide (P := Try.prog) W 30 30 ty 5 1 g o dLen dCap sp sLen sCap cur 5 ((List.range n).map fun i => Value.int .u8 (f i)) Try.underlying30 (by kernel_rfl) hg (by rw [hcl, ← hn, Nat.mul_one]) (fun h0 => by
      rcases hsrc with h | ⟨ad, rfl, h⟩
      · omega
      · refine ⟨ad, rfl, fun j v hj => ?_⟩
        have hjl : j < n := by have := (List.getElem?_eq_some_iff.1 hj).1; omega
        rw [List.getElem?_map, List.getElem?_range hjl] at hj
        rw [h j hjl]
        exact hj) (by rw [hcl]; exact hfit) (by intro v hv; obtain ⟨i, _, rfl⟩ := List.mem_map.1 hv; rfl)
    rw [← hn] at this
    exact this
  · simp only [List.size_toArray, List.length_append, List.length_take, List.length_drop, hcl, Array.length_toList]
    omega
  · rw [hcl]
    simp only [List.getElem?_toArray]
    rw [List.append_assoc, List.getElem?_append_right (by rw [List.length_take, Array.length_toList]; omega), List.getElem?_append_left (by rw [List.length_take, Array.length_toList, hcl]; omega), List.length_take, Array.length_toList, Nat.min_eq_left (by omega), List.getElem?_map, List.getElem?_range (by omega)]
    rfl
  · rw [hcl]
    simp only [List.getElem?_toArray]
    rcases hj with hj | hj
    · rw [List.append_assoc, List.getElem?_append_left (by rw [List.length_take, Array.length_toList]; omega), List.getElem?_take_of_lt hj, Array.getElem?_toList]
    · rw [List.getElem?_append_right (by rw [List.length_append, List.length_take, Array.length_toList, hcl]; omega), List.length_append, List.length_take, Array.length_toList, hcl, Nat.min_eq_left (by omega), List.getElem?_drop, Array.getElem?_toList]
      congr 1
      omega
  · exact ⟨rfl, rfl, rfl, by simp [World.setRow], fun k _ hk => setRow_far W g _ hk⟩

theorem key_at (k : Nat) (h : k < 65537) : keyOf Try.prog 3 (.int .i64 (k : Int)) = some (.int .i64 (k : Int)) := keyOf_int_mk Try.underlying3 (by simp [Lit.wf, IntKind.min, IntKind.max, IntKind.signed, IntKind.bits]; omega)
theorem zero_bytes (w : World) : (zeroValue 30).run Try.prog w = .ok (.slice none 0 0) w := by kernel_rfl
/-- m[k] of a disk's map. -/
theorem look_wt {W : World} {p lb mb : Nat} {D : DataW Unit} {wb : Nat → Nat} {s : DS} (h : Hold W p lb mb D wb s) (k : Nat) (hk : k < 65537) :
    (∃ f c, s.wt k = some f ∧ 64 ≤ c ∧ By W (some ⟨wb k, 0, none⟩) 64 f ∧ (Instr.lookup 55 (.map (some mb)) (.int .i64 (k : Int)) true).run Try.prog W = .ok (.tuple #[.slice (some ⟨wb k, 0, none⟩) 64 c, .bool true]) W) ∨
    (∃ v, s.wt k = none ∧ (Instr.lookup 55 (.map (some mb)) (.int .i64 (k : Int)) true).run Try.prog W = .ok (.tuple #[v, .bool false]) W) := by
  obtain ⟨v, ps, hrun, hv⟩ := h.map.look_ok (t := 55) (int_keyed Try.underlying3) Try.underlying55 (zero_bytes W) (zd := .nil) (zp := []) rfl (key_at k hk)
  cases hw : s.wt k with
  | none =>
    have hh : Maps.has D (.int .i64 (k : Int)) = false := by
      cases hb : Maps.has D (.int .i64 (k : Int)) with
      | false => rfl
      | true =>
        obtain ⟨k', h1, h2⟩ := (h.has _).1 hb
        injection h2 with _ h2
        obtain rfl : k = k' := by omega
        rw [hw] at h1
        cases h1
    rw [hh] at hrun
    exact .inr ⟨v, rfl, hrun⟩
  | some f =>
    have hh : Maps.has D (.int .i64 (k : Int)) = true := (h.has _).2 ⟨k, by rw [hw]; rfl, rfl⟩
    obtain ⟨q1, cur, q2, q3⟩ := h.val k f hw
    rw [hh] at hrun
    rw [q1] at hv
    obtain ⟨c, rfl, hc⟩ := slR_inv hv
    refine .inl ⟨f, c, rfl, hc, .inr ⟨_, rfl, fun i hi => ?_⟩, hrun⟩
    rw [Addr.add_lit, Nat.zero_add]
    exact (blk_cell q2 i).trans (q3 i hi)
end Go.Proofs.Ytojpmihgpjmobaa.X
