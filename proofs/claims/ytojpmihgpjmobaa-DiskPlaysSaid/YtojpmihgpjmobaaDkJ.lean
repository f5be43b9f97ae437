/- The disk: what is laid into its map. -/
import Derived.Test.YtojpmihgpjmobaaDkI
namespace Go.Proofs.Ytojpmihgpjmobaa.X
open Go Go.RowKit Go.Maps Go.Shelf Go.Proofs.Ytojpmihgpjmobaa Go.Proofs.YtojpmihgpjmobaaW.PrintWords Go.Proofs.YtojpmihgpjmobaaW.PrintLast Go.Proofs.YtojpmihgpjmobaaW.PrintMore
set_option linter.unusedVariables false
set_option linter.unusedSimpArgs false

theorem count_put (p : Nat → Bool) (k : Nat) : ∀ n, k < n → ((List.range n).filter fun j => decide (j = k) || p j).length = ((List.range n).filter p).length + if p k then 0 else 1
  | 0, h => absurd h (Nat.not_lt_zero _)
  | n + 1, h => by
    rw [List.range_succ, List.filter_append, List.filter_append, List.length_append, List.length_append]
    by_cases hk : k = n
    · subst hk
      have e : ((List.range k).filter fun j => decide (j = k) || p j) = (List.range k).filter p := by
        apply List.filter_congr
        intro j hj
        have : j ≠ k := by have := List.mem_range.1 hj; omega
        simp [this]
      rw [e]
      cases hp : p k <;> simp [hp]
    · rw [count_put p k n (by omega)]
      have : n ≠ k := fun e => hk e.symm
      cases hp : p n <;> simp [hp, this] <;> omega
theorem cnt_put (s : DS) (k : Nat) (f : Nat → Int) (hk : k < s.n) : ({ s with wt := fun k' => if k' = k then some f else s.wt k' } : DS).cnt = s.cnt + if (s.wt k).isSome then 0 else 1 := by
  unfold DS.cnt
  rw [← count_put (fun j => (s.wt j).isSome) k s.n hk]
  congr 1
  apply List.filter_congr
  intro j _
  show (if j = k then some f else s.wt j).isSome = _
  by_cases e : j = k
  · simp [e]
  · simp [e]
theorem cnt_le (s : DS) : s.cnt ≤ s.n := by
  unfold DS.cnt
  exact Nat.le_trans (List.length_filter_le _ _) (by simp)
theorem keyL_ne {k k' : Nat} (h : k ≠ k') : keyL k ≠ keyL k' := by
  unfold keyL
  intro e
  injection e with _ e
  omega
/-- A sector is laid into the map. -/
theorem Hold.put {W W1 W2 : World} {p lb mb : Nat} {D : DataW Unit} {wb : Nat → Nat} {s : DS} (h : Hold W p lb mb D wb s) (hb : Below W.heap.size W W1) {g : Nat} {cur : Array Value} {f : Nat → Int} (hg : W.heap.size ≤ g) (hc : W1.heap[g]? = some (.cells cur 5 (0, 0))) (hv : ∀ i, i < 64 → cur[i]? = some (.int .u8 (f i)))
    {k : Nat} (hk : k < s.n) {nn : Nat} (hm : W2.ownsMap Try.prog 3 slR mb nn (D.put (keyL k) (.lit (.int .i64 g)))) (hgr : W1.grownBy W2 (some mb)) :
    Hold W2 p lb mb (D.put (keyL k) (.lit (.int .i64 g))) (fun k' => if k' = k then g else wb k') { s with wt := fun k' => if k' = k then some f else s.wt k' } := by
  have ln := h.lts
  have hT := h.map.tidy (int_keyed Try.underlying3)
  have hM := hT.isMap
  have n2 := h.n2
  have hkl : WideAt.IsKeyLit (keyL k) := (int_keyed (P := Try.prog) Try.underlying3).key (key_at k (by omega))
  have hp : p ≠ mb := by
    obtain ⟨es, clock, q', _⟩ := h.map
    rintro rfl
    rw [h.cell] at q'
    cases q'
  have hwm : ∀ k', (s.wt k').isSome = true → wb k' ≠ mb := fun k' hk' => by
    obtain ⟨f', hf'⟩ := Option.isSome_iff_exists.1 hk'
    obtain ⟨_, c', q2, _⟩ := h.val k' f' hf'
    obtain ⟨es, clock, q', _⟩ := h.map
    intro e
    rw [e, q'] at q2
    cases q2
  have st : ∀ j, j < W.heap.size → j ≠ mb → W2.heap[j]? = W.heap[j]? := fun j hj hne => (hgr.block j (Nat.lt_of_lt_of_le hj hb.size) (fun e => hne (Option.some.inj e))).trans (hb.block j hj)
  have hg2 : W2.heap[g]? = some (.cells cur 5 (0, 0)) := (hgr.block g (blk_lt hc) (fun e => by have := Option.some.inj e; have := ln.2.2.1; omega)).trans hc
  have his : ∀ k', (if k' = k then some f else s.wt k').isSome = (decide (k' = k) || (s.wt k').isSome) := fun k' => by
    by_cases e : k' = k <;> simp [e]
  exact { cell := (st p ln.1 hp).trans h.cell, last := by obtain ⟨c', q⟩ := h.last; exact ⟨c', (st lb ln.2.1 h.ne_map.symm).trans q.1, q.2⟩, map := owns_tight hm,
          has := fun kl => by
            by_cases e : kl = keyL k
            · subst e
              rw [has_put_same hM hkl]
              exact ⟨fun _ => ⟨k, by show (if k = k then some f else s.wt k).isSome = true; rw [if_pos rfl]; rfl, rfl⟩, fun _ => rfl⟩
            · rw [has_put_other e, h.has kl]
              constructor
              · rintro ⟨k', q1, q2⟩
                refine ⟨k', ?_, q2⟩
                show (if k' = k then some f else s.wt k').isSome = true
                rw [his, q1, Bool.or_true]
              · rintro ⟨k', q1, q2⟩
                have q1' : (if k' = k then some f else s.wt k').isSome = true := q1
                by_cases e' : k' = k
                · exact absurd (by rw [q2, e']; rfl) e
                · rw [if_neg e'] at q1'
                  exact ⟨k', q1', q2⟩
          val := fun k' g' hg' => by
            have hg1 : (if k' = k then some f else s.wt k') = some g' := hg'
            by_cases e : k' = k
            · rw [if_pos e] at hg1
              obtain rfl := Option.some.inj hg1
              refine ⟨fun z => ?_, cur, ?_, hv⟩
              · rw [e]
                show (D.put (keyL k) (.lit (.int .i64 g))).atKey (keyL k) z = .lit (.int .i64 ((if k = k then g else wb k : Nat) : Int))
                rw [if_pos rfl, atKey_put_same hM hkl]
              · show W2.heap[if k' = k then g else wb k']? = _
                rw [if_pos e]; exact hg2
            · rw [if_neg e] at hg1
              obtain ⟨q1, c', q2, q3⟩ := h.val k' g' hg1
              have hs' : (s.wt k').isSome = true := by rw [hg1]; rfl
              refine ⟨fun z => ?_, c', ?_, q3⟩
              · show (D.put (keyL k) (.lit (.int .i64 g))).atKey (keyL k') z = .lit (.int .i64 ((if k' = k then g else wb k' : Nat) : Int))
                rw [if_neg e, atKey_put_other (keyL_ne e)]
                exact q1 z
              · show W2.heap[if k' = k then g else wb k']? = _
                rw [if_neg e]
                exact (st _ (ln.2.2.2 k' hs') (hwm k' hs')).trans q2
          apart := fun k' q => by
            have q' : (if k' = k then some f else s.wt k').isSome = true := q
            show (if k' = k then g else wb k') ≠ lb
            by_cases e : k' = k
            · rw [if_pos e]; have := ln.2.1; omega
            · rw [if_neg e] at q' ⊢; exact h.apart k' q'
          inj := fun a b qa qb he => by
            have qa' : (if a = k then some f else s.wt a).isSome = true := qa
            have qb' : (if b = k then some f else s.wt b).isSome = true := qb
            have he' : (if a = k then g else wb a) = (if b = k then g else wb b) := he
            by_cases ea : a = k
            · by_cases eb : b = k
              · rw [ea, eb]
              · rw [if_pos ea, if_neg eb] at he'
                rw [if_neg eb] at qb'
                have := ln.2.2.2 b qb'; omega
            · by_cases eb : b = k
              · rw [if_neg ea, if_pos eb] at he'
                rw [if_neg ea] at qa'
                have := ln.2.2.2 a qa'; omega
              · rw [if_neg ea] at he' qa'
                rw [if_neg eb] at he' qb'
                exact h.inj a b qa' qb' he'
          lim := fun k' q => by
            have q' : (if k' = k then some f else s.wt k').isSome = true := q
            by_cases e : k' = k
            · rw [e]; exact hk
            · rw [if_neg e] at q'; exact h.lim k' q'
          size := by
            rw [size_put hT, h.has_at k, cnt_put s k f hk, h.size]
            cases (s.wt k).isSome <;> rfl
          n1 := h.n1, n2 := h.n2 }
/-- Sectors side by side are laid in. -/
def DS.putL (s : DS) (a : Nat) (gs : List (Nat → Int)) : DS := { s with wt := fun k => if a ≤ k ∧ k < a + gs.length then gs[k - a]? else s.wt k }
theorem DS.putL_nil (s : DS) (a : Nat) : s.putL a [] = s := by
  unfold DS.putL
  have e : (fun k => if a ≤ k ∧ k < a + ([] : List (Nat → Int)).length then ([] : List (Nat → Int))[k - a]? else s.wt k) = s.wt := funext fun k => by
    rw [if_neg (by simp)]
  rw [e]
theorem DS.putL_snoc (s : DS) (a : Nat) (gs : List (Nat → Int)) (g : Nat → Int) : s.putL a (gs ++ [g]) = { s.putL a gs with wt := fun k => if k = a + gs.length then some g else (s.putL a gs).wt k } := by
  unfold DS.putL
  have e : (fun k => if a ≤ k ∧ k < a + (gs ++ [g]).length then (gs ++ [g])[k - a]? else s.wt k) = (fun k => if k = a + gs.length then some g else if a ≤ k ∧ k < a + gs.length then gs[k - a]? else s.wt k) := funext fun k => by
    rw [List.length_append, List.length_singleton]
    by_cases h1 : k = a + gs.length
    · rw [if_pos h1, if_pos (by omega), List.getElem?_append_right (by omega), h1, show a + gs.length - a - gs.length = 0 by omega]; rfl
    · rw [if_neg h1]
      by_cases h2 : a ≤ k ∧ k < a + gs.length
      · rw [if_pos h2, if_pos (by omega), List.getElem?_append_left (by omega)]
      · rw [if_neg h2, if_neg (by omega)]
  rw [e]
end Go.Proofs.Ytojpmihgpjmobaa.X
