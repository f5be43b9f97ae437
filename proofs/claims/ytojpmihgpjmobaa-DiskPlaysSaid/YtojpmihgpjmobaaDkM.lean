/- The disk: what waits, in order; what is taken out of its map. -/
import Derived.Test.YtojpmihgpjmobaaDkJ
namespace Go.Proofs.Ytojpmihgpjmobaa.X
open Go Go.RowKit Go.Maps Go.Shelf Go.Proofs.Ytojpmihgpjmobaa Go.Proofs.YtojpmihgpjmobaaW.PrintWords Go.Proofs.YtojpmihgpjmobaaW.PrintLast Go.Proofs.YtojpmihgpjmobaaW.PrintMore
set_option linter.unusedVariables false
set_option linter.unusedSimpArgs false

theorem filter_at (p : Nat → Bool) : ∀ (n i k : Nat), ((List.range n).filter p)[i]? = some k → p k = true ∧ ((List.range k).filter p).length = i ∧ k < n
  | 0, i, k, h => by simp at h
  | n + 1, i, k, h => by
    rw [List.range_succ, List.filter_append] at h
    by_cases hi : i < ((List.range n).filter p).length
    · rw [List.getElem?_append_left hi] at h
      have := filter_at p n i k h
      exact ⟨this.1, this.2.1, by omega⟩
    · rw [List.getElem?_append_right (by omega)] at h
      cases hp : p n with
      | false => simp [hp] at h
      | true =>
        simp only [List.filter_cons, hp, if_true, List.filter_nil] at h
        have h0 : i - ((List.range n).filter p).length = 0 := by
          have := (List.getElem?_eq_some_iff.1 h).1
          simp at this
          omega
        rw [h0] at h
        obtain rfl : n = k := by simpa using h
        exact ⟨hp, by omega, by omega⟩
def DS.keys (s : DS) : List Nat := (List.range s.n).filter fun k => (s.wt k).isSome
def DS.idx (s : DS) (k : Nat) : Nat := ((List.range k).filter fun j => (s.wt j).isSome).length
theorem DS.keys_at {s : DS} {i k : Nat} (h : s.keys[i]? = some k) : (s.wt k).isSome = true ∧ s.idx k = i ∧ k < s.n := filter_at _ _ _ _ h
theorem idx_inj {s : DS} {k k' : Nat} (h1 : (s.wt k).isSome = true) (h2 : (s.wt k').isSome = true) (h : s.idx k = s.idx k') : k = k' := by
  have key : ∀ {a b : Nat}, (s.wt a).isSome = true → a < b → s.idx a < s.idx b := fun {a b} ha hab => by
    unfold DS.idx
    have e : List.range b = List.range (a + 1) ++ (List.range (b - (a + 1))).map (a + 1 + ·) := by rw [← List.range_add]; congr 1; omega
    rw [e, List.filter_append, List.length_append, List.range_succ, List.filter_append, List.length_append]
    simp [ha]
    omega
  rcases Nat.lt_trichotomy k k' with hlt | he | hlt
  · have := key h1 hlt; omega
  · exact he
  · have := key h2 hlt; omega
def cut (x : Int) : Nat := ((x.tmod 65 + 65).tmod 65).toNat
theorem cut_le (x : Int) : cut x ≤ 64 := by
  unfold cut
  have h1 : -65 < x.tmod 65 := by have := Int.tmod_lt_of_pos (-x) (show (0 : Int) < 65 by decide); rw [Int.neg_tmod] at this; omega
  rw [Int.tmod_eq_emod_of_nonneg (by omega)]
  omega
/-- What a restart leaves of a byte. -/
def DS.left (s : DS) (fates : List Int) (j : Nat) : Int := match s.wt (j / 64) with
  | some f => if s.idx (j / 64) < fates.length ∧ j % 64 < cut (fates.getD (s.idx (j / 64)) 0) then f (j % 64) else s.la j
  | none => s.la j
def DS.rest (s : DS) (fates : List Int) (i : Nat) : DS :=
  { s with la := fun j => if s.idx (j / 64) < i then s.left fates j else s.la j
           wt := fun k => if s.idx k < i then none else s.wt k }
def DS.restart (s : DS) (fates : List Int) : DS := ⟨s.n, s.left fates, fun _ => none, false, -1⟩
theorem DS.left_none {s : DS} {fates : List Int} {j : Nat} (h : s.wt (j / 64) = none) : s.left fates j = s.la j := by unfold DS.left; rw [h]
/-- A sector is taken out. -/
theorem cnt_del (s : DS) (k : Nat) (hk : k < s.n) (hs : (s.wt k).isSome = true) : ({ s with wt := fun k' => if k' = k then none else s.wt k' } : DS).cnt + 1 = s.cnt := by
  obtain ⟨f, hf⟩ := Option.isSome_iff_exists.1 hs
  have h1 := cnt_put { s with wt := fun k' => if k' = k then none else s.wt k' } k f hk
  have e : (fun k' => if k' = k then some f else if k' = k then none else s.wt k') = s.wt := funext fun k' => by
    by_cases e : k' = k
    · rw [if_pos e, e, hf]
    · rw [if_neg e, if_neg e]
  have h2 : ({ s with wt := fun k' => if k' = k then some f else if k' = k then none else s.wt k' } : DS).cnt = s.cnt := by rw [e]
  have h3 : ((if k = k then none else s.wt k) : Option (Nat → Int)).isSome = false := by rw [if_pos rfl]; rfl
  have h4 : ({ s with wt := fun k' => if k' = k then some f else if k' = k then none else s.wt k' } : DS).cnt = ({ s with wt := fun k' => if k' = k then none else s.wt k' } : DS).cnt + if ((if k = k then none else s.wt k) : Option (Nat → Int)).isSome = true then 0 else 1 := h1
  rw [h2, h3] at h4
  exact h4.symm
theorem Hold.del {W W2 : World} {p lb mb : Nat} {D : DataW Unit} {wb : Nat → Nat} {s : DS} (h : Hold W p lb mb D wb s) {k nn : Nat} (hs : (s.wt k).isSome = true) (hm : W2.ownsMap Try.prog 3 slR mb nn (D.del (keyL k))) (hgr : W.grownBy W2 (some mb)) :
    Hold W2 p lb mb (D.del (keyL k)) wb { s with wt := fun k' => if k' = k then none else s.wt k' } := by
  have ln := h.lts
  have hT := h.map.tidy (int_keyed Try.underlying3)
  have hp : p ≠ mb := by
    obtain ⟨es, clock, q', _⟩ := h.map
    rintro rfl
    rw [h.cell] at q'
    cases q'
  have hwm : ∀ k', (s.wt k').isSome = true → wb k' ≠ mb := fun k' hk' => by
    obtain ⟨f', hf'⟩ := Option.isSome_iff_exists.1 hk'
    obtain ⟨_, c', q2, _⟩ := h.val k' f' hf'
    obtain ⟨es, clock, q', _⟩ := h.map
    intro e
    rw [e, q'] at q2
    cases q2
  have st : ∀ j, j < W.heap.size → j ≠ mb → W2.heap[j]? = W.heap[j]? := fun j hj hne => hgr.block j hj (fun e => hne (Option.some.inj e))
  have old : ∀ {k' : Nat}, (if k' = k then none else s.wt k').isSome = true → k' ≠ k ∧ (s.wt k').isSome = true := fun {k'} q => by
    by_cases e : k' = k
    · rw [if_pos e] at q; cases q
    · rw [if_neg e] at q; exact ⟨e, q⟩
  exact { cell := (st p ln.1 hp).trans h.cell, last := by obtain ⟨c', q⟩ := h.last; exact ⟨c', (st lb ln.2.1 h.ne_map.symm).trans q.1, q.2⟩, map := owns_tight hm,
          has := fun kl => by
            by_cases e : kl = keyL k
            · subst e
              rw [has_del_same]
              refine ⟨fun h => (by cases h), fun hx => ?_⟩
              obtain ⟨k', q1, q2⟩ := hx
              have := (old q1).1
              exact absurd q2.symm (keyL_ne this)
            · rw [has_del_other e, h.has kl]
              constructor
              · rintro ⟨k', q1, q2⟩
                refine ⟨k', ?_, q2⟩
                show (if k' = k then none else s.wt k').isSome = true
                rw [if_neg (fun e' => e (by rw [q2, e']; rfl))]
                exact q1
              · rintro ⟨k', q1, q2⟩
                exact ⟨k', (old q1).2, q2⟩
          val := fun k' g' hg' => by
            have hg1 : (if k' = k then none else s.wt k') = some g' := hg'
            have ho := old (k' := k') (by rw [hg1]; rfl)
            rw [if_neg ho.1] at hg1
            obtain ⟨q1, c', q2, q3⟩ := h.val k' g' hg1
            exact ⟨fun z => by
              show (D.del (keyL k)).atKey (keyL k') z = _
              rw [atKey_del_other (keyL_ne ho.1)]; exact q1 z, c', (st _ (ln.2.2.2 k' ho.2) (hwm k' ho.2)).trans q2, q3⟩
          apart := fun k' q => h.apart k' (old q).2
          inj := fun a b qa qb he => h.inj a b (old qa).2 (old qb).2 he
          lim := fun k' q => h.lim k' (old q).2
          size := by
            have h1 := size_del (D := D) (k := keyL k) hT
            rw [h.has_at k, hs, if_pos rfl, h.size] at h1
            have h2 := cnt_del s k (h.lim k hs) hs
            omega
          n1 := h.n1, n2 := h.n2 }
end Go.Proofs.Ytojpmihgpjmobaa.X
