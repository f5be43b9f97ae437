/- What the writes ahead and behind leave of a disk's state: no program. -/
import Derived.Test.YtojpmihgpjmobaaDkV
import Derived.Test.YtojpmihgpjmobaaDkY
namespace Go.Proofs.Ytojpmihgpjmobaa.X
open Go Go.RowKit Go.Maps Go.Shelf Go.Proofs.Ytojpmihgpjmobaa Go.Proofs.YtojpmihgpjmobaaW.PrintWords Go.Proofs.YtojpmihgpjmobaaW.PrintLast Go.Proofs.YtojpmihgpjmobaaW.PrintMore
set_option linter.unusedVariables false
set_option linter.unusedSimpArgs false

/-- A disk of 40 sectors that has power, and no fuse. -/
def La (s : DS) : Prop := s.n = 40 ∧ s.dead = false ∧ s.fuse = -1
theorem burnt_no {s : DS} (h : s.fuse = -1) : s.burnt = s := by unfold DS.burnt; rw [if_neg (by omega), if_neg (by omega)]
theorem la_new : La (DS.new 40) := ⟨rfl, rfl, rfl⟩
theorem la_written {s : DS} (h : La s) (a : Int) (n : Nat) (f : Nat → Int) : La (s.written a n f) := by
  unfold DS.written
  rw [if_neg (by rw [h.2.1]; decide)]
  split
  · exact h
  · split
    · exact h
    · rw [if_neg (by rw [h.2.2]; decide), burnt_no h.2.2]
      exact h
theorem la_sync {s : DS} (h : La s) : s.syncE = 0 ∧ s.synced = { s with la := s.rd, wt := fun _ => none } := by
  have h3 : ¬ s.fuse = 0 := by rw [h.2.2]; decide
  have hd : ¬ s.dead = true := by rw [h.2.1]; decide
  unfold DS.syncE DS.synced
  rw [if_neg hd, if_neg h3, if_neg hd, if_neg h3, burnt_no h.2.2]
  exact ⟨rfl, rfl⟩
/-- Behind the sync: what lasts is F; what waits was named by one of the first i acts. -/
def Lb (F : Nat → Int) (xs : List SAct) (i : Nat) (s : DS) : Prop := s.n = 40 ∧ s.fuse = -1 ∧ s.la = F ∧ ∀ k, (s.wt k).isSome = true → ∃ j, j < i ∧ Names (xs.getD j zAct) ((xs.getD j zAct).f3.length / 64) k
theorem lb_sync {s : DS} (h : La s) (xs : List SAct) : Lb s.rd xs 0 s.synced ∧ s.synced.dead = false ∧ ∀ j, s.synced.rd j = s.rd j := by
  rw [(la_sync h).2]
  exact ⟨⟨h.1, h.2.2, rfl, fun k hk => by cases hk⟩, h.2.1, fun j => rfl⟩
theorem lb_next {F : Nat → Int} {xs : List SAct} {i : Nat} {s : DS} (h : Lb F xs i s) : Lb F xs (i + 1) s := ⟨h.1, h.2.1, h.2.2.1, fun k hk => by obtain ⟨j, h1, h2⟩ := h.2.2.2 k hk; exact ⟨j, by omega, h2⟩⟩
theorem lb_kill {F : Nat → Int} {xs : List SAct} {i : Nat} {s : DS} (h : Lb F xs i s) : Lb F xs (i + 1) { s with dead := true, fuse := -1 } := by
  obtain ⟨h1, h2, h3, h4⟩ := lb_next h
  exact ⟨h1, rfl, h3, h4⟩
theorem there_cases {n : Nat} {a c : Int} (h : ¬ thereB n a c = false) : 0 ≤ a ∧ a ≤ n ∧ 0 ≤ c ∧ c ≤ n - a := by
  have h2 : thereB n a c = true := by cases hs : thereB n a c with | false => exact absurd hs h | true => rfl
  unfold thereB at h2
  simp only [Bool.and_eq_true, decide_eq_true_eq] at h2
  omega
theorem lb_written {F : Nat → Int} {xs : List SAct} {i : Nat} {s : DS} (h : Lb F xs i s) (h0 : (xs.getD i zAct).f0 = 0) (f : Nat → Int) : Lb F xs (i + 1) (s.written (xs.getD i zAct).f1 (xs.getD i zAct).f3.length f) := by
  unfold DS.written
  split
  · exact lb_next h
  · split
    · exact lb_next h
    · split
      · exact lb_next h
      · rename_i _ _ ht
        rw [if_neg (by rw [h.2.1]; decide), burnt_no h.2.1]
        obtain ⟨t1, _, _, _⟩ := there_cases ht
        refine ⟨h.1, h.2.1, h.2.2.1, fun k hk => ?_⟩
        have hk2 : ((if (xs.getD i zAct).f1.toNat ≤ k ∧ k < (xs.getD i zAct).f1.toNat + ((List.finRange ((xs.getD i zAct).f3.length / 64)).map fun x i => f (64 * x.val + i)).length then ((List.finRange ((xs.getD i zAct).f3.length / 64)).map fun x i => f (64 * x.val + i))[k - (xs.getD i zAct).f1.toNat]? else s.wt k) : Option (Nat → Int)).isSome = true := hk
        split at hk2
        · rename_i hc
          rw [List.length_map, List.length_finRange] at hc
          exact ⟨i, by omega, h0, k - (xs.getD i zAct).f1.toNat, by omega, t1, by omega⟩
        · obtain ⟨j, h1, h2⟩ := h.2.2.2 k hk2
          exact ⟨j, by omega, h2⟩
/-- A sector that is left: as it was read up to a place, and behind it as it lasts. -/
theorem left_cut (s : DS) (fates : List Int) (k : Nat) : ∃ m, m ≤ 64 ∧ ∀ c, c < 64 → s.left fates (64 * k + c) = if c < m then s.rd (64 * k + c) else s.la (64 * k + c) := by
  cases hw : s.wt k with
  | none =>
    refine ⟨0, by decide, fun c hc => ?_⟩
    rw [DS.left_none (by rw [show (64 * k + c) / 64 = k by omega]; exact hw), if_neg (by omega)]
  | some f =>
    by_cases hi : s.idx k < fates.length
    · refine ⟨cut (fates.getD (s.idx k) 0), cut_le _, fun c hc => ?_⟩
      unfold DS.left
      rw [show (64 * k + c) / 64 = k by omega, show (64 * k + c) % 64 = c by omega, hw, DS.rd_some hw hc]
      show (if s.idx k < fates.length ∧ c < cut (fates.getD (s.idx k) 0) then f c else s.la (64 * k + c)) = _
      by_cases hm : c < cut (fates.getD (s.idx k) 0)
      · rw [if_pos ⟨hi, hm⟩, if_pos hm]
      · rw [if_neg (fun h => hm h.2), if_neg hm]
    · refine ⟨0, by decide, fun c hc => ?_⟩
      unfold DS.left
      rw [show (64 * k + c) / 64 = k by omega, show (64 * k + c) % 64 = c by omega, hw]
      show (if s.idx k < fates.length ∧ c < cut (fates.getD (s.idx k) 0) then f c else s.la (64 * k + c)) = _
      rw [if_neg (fun h => hi h.1), if_neg (by omega)]
theorem lb_left {F : Nat → Int} {xs : List SAct} {s : DS} (h : Lb F xs xs.length s) (fates : List Int) (k : Nat) (hk : ∀ j, j < xs.length → ¬ Names (xs.getD j zAct) ((xs.getD j zAct).f3.length / 64) k) (i : Nat) (hi : i < 64) : s.left fates (64 * k + i) = F (64 * k + i) := by
  have hw : s.wt k = none := by
    cases hw : s.wt k with
    | none => rfl
    | some f =>
      obtain ⟨j, h1, h2⟩ := h.2.2.2 k (by rw [hw]; rfl)
      exact absurd h2 (hk j h1)
  rw [DS.left_none (by rw [show (64 * k + i) / 64 = k by omega]; exact hw), h.2.2.1]
theorem rest_rd (s : DS) (fates : List Int) (j : Nat) : (s.restart fates).rd j = s.left fates j := rfl
end Go.Proofs.Ytojpmihgpjmobaa.X
