/- Write and Sync of any disk; the law DiskFuse. -/
import Derived.Test.YtojpmihgpjmobaaDkS
namespace Go.Proofs.Ytojpmihgpjmobaa.X
open Go Go.RowKit Go.Maps Go.Shelf Go.Proofs.Ytojpmihgpjmobaa Go.Proofs.YtojpmihgpjmobaaW.PrintWords Go.Proofs.YtojpmihgpjmobaaW.PrintLast Go.Proofs.YtojpmihgpjmobaaW.PrintMore
set_option linter.unusedVariables false
set_option linter.unusedSimpArgs false

def DS.syncE (s : DS) : Int := if s.dead = true then 140 else if s.fuse = 0 then 140 else 0
def DS.synced (s : DS) : DS := if s.dead = true then s else if s.fuse = 0 then s.burnt else s.burnt.sync
theorem sync_all {W : World} {p : Nat} {s : DS} {B : Nat → Prop} (h : DiskAt W p s B) (hf : s.fuse ≤ 9223372036854775807) :
    Calls Try.prog 12 #[dptr p] W fun e w' => e = .returned (.int .i64 s.syncE) ∧ DiskAt w' p s.synced B ∧ Tn W w' B := by
  unfold DS.syncE DS.synced
  by_cases hd : s.dead = true
  · simp only [if_pos hd]
    have H := Aside0.mk h
    clear h
    go_enter Try.func12, Try.ntmps12
    go_wp2_with fail
    refine (usable_any H.out).mono ?_
    rw [hd]
    rintro e w1' ⟨rfl, hq⟩
    obtain rfl := hq.symm
    go_wp2
    go_ret
    exact ⟨rfl, H.out, Tn.refl _ _⟩
  · simp only [if_neg hd]
    have hd' : s.dead = false := by cases hs : s.dead with | true => exact absurd hs hd | false => rfl
    by_cases h0 : s.fuse = 0
    · simp only [if_pos h0]
      have H := Aside0.mk h
      clear h
      go_enter Try.func12, Try.ntmps12
      go_wp2_with fail
      refine (usable_any H.out).mono ?_
      rw [hd']
      rintro e w1' ⟨rfl, hq⟩
      obtain rfl := hq.symm
      go_wp2_with fail
      refine (burn_any H.out hf).mono ?_
      rw [if_pos h0]
      rintro e w1 ⟨rfl, hD, hT⟩
      have HD := Aside0.mk hD
      have HT := Aside0.mk hT
      clear hD hT
      go_wp2
      go_ret
      exact ⟨rfl, HD.out, HT.out⟩
    · simp only [if_neg h0]
      exact sync_in h hd' h0 hf
def DS.writeE (s : DS) (a : Int) (n : Nat) : Int := if s.dead = true then 140 else if n % 64 ≠ 0 then 6 else if thereB s.n a ((n / 64 : Nat) : Int) = false then 1 else if s.fuse = 0 then 140 else 0
def DS.written (s : DS) (a : Int) (n : Nat) (f : Nat → Int) : DS := if s.dead = true then s else if n % 64 ≠ 0 then s else if thereB s.n a ((n / 64 : Nat) : Int) = false then s else if s.fuse = 0 then s.burnt else s.burnt.putL a.toNat ((List.finRange (n / 64)).map fun x i => f (64 * x.val + i))
theorem New.of {W : World} {B : Nat → Prop} (k : Nat) (h : B k) : New W B k := .inl h
set_option maxRecDepth 100000 in
set_option maxHeartbeats 4000000 in
theorem write_all {W : World} {p : Nat} {s : DS} {B : Nat → Prop} (h : DiskAt W p s B) (hBs : ∀ k, B k → k < W.heap.size) (hf : s.fuse ≤ 9223372036854775807) (a : Int) (n c : Nat) (A : Option Addr) (f : Nat → Int)
    (hAB : ∀ ad, A = some ad → 0 < n → ¬ B ad.block) (hby : By W A n f) (hc : n ≤ c) (hn : n ≤ 9223372036854775807) :
    Calls Try.prog 11 #[dptr p, .int .i64 a, .slice A n c] W fun e w' => e = .returned (.int .i64 (s.writeE a n)) ∧ DiskAt w' p (s.written a n f) (New W B) ∧ Tn W w' B := by
  by_cases hok : s.dead = false ∧ n % 64 = 0 ∧ thereB s.n a ((n / 64 : Nat) : Int) = true ∧ s.fuse ≠ 0
  · obtain ⟨h1, h2, h3, h4⟩ := hok
    unfold DS.writeE DS.written
    rw [h1]
    simp only [Bool.false_eq_true, if_false, h2, ne_eq, not_true_eq_false, h3, h4, Bool.true_eq_false, reduceCtorEq]
    have h3' := h3
    unfold thereB at h3'
    simp only [Bool.and_eq_true, decide_eq_true_eq] at h3'
    obtain ⟨⟨⟨q1, q2⟩, q3⟩, q4⟩ := h3'
    obtain ⟨k, rfl⟩ := Int.eq_ofNat_of_zero_le q1
    obtain ⟨m, rfl⟩ : ∃ m, n = 64 * m := ⟨n / 64, by omega⟩
    have hm : 64 * m / 64 = m := by omega
    rw [hm] at q4 ⊢
    rw [Int.toNat_natCast]
    obtain ⟨ad, hA⟩ : ∃ ad : Addr, 0 < m → A = some ad := by
      cases A with
      | none => exact ⟨⟨0, 0, none⟩, fun h0 => by
          rcases hby with hz | ⟨ad', e, _⟩
          · omega
          · cases e⟩
      | some ad => exact ⟨ad, fun _ => rfl⟩
    exact write_in h hBs h1 h4 hf k m c A ad f (by omega) hA (fun h0 => hAB ad (hA h0) (by omega)) hby hc
  · have hB2 : Below W.heap.size W ((W.alloc (.cells #[dptr p] 26)).alloc (.cells #[.int .i64 a] 3)) := ((Below.refl _ W).alloc (Nat.le_refl _) _).alloc (by simp) _
    have H2 := Aside0.mk (h.below hB2)
    have k0 : ((W.alloc (.cells #[dptr p] 26)).alloc (.cells #[.int .i64 a] 3)).heap[W.heap.size]? = some (.cells #[dptr p] 26 (0, 0)) := blk_alloc (blk_new W _) _
    have k1 : ((W.alloc (.cells #[dptr p] 26)).alloc (.cells #[.int .i64 a] 3)).heap[W.heap.size + 1]? = some (.cells #[.int .i64 a] 3 (0, 0)) := by
      have := blk_new (W.alloc (.cells #[dptr p] 26)) (.cells #[.int .i64 a] 3)
      rwa [World.size_alloc] at this
    have HB2 := Aside0.mk hB2
    have g0 := (blk_cell k0 0).trans rfl
    have g1 := (blk_cell k1 0).trans rfl
    have hq64 : (n : Int).tdiv 64 = ((n / 64 : Nat) : Int) := by rw [Int.tdiv_eq_ediv_of_nonneg (by omega)]; omega
    have hr64 : (n : Int).tmod 64 = ((n % 64 : Nat) : Int) := by rw [Int.tmod_eq_emod_of_nonneg (by omega)]; omega
    have HX := Aside0.mk (show ∀ (s' : DS) (w' : World), DiskAt w' p s' B → DiskAt w' p s' (New W B) from fun s' w' hd => hd.mono (fun k hk => .inl hk))
    have HT0 := Aside0.mk (Tn.of_below hB2 B)
    clear h hby hB2 k0 k1
    obtain ⟨W2, hW2⟩ : ∃ W2, W2 = ((W.alloc (.cells #[dptr p] 26)).alloc (.cells #[.int .i64 a] 3)) := ⟨_, rfl⟩
    rw [← hW2] at H2 g0 g1 HT0
    by_cases hd : s.dead = true
    · have e1 : s.writeE a n = 140 := by unfold DS.writeE; rw [if_pos hd]
      have e2 : s.written a n f = s := by unfold DS.written; rw [if_pos hd]
      rw [e1, e2]
      clear e1 e2 hok
      have HW2 := Lib.hid hW2
      clear hW2
      go_enter Try.func11, Try.ntmps11
      go_wp2_with fail
      rw [← HW2.out]
      refine (usable_any H2.out).mono ?_
      rw [hd]
      rintro e w1' ⟨rfl, hq⟩
      obtain rfl := hq.symm
      go_wp2
      go_ret
      exact ⟨rfl, HX.out _ _ H2.out, HT0.out⟩
    · have hd' : s.dead = false := by cases hs : s.dead with | true => exact absurd hs hd | false => rfl
      by_cases h6 : n % 64 ≠ 0
      · have e1 : s.writeE a n = 6 := by unfold DS.writeE; rw [if_neg hd, if_pos h6]
        have e2 : s.written a n f = s := by unfold DS.written; rw [if_neg hd, if_pos h6]
        rw [e1, e2]
        clear e1 e2 hok
        have hr0 : ¬ ((n % 64 : Nat) : Int) = 0 := by omega
        generalize ((n % 64 : Nat) : Int) = r at hr64 hr0
        have HW2 := Lib.hid hW2
        clear hW2 h6
        go_enter Try.func11, Try.ntmps11
        go_wp2_with fail
        rw [← HW2.out]
        refine (usable_any H2.out).mono ?_
        rw [hd']
        rintro e w1' ⟨rfl, hq⟩
        obtain rfl := hq.symm
        go_wp2
        go_ret
        exact ⟨rfl, HX.out _ _ H2.out, HT0.out⟩
      · have hr0 : (n : Int).tmod 64 = 0 := by rw [hr64]; omega
        clear hr64
        by_cases ht : thereB s.n a ((n / 64 : Nat) : Int) = false
        · have e1 : s.writeE a n = 1 := by unfold DS.writeE; rw [if_neg hd, if_neg h6, if_pos ht]
          have e2 : s.written a n f = s := by unfold DS.written; rw [if_neg hd, if_neg h6, if_pos ht]
          rw [e1, e2]
          clear e1 e2 hok
          have HW2 := Lib.hid hW2
          clear hW2 h6
          go_enter Try.func11, Try.ntmps11
          go_wp2_with fail
          rw [← HW2.out]
          refine (usable_any H2.out).mono ?_
          rw [hd']
          rintro e w1' ⟨rfl, hq⟩
          obtain rfl := hq.symm
          go_wp2_with fail
          refine (there_any H2.out a _).mono ?_
          rw [show (n : Int) / 64 = ((n / 64 : Nat) : Int) by omega, ht]
          rintro e w1 ⟨rfl, hq⟩
          obtain rfl := hq.symm
          go_wp2
          go_ret
          exact ⟨rfl, HX.out _ _ H2.out, HT0.out⟩
        · have ht' : thereB s.n a ((n / 64 : Nat) : Int) = true := by cases hs : thereB s.n a ((n / 64 : Nat) : Int) with | false => exact absurd hs ht | true => rfl
          have h0 : s.fuse = 0 := Decidable.byContradiction fun h0 => hok ⟨hd', by omega, ht', h0⟩
          have e1 : s.writeE a n = 140 := by unfold DS.writeE; rw [if_neg hd, if_neg h6, if_neg ht, if_pos h0]
          have e2 : s.written a n f = s.burnt := by unfold DS.written; rw [if_neg hd, if_neg h6, if_neg ht, if_pos h0]
          rw [e1, e2]
          clear e1 e2 hok
          have HW2 := Lib.hid hW2
          clear hW2 h6
          go_enter Try.func11, Try.ntmps11
          go_wp2_with fail
          rw [← HW2.out]
          refine (usable_any H2.out).mono ?_
          rw [hd']
          rintro e w1' ⟨rfl, hq⟩
          obtain rfl := hq.symm
          go_wp2_with fail
          refine (there_any H2.out a _).mono ?_
          rw [show (n : Int) / 64 = ((n / 64 : Nat) : Int) by omega, ht']
          rintro e w1 ⟨rfl, hq⟩
          obtain rfl := hq.symm
          go_wp2_with fail
          refine (burn_any H2.out hf).mono ?_
          rw [if_pos h0]
          rintro e w3 ⟨rfl, hD, hT⟩
          have HD := Aside0.mk (HX.out _ _ hD)
          have HT := Aside0.mk (HT0.out.then_ hT)
          clear hD hT
          go_wp2
          go_ret
          exact ⟨rfl, HD.out, HT.out⟩
end Go.Proofs.Ytojpmihgpjmobaa.X
