/- The row of the law tabulary/tabularylaw11.TreeReals: for every input the call returns true, and each argument reads behind the call as it read before. -/
import Derived.Test.YthpecpkncifngaaDoorZTreeReals3
import Derived.Test.YthpecpkncifngaaDoorZTreeReals1
import Derived.Lib.TrimByte
import Derived.Deep.RegionHeld3
import Derived.Deep.DeepCutAuto
import Derived.Test.YthpecpkncifngaaDoorWMore
import Derived.ChangeArms
import Derived.DataReads
import Derived.SizedLaws
import Derived.ProofKit
import Derived.Test.YthpecpkncifngaaDoorCards
import Derived.Test.YthpecpkncifngaaDoorTie
import Derived.WalkKit
import Derived.OpenShut
import Derived.ShutString
import Derived.ChangeOld
import Derived.Below
import Derived.JoinedCond
import Derived.Deep.DeepHandedRow
import Derived.Lib.LaidTab
set_option linter.unusedVariables false
set_option linter.unusedSimpArgs false
/- The reference's May and Check, told by the same plain words as the program's. -/
section
namespace Go.Proofs.YthpecpkncifngaaDoor.X
open Go.RowKit Go.Shelf Go.Proofs.YthpecpkncifngaaDoor Go.Proofs.YthpecpkncifngaaDoorW.PrintWords Go.Proofs.YthpecpkncifngaaDoorW.PrintLast Go.Proofs.YthpecpkncifngaaDoorW.PrintMore Go.Proofs.YthpecpkncifngaaDoor.Pure
def j3V (x : S26) : Int := if 65536 < x.f4.length then 2 else if x.f1 = 3 then hardP x else if x.f1 = 4 then softP x else 0
theorem j3_true (x : S26) : Ev (fun k => tabularyref11_May.j3 k true x.f0 x.f1 x.f2 x.f3 x.f4 x.f5) 110 :=
  Ev.step (fun k => by simp only [tabularyref11_May.j3]; rw [if_pos trivial]) (Ev.now _)
theorem j3_false (x : S26) : Ev (fun k => tabularyref11_May.j3 k false x.f0 x.f1 x.f2 x.f3 x.f4 x.f5) (j3V x) := by
  unfold j3V
  by_cases h : 65536 < x.f4.length
  · rw [if_pos h]
    exact Ev.step (fun k => by simp only [tabularyref11_May.j3]; rw [if_neg (by decide), if_pos (by omega)]) (Ev.now _)
  rw [if_neg h]
  by_cases h3 : x.f1 = 3
  · rw [if_pos h3]
    exact Ev.step (fun k => by simp only [tabularyref11_May.j3]; rw [if_neg (by decide), if_neg (by omega), if_pos h3]) (Ev.bind (refcheck_ev x.f5) (Ev.now _))
  rw [if_neg h3]
  by_cases h4 : x.f1 = 4
  · rw [if_pos h4]
    exact Ev.step (fun k => by simp only [tabularyref11_May.j3]; rw [if_neg (by decide), if_neg (by omega), if_neg h3, if_pos h4]) (Ev.bind (reflead_ev x.f0 x.f5) (Ev.now _))
  rw [if_neg h4]
  exact Ev.step (fun k => by simp only [tabularyref11_May.j3]; rw [if_neg (by decide), if_neg (by omega), if_neg h3, if_neg h4]) (Ev.now _)
theorem link_eq (a : Int) : tabularyref11_link.f a = some (decide (a = 3 ∨ a = 4)) := by
  unfold tabularyref11_link.f
  by_cases h : a = 3
  · rw [if_pos h]; simp [h]
  · rw [if_neg h]
    by_cases h4 : a = 4 <;> simp [h, h4]
def j2V (x : S26) : Int := if (0 < x.f4.length ∧ x.f1 ≠ 1) ∨ (x.f5.toList ≠ [] ∧ ¬ (x.f1 = 3 ∨ x.f1 = 4)) then 110 else j3V x
theorem j2_true (x : S26) : Ev (fun k => tabularyref11_May.j2 k true x.f0 x.f1 x.f2 x.f3 x.f4 x.f5) 1 :=
  Ev.step (fun k => by simp only [tabularyref11_May.j2]; rw [if_pos trivial]) (Ev.now _)
theorem j2_false (x : S26) : Ev (fun k => tabularyref11_May.j2 k false x.f0 x.f1 x.f2 x.f3 x.f4 x.f5) (j2V x) := by
  have tail : ∀ (g : Nat → Option Int), (∀ k, g k = if x.f5.toList = ([] : List UInt8) then (tabularyref11_May.j3 k false x.f0 x.f1 x.f2 x.f3 x.f4 x.f5) else ((tabularyref11_link.f x.f1).bind fun t => (tabularyref11_May.j3 k (!t) x.f0 x.f1 x.f2 x.f3 x.f4 x.f5))) → ¬ (0 < x.f4.length ∧ x.f1 ≠ 1) → Ev g (j2V x) := by
    intro g hg hn
    unfold j2V
    by_cases h5 : x.f5.toList = []
    · rw [if_neg (by rintro (h | h); exact hn h; exact h.1 h5)]
      exact Ev.congr (fun k => by rw [hg, if_pos h5]) (j3_false x)
    · by_cases hl : x.f1 = 3 ∨ x.f1 = 4
      · rw [if_neg (by rintro (h | h); exact hn h; exact h.2 hl)]
        exact Ev.congr (fun k => by rw [hg, if_neg h5, link_eq, Option.bind_some, decide_eq_true hl]; rfl) (j3_false x)
      · rw [if_pos (.inr ⟨h5, hl⟩)]
        exact Ev.congr (fun k => by rw [hg, if_neg h5, link_eq, Option.bind_some, decide_eq_false hl]; rfl) (j3_true x)
  by_cases h : 0 < x.f4.length
  · by_cases h1 : x.f1 = 1
    · exact Ev.step (fun k => by simp only [tabularyref11_May.j2]; rw [if_neg (by decide), if_pos (by omega), if_pos h1]) (tail _ (fun k => rfl) (fun hh => hh.2 h1))
    · unfold j2V
      rw [if_pos (.inl ⟨h, h1⟩)]
      exact Ev.step (fun k => by simp only [tabularyref11_May.j2]; rw [if_neg (by decide), if_pos (by omega), if_neg h1]) (j3_true x)
  · exact Ev.step (fun k => by simp only [tabularyref11_May.j2]; rw [if_neg (by decide), if_neg (by omega)]) (tail _ (fun k => rfl) (fun hh => h hh.1))
def j1V (x : S26) : Int := if x.f2 < 0 ∨ 4095 < x.f2 ∨ ((x.f1 = 3 ∨ x.f1 = 4) ∧ x.f2 ≠ 0) then 1 else j2V x
theorem j1_true (x : S26) : Ev (fun k => tabularyref11_May.j1 k true x.f0 x.f1 x.f2 x.f3 x.f4 x.f5) 1 :=
  Ev.step (fun k => by simp only [tabularyref11_May.j1]; rw [if_pos trivial]) (Ev.now _)
theorem j1_false (x : S26) : Ev (fun k => tabularyref11_May.j1 k false x.f0 x.f1 x.f2 x.f3 x.f4 x.f5) (j1V x) := by
  unfold j1V
  by_cases h1 : x.f2 < 0
  · rw [if_pos (.inl h1)]
    exact Ev.step (fun k => by simp only [tabularyref11_May.j1]; rw [if_neg (by decide), if_pos h1]) (j2_true x)
  by_cases h2 : 4095 < x.f2
  · rw [if_pos (.inr (.inl h2))]
    exact Ev.step (fun k => by simp only [tabularyref11_May.j1]; rw [if_neg (by decide), if_neg h1, if_pos (by omega)]) (j2_true x)
  by_cases hl : x.f1 = 3 ∨ x.f1 = 4
  · by_cases h0 : x.f2 = 0
    · rw [if_neg (by omega)]
      exact Ev.step (fun k => by simp only [tabularyref11_May.j1]; rw [if_neg (by decide), if_neg h1, if_neg (by omega), link_eq, Option.bind_some, decide_eq_true hl, if_pos rfl, show (x.f2 != 0) = false by simp [h0]]) (j2_false x)
    · rw [if_pos (.inr (.inr ⟨hl, h0⟩))]
      exact Ev.step (fun k => by simp only [tabularyref11_May.j1]; rw [if_neg (by decide), if_neg h1, if_neg (by omega), link_eq, Option.bind_some, decide_eq_true hl, if_pos rfl, show (x.f2 != 0) = true by simp [h0]]) (j2_true x)
  · rw [if_neg (by omega)]
    exact Ev.step (fun k => by simp only [tabularyref11_May.j1]; rw [if_neg (by decide), if_neg h1, if_neg (by omega), link_eq, Option.bind_some, decide_eq_false hl, if_neg (by decide)]) (j2_false x)
def j0V (x : S26) : Int := if x.f3 < 0 ∨ 1099511627776 < x.f3 ∨ (x.f1 = 3 ∧ x.f3 ≠ 0) then 1 else j1V x
theorem j0_true (x : S26) : Ev (fun k => tabularyref11_May.j0 k true x.f0 x.f1 x.f2 x.f3 x.f4 x.f5) 1 :=
  Ev.step (fun k => by simp only [tabularyref11_May.j0]; rw [if_pos trivial]) (Ev.now _)
theorem j0_false (x : S26) : Ev (fun k => tabularyref11_May.j0 k false x.f0 x.f1 x.f2 x.f3 x.f4 x.f5) (j0V x) := by
  unfold j0V
  by_cases h1 : x.f3 < 0
  · rw [if_pos (.inl h1)]
    exact Ev.step (fun k => by simp only [tabularyref11_May.j0]; rw [if_neg (by decide), if_pos h1]) (j1_true x)
  by_cases h2 : 1099511627776 < x.f3
  · rw [if_pos (.inr (.inl h2))]
    exact Ev.step (fun k => by simp only [tabularyref11_May.j0]; rw [if_neg (by decide), if_neg h1, if_pos (by omega)]) (j1_true x)
  by_cases h3 : x.f1 = 3
  · by_cases h0 : x.f3 = 0
    · rw [if_neg (by omega)]
      exact Ev.step (fun k => by simp only [tabularyref11_May.j0]; rw [if_neg (by decide), if_neg h1, if_neg (by omega), if_pos h3, show (x.f3 != 0) = false by simp [h0]]) (j1_false x)
    · rw [if_pos (.inr (.inr ⟨h3, h0⟩))]
      exact Ev.step (fun k => by simp only [tabularyref11_May.j0]; rw [if_neg (by decide), if_neg h1, if_neg (by omega), if_pos h3, show (x.f3 != 0) = true by simp [h0]]) (j1_true x)
  · rw [if_neg (by omega)]
    exact Ev.step (fun k => by simp only [tabularyref11_May.j0]; rw [if_neg (by decide), if_neg h1, if_neg (by omega), if_neg h3]) (j1_false x)
theorem may_k1 (x : S26) (h : x.f1 = 1) : mayT x 4095 1099511627776 true false (plainP x) = j0V x := by
  unfold mayT j0V j1V j2V j3V
  rw [h]
  by_cases a : x.f3 < 0
  · simp [a]
  by_cases b : 1099511627776 < x.f3
  · simp [a, b]
  by_cases c : x.f2 < 0
  · simp [a, b, c]
  by_cases d : 4095 < x.f2
  · simp [a, b, c, d]
  by_cases e : 0 < x.f4.length
  · by_cases g : 65536 < x.f4.length <;> by_cases f : x.f5.toList = [] <;> simp [*, plainP] <;> omega
  · have e0 : x.f4.length = 0 := by omega
    by_cases f : x.f5.toList = [] <;> simp [*, plainP] <;> omega
theorem may_k2 (x : S26) (h : x.f1 = 2) : mayT x 4095 1099511627776 false false (plainP x) = j0V x := by
  unfold mayT j0V j1V j2V j3V
  rw [h]
  by_cases a : x.f3 < 0
  · simp [a]
  by_cases b : 1099511627776 < x.f3
  · simp [a, b]
  by_cases c : x.f2 < 0
  · simp [a, b, c]
  by_cases d : 4095 < x.f2
  · simp [a, b, c, d]
  by_cases e : 0 < x.f4.length
  · by_cases g : 65536 < x.f4.length <;> by_cases f : x.f5.toList = [] <;> simp [*, plainP] <;> omega
  · have e0 : x.f4.length = 0 := by omega
    by_cases f : x.f5.toList = [] <;> simp [*, plainP] <;> omega
theorem may_k3 (x : S26) (h : x.f1 = 3) : mayT x 0 0 false true (hardP x) = j0V x := by
  unfold mayT j0V j1V j2V j3V
  rw [h]
  by_cases a : x.f3 < 0
  · simp [a]
  by_cases b : 0 < x.f3
  · have : x.f3 ≠ 0 := by omega
    simp [a, b, this]
  by_cases c : x.f2 < 0
  · simp [a, b, c]
  by_cases d : 0 < x.f2
  · have : x.f2 ≠ 0 := by omega
    simp [a, b, c, d, this]
  have a0 : x.f3 = 0 := by omega
  have c0 : x.f2 = 0 := by omega
  by_cases e : 0 < x.f4.length
  · by_cases g : 65536 < x.f4.length <;> by_cases f : x.f5.toList = [] <;> simp [*, plainP] <;> omega
  · have e0 : x.f4.length = 0 := by omega
    by_cases f : x.f5.toList = [] <;> simp [*, plainP] <;> omega
theorem may_k4 (x : S26) (h : x.f1 = 4) : mayT x 0 1099511627776 false true (softP x) = j0V x := by
  unfold mayT j0V j1V j2V j3V
  rw [h]
  by_cases a : x.f3 < 0
  · simp [a]
  by_cases b : 1099511627776 < x.f3
  · simp [a, b]
  by_cases c : x.f2 < 0
  · simp [a, b, c]
  by_cases d : 0 < x.f2
  · have : x.f2 ≠ 0 := by omega
    simp [a, b, c, d, this]
  have c0 : x.f2 = 0 := by omega
  by_cases e : 0 < x.f4.length
  · by_cases g : 65536 < x.f4.length <;> by_cases f : x.f5.toList = [] <;> simp [*, plainP] <;> omega
  · have e0 : x.f4.length = 0 := by omega
    by_cases f : x.f5.toList = [] <;> simp [*, plainP] <;> omega
theorem may_eq (x : S26) : mayP x = if (Nm.check x.f0.data.toList).2 ≠ 0 then ((Nm.check x.f0.data.toList).2 : Int) else if x.f1 < 1 ∨ 4 < x.f1 then 1 else j0V x := by
  unfold mayP
  by_cases hc : (Nm.check x.f0.data.toList).2 = 0
  · have hn : ¬ ((Nm.check x.f0.data.toList).2 ≠ 0) := by simp [hc]
    rw [if_neg hn, if_neg hn]
    by_cases h1 : x.f1 = 1
    · rw [if_pos h1, if_neg (by omega)]; exact may_k1 x h1
    rw [if_neg h1]
    by_cases h2 : x.f1 = 2
    · rw [if_pos h2, if_neg (by omega)]; exact may_k2 x h2
    rw [if_neg h2]
    by_cases h3 : x.f1 = 3
    · rw [if_pos h3, if_neg (by omega)]; exact may_k3 x h3
    rw [if_neg h3]
    by_cases h4 : x.f1 = 4
    · rw [if_pos h4, if_neg (by omega)]; exact may_k4 x h4
    rw [if_neg h4, if_pos (by omega)]
  · rw [if_pos (by simpa using hc), if_pos (by simpa using hc)]
theorem refmay_ev (x : S26) : Ev (fun k => tabularyref11_May.f k x.f0 x.f1 x.f2 x.f3 x.f4 x.f5) (mayP x) := by
  rw [may_eq]
  refine Ev.congr (fun k => by rw [tabularyref11_May.f]) (Ev.bind (refcheck_ev x.f0) ?_)
  by_cases hc : (Nm.check x.f0.data.toList).2 = 0
  · rw [if_neg (by simp [hc])]
    by_cases h1 : x.f1 < 1
    · rw [if_pos (.inl h1)]
      exact Ev.congr (fun k => by rw [if_pos (by simp [hc]), if_pos h1]) (j0_true x)
    by_cases h4 : 4 < x.f1
    · rw [if_pos (.inr h4)]
      exact Ev.congr (fun k => by rw [if_pos (by simp [hc]), if_neg h1, decide_eq_true (show x.f1 > 4 from h4)]) (j0_true x)
    rw [if_neg (by omega)]
    exact Ev.congr (fun k => by rw [if_pos (by simp [hc]), if_neg h1, decide_eq_false (show ¬ x.f1 > 4 from h4)]) (j0_false x)
  · rw [if_pos (by simpa using hc)]
    exact Ev.congr (fun k => by rw [if_neg (by simpa using hc)]) (Ev.now _)
end Go.Proofs.YthpecpkncifngaaDoor.X
end

/- The reference's Check, told by the same plain words as the program's. -/
section
namespace Go.Proofs.YthpecpkncifngaaDoor.X
open Go.RowKit Go.Shelf Go.Proofs.YthpecpkncifngaaDoor Go.Proofs.YthpecpkncifngaaDoorW.PrintWords Go.Proofs.YthpecpkncifngaaDoorW.PrintLast Go.Proofs.YthpecpkncifngaaDoorW.PrintMore Go.Proofs.YthpecpkncifngaaDoor.Pure
theorem ba_eq (a b : ByteArray) : a.toList = b.toList ↔ a = b := by
  rw [Lib.toList_data, Lib.toList_data]
  constructor
  · intro h
    cases a; cases b
    simp only [Array.toList_inj] at h
    rw [h]
  · intro h; rw [h]
def hasB : List S26 → ByteArray → Int → Bool
  | [], _, _ => false
  | x :: r, s, K => decide (x.f0 = s ∧ x.f1 = K) || hasB r s K
theorem rd_drop (xs : List S26) (i : Nat) (h : i < xs.length) : xs.drop i = rd_T26 xs i :: xs.drop (i + 1) := by
  rw [List.drop_eq_getElem_cons h]
  congr 1
  unfold rd_T26
  rw [Int.toNat_natCast, List.getD_eq_getElem?_getD, List.getElem?_eq_getElem h]
  rfl
theorem has_l0 (l : List S26) (hl : l.length ≤ 1099511627776) (s : ByteArray) (K : Int) (d : Nat) : ∀ i : Nat, i ≤ l.length → l.length - i = d →
    Ev (fun k => tabularyref11_has.l0 k l s K (i : Int)) (hasB (l.drop i) s K) := by
  induction d with
  | zero =>
    intro i hi hd
    rw [List.drop_eq_nil_of_le (by omega)]
    exact Ev.step (fun k => by simp only [tabularyref11_has.l0]; rw [if_neg (by omega)]; rfl) (Ev.now _)
  | succ d ih =>
    intro i hi hd
    have hlt : i < l.length := by omega
    rw [rd_drop l i hlt]
    simp only [hasB]
    have hn := ih (i + 1) (by omega) (by omega)
    have hw : wrap64 ((i : Int) + 1) = ((i + 1 : Nat) : Int) := wrap_succ (by omega)
    by_cases h1 : (rd_T26 l i).f0 = s
    · by_cases h2 : (rd_T26 l i).f1 = K
      · rw [decide_eq_true ⟨h1, h2⟩, Bool.true_or]
        exact Ev.step (fun k => by simp only [tabularyref11_has.l0]; rw [if_pos (by omega), if_pos (by omega), if_pos ((ba_eq _ _).2 h1), if_pos h2]) (Ev.now _)
      · rw [decide_eq_false (fun h => h2 h.2), Bool.false_or]
        exact Ev.step (fun k => by simp only [tabularyref11_has.l0]; rw [if_pos (by omega), if_pos (by omega), if_pos ((ba_eq _ _).2 h1), if_neg h2, hw]) hn
    · rw [decide_eq_false (fun h => h1 h.1), Bool.false_or]
      exact Ev.step (fun k => by simp only [tabularyref11_has.l0]; rw [if_pos (by omega), if_pos (by omega), if_neg (fun h => h1 ((ba_eq _ _).1 h)), hw]) hn
theorem has_ev (l : List S26) (hl : l.length ≤ 1099511627776) (s : ByteArray) (K : Int) : Ev (fun k => tabularyref11_has.f k l s K) (hasB l s K) := by
  have := has_l0 l hl s K l.length 0 (Nat.zero_le _) (by omega)
  rw [List.drop_zero] at this
  exact Ev.congr (fun k => rfl) this
theorem hasB_iff (l : List S26) (s : ByteArray) (K : Int) : hasB l s K = true ↔ ∃ x ∈ l, x.f0 = s ∧ x.f1 = K := by
  induction l with
  | nil => simp [hasB]
  | cons x r ih => simp [hasB, ih]
theorem mem_take (xs : List S26) (k : Nat) (hk : k ≤ xs.length) (x : S26) : x ∈ xs.take k ↔ ∃ i, i < k ∧ rd_T26 xs i = x := by
  have rd : ∀ i : Nat, (h : i < xs.length) → rd_T26 xs i = xs[i] := fun i h => by
    unfold rd_T26
    rw [Int.toNat_natCast, List.getD_eq_getElem?_getD, List.getElem?_eq_getElem h]; rfl
  rw [List.mem_take_iff_getElem]
  constructor
  · rintro ⟨i, hi, rfl⟩
    exact ⟨i, by omega, rd i (by omega)⟩
  · rintro ⟨i, hi, rfl⟩
    exact ⟨i, by omega, (rd i (by omega)).symm⟩
theorem rises {xs : List S26} {k : Nat} (h : ∀ j, j < k → stepP xs j = 0) : ∀ (j i : Nat), i < j → j < k → Nm.cmpL (Nm.texts (rd_T26 xs i).f0.data.toList) (Nm.texts (rd_T26 xs j).f0.data.toList) = -1 := by
  have one : ∀ j : Nat, j + 1 < k → Nm.cmpL (Nm.texts (rd_T26 xs j).f0.data.toList) (Nm.texts (rd_T26 xs (j + 1 : Nat)).f0.data.toList) = -1 := by
    intro j hj
    have hs := h (j + 1) hj
    have hm : mayP (rd_T26 xs (j + 1 : Nat)) = 0 := by
      by_cases hm : mayP (rd_T26 xs (j + 1 : Nat)) = 0
      · exact hm
      · rw [step1 hm] at hs; exact hs
    by_cases hc : 0 ≤ cmpA xs (j + 1)
    · rw [step2 hm ⟨by omega, hc⟩] at hs; simp at hs
    · unfold cmpA at hc
      rw [Nat.add_sub_cancel] at hc
      rcases Nm.cmp_vals (Nm.texts (rd_T26 xs j).f0.data.toList) (Nm.texts (rd_T26 xs (j + 1 : Nat)).f0.data.toList) with e | e | e <;> omega
  intro j
  induction j with
  | zero => intro i hi; omega
  | succ j ih =>
    intro i hi hj
    rcases Nat.lt_or_ge i j with hlt | hge
    · exact Nm.cmp_lt_trans _ _ _ (ih i hlt (by omega)) (one j hj)
    · obtain rfl : i = j := by omega
      exact one i hj
theorem apart {xs : List S26} {k : Nat} (h : ∀ j, j < k → stepP xs j = 0) {i j : Nat} (hi : i < k) (hj : j < k) (e : (rd_T26 xs i).f0 = (rd_T26 xs j).f0) : i = j := by
  rcases Nat.lt_trichotomy i j with hl | hl | hl
  · have := rises h j i hl hj
    rw [e, Nm.cmp_self] at this; simp at this
  · exact hl
  · have := rises h i j hl hi
    rw [e, Nm.cmp_self] at this; simp at this
theorem kd_last (xs : List S26) (s : ByteArray) (i : Nat) : ∀ k, i < k → (rd_T26 xs i).f0 = s → (∀ j, j < k → (rd_T26 xs j).f0 = s → j = i) → kd xs k s = (rd_T26 xs i).f1
  | 0, h, _, _ => by omega
  | k + 1, h, hs, hu => by
    simp only [kd]
    by_cases hk : (rd_T26 xs k).f0 = s
    · rw [if_pos hk, hu k (by omega) hk]
    · rw [if_neg hk]
      have hne : i ≠ k := fun e => hk (by rw [← e]; exact hs)
      exact kd_last xs s i k (by omega) hs (fun j hj => hu j (by omega))
theorem kd_some (xs : List S26) (s : ByteArray) (K : Int) (h0 : K ≠ 0) : ∀ k, kd xs k s = K → ∃ i, i < k ∧ (rd_T26 xs i).f0 = s ∧ (rd_T26 xs i).f1 = K
  | 0, h => absurd h.symm h0
  | k + 1, h => by
    simp only [kd] at h
    split at h
    · rename_i hk
      exact ⟨k, by omega, hk, h⟩
    · obtain ⟨i, hi, h1⟩ := kd_some xs s K h0 k h
      exact ⟨i, by omega, h1⟩
theorem kd_has {xs : List S26} {k : Nat} (hk : k ≤ xs.length) (h : ∀ j, j < k → stepP xs j = 0) (s : ByteArray) {K : Int} (h0 : K ≠ 0) : hasB (xs.take k) s K = decide (kd xs k s = K) := by
  rw [Bool.eq_iff_iff, hasB_iff, decide_eq_true_iff]
  constructor
  · rintro ⟨x, hx, h1, h2⟩
    obtain ⟨i, hi, rfl⟩ := (mem_take xs k hk x).1 hx
    rw [kd_last xs s i k hi h1 (fun j hj e => apart h hj hi (e.trans h1.symm))]
    exact h2
  · intro e
    obtain ⟨i, hi, h1, h2⟩ := kd_some xs s K h0 k e
    exact ⟨_, (mem_take xs k hk _).2 ⟨i, hi, rfl⟩, h1, h2⟩
theorem refchk_l0 (xs : List S26) (hx : xs.length ≤ 256) (d : Nat) : ∀ i : Nat, i ≤ xs.length → xs.length - i = d → (∀ j, j < i → stepP xs j = 0) → Ev (fun k => tabularyref11_Check.l0 k xs (i : Int)) (chkP xs i) := by
  induction d with
  | zero =>
    intro i hi hd hs
    rw [chkP_end (by omega)]
    exact Ev.step (fun k => by simp only [tabularyref11_Check.l0]; rw [if_neg (by omega)]) (Ev.now _)
  | succ d ih =>
    intro i hi hd hs
    have hlt : i < xs.length := by omega
    have hw : wrap64 ((i : Int) + 1) = ((i + 1 : Nat) : Int) := wrap_succ (by omega)
    have next : stepP xs i = 0 → Ev (fun k => tabularyref11_Check.l0 k xs (wrap64 ((i : Int) + 1))) (chkP xs i) := fun h0 => by
      rw [chkP_go hlt h0]
      exact Ev.congr (fun k => by rw [hw]) (ih (i + 1) (by omega) (by omega) (fun j hj => by
        rcases Nat.lt_or_ge j i with h | h
        · exact hs j h
        · obtain rfl : j = i := by omega
          exact h0))
    by_cases hm : mayP (rd_T26 xs i) = 0
    case neg =>
      rw [chkP_stop hlt (step1 hm) hm]
      exact Ev.step (fun k => by simp only [tabularyref11_Check.l0]; rw [if_pos (by omega), if_pos (by omega)]) (Ev.bind (refmay_ev _) (Ev.congr (fun k => by rw [if_neg hm]) (Ev.now _)))
    have hsz := may_size hm
    have hz : ((i : Int)).toNat = i := Int.toNat_natCast i
    have htl : (xs.take i).length ≤ 1099511627776 := by rw [List.length_take]; omega
    -- the third test
    have j2t : ∀ r, r = ((i : Int), (112 : Int)) → Ev (fun k => tabularyref11_Check.j2 k xs (i : Int) true) r := fun r hr => by
      rw [hr]; exact Ev.step (fun k => by simp only [tabularyref11_Check.j2]; rw [if_pos trivial]) (Ev.now _)
    have j2f : ¬ (0 < i ∧ 0 ≤ cmpA xs i) → ¬ ((upB (rd_T26 xs i).f0).toList ≠ [] ∧ kd xs i (upB (rd_T26 xs i).f0) ≠ 2) → Ev (fun k => tabularyref11_Check.j2 k xs (i : Int) false) (chkP xs i) := fun h2 h3 => by
      by_cases hk : (rd_T26 xs i).f1 = 3
      · refine Ev.step (fun k => by simp only [tabularyref11_Check.j2]; rw [if_neg (by decide), if_pos (by omega), if_pos (by omega), if_pos hk, if_pos (by omega), hz]) (Ev.bind (has_ev _ htl _ _) ?_)
        rw [kd_has hi hs _ (by decide)]
        by_cases h1 : kd xs i (rd_T26 xs i).f5 = 1
        · rw [decide_eq_true h1]
          exact Ev.congr (fun k => by rw [if_pos rfl]) (next (step5 hm h2 h3 (fun h => h.2 h1)))
        · rw [decide_eq_false h1]
          rw [chkP_stop hlt (step4 hm h2 h3 ⟨hk, h1⟩) (by decide)]
          exact Ev.congr (fun k => by rw [if_neg (by decide)]) (Ev.now _)
      · exact Ev.step (fun k => by simp only [tabularyref11_Check.j2]; rw [if_neg (by decide), if_pos (by omega), if_pos (by omega), if_neg hk]) (next (step5 hm h2 h3 (fun h => hk h.1)))
    -- the second
    have j1t : ∀ r, r = ((i : Int), (111 : Int)) → Ev (fun k => tabularyref11_Check.j1 k xs (i : Int) true) r := fun r hr => by
      rw [hr]; exact Ev.step (fun k => by simp only [tabularyref11_Check.j1]; rw [if_pos trivial]) (Ev.now _)
    have j1f : ¬ (0 < i ∧ 0 ≤ cmpA xs i) → Ev (fun k => tabularyref11_Check.j1 k xs (i : Int) false) (chkP xs i) := fun h2 => by
      refine Ev.step (fun k => by simp only [tabularyref11_Check.j1]; rw [if_neg (by decide), if_pos (by omega), if_pos (by omega)]) (Ev.bind (refup_ev _ (by omega)) ?_)
      by_cases hu : (upB (rd_T26 xs i).f0).toList = []
      · exact Ev.congr (fun k => by rw [if_pos hu]) (j2f h2 (fun h => h.1 hu))
      · refine Ev.congr (fun k => by rw [if_neg hu, if_pos (by omega), hz]) (Ev.bind (has_ev _ htl _ _) ?_)
        rw [kd_has hi hs _ (by decide)]
        by_cases h1 : kd xs i (upB (rd_T26 xs i).f0) = 2
        · rw [decide_eq_true h1]
          exact Ev.congr (fun k => rfl) (j2f h2 (fun h => h.2 h1))
        · rw [decide_eq_false h1]
          exact Ev.congr (fun k => rfl) (j2t _ (chkP_stop hlt (step3 hm h2 ⟨hu, h1⟩) (by decide)))
    refine Ev.step (fun k => by simp only [tabularyref11_Check.l0]; rw [if_pos (by omega), if_pos (by omega)]) (Ev.bind (refmay_ev _) ?_)
    by_cases h0 : 0 < i
    · have hp : wrap64 ((i : Int) - 1) = ((i - 1 : Nat) : Int) := by unfold wrap64; omega
      have hm' : mayP (rd_T26 xs (i - 1 : Nat)) = 0 := by
        by_cases hq : mayP (rd_T26 xs (i - 1 : Nat)) = 0
        · exact hq
        · have := hs (i - 1) (by omega)
          rw [step1 hq] at this; exact this
      have hsz' := may_size hm'
      refine Ev.congr (fun k => by rw [if_pos hm, if_pos (by omega), hp, if_pos (by omega), if_pos (by omega)]) (Ev.bind (refcompare_ev _ _ (by omega) (by omega)) ?_)
      by_cases hc : 0 ≤ cmpA xs i
      · have : (Nm.cmpL (Nm.texts (rd_T26 xs (i - 1 : Nat)).f0.data.toList) (Nm.texts (rd_T26 xs i).f0.data.toList) != -1) = true := by
          unfold cmpA at hc
          simp only [bne_iff_ne, ne_eq]
          omega
        exact Ev.congr (fun k => by rw [this]) (j1t _ (chkP_stop hlt (step2 hm ⟨h0, hc⟩) (by decide)))
      · have : (Nm.cmpL (Nm.texts (rd_T26 xs (i - 1 : Nat)).f0.data.toList) (Nm.texts (rd_T26 xs i).f0.data.toList) != -1) = false := by
          unfold cmpA at hc
          rcases Nm.cmp_vals (Nm.texts (rd_T26 xs (i - 1 : Nat)).f0.data.toList) (Nm.texts (rd_T26 xs i).f0.data.toList) with e | e | e <;> rw [e] at hc ⊢ <;> simp at hc ⊢
        exact Ev.congr (fun k => by rw [this]) (j1f (fun h => hc h.2))
    · exact Ev.congr (fun k => by rw [if_pos hm, if_neg (by omega)]) (j1f (fun h => h0 h.1))
theorem refchk_ev (xs : List S26) : Ev (fun k => tabularyref11_Check.f k xs) (checkP xs) := by
  unfold checkP
  by_cases h : 256 < xs.length
  · rw [if_pos h]
    exact Ev.congr (fun k => by rw [tabularyref11_Check.f, if_pos (by omega)]) (Ev.now _)
  · rw [if_neg h]
    exact Ev.congr (fun k => by rw [tabularyref11_Check.f, if_neg (by omega)]; rfl) (refchk_l0 xs (by omega) xs.length 0 (Nat.zero_le _) (by omega) (fun j hj => absurd hj (Nat.not_lt_zero j)))
end Go.Proofs.YthpecpkncifngaaDoor.X
end

/- The contract of tree.With. -/
section
namespace Go.Proofs.YthpecpkncifngaaDoor.X
open Go Go.RowKit Go.Shelf Go.Proofs.YthpecpkncifngaaDoor Go.Proofs.YthpecpkncifngaaDoorW.PrintWords Go.Proofs.YthpecpkncifngaaDoorW.PrintLast Go.Proofs.YthpecpkncifngaaDoorW.PrintMore Go.Proofs.YthpecpkncifngaaDoor.Pure
theorem chk_all {xs : List S26} (d : Nat) : ∀ i : Nat, xs.length - i = d → i ≤ xs.length → (chkP xs i).2 = 0 → ∀ j, i ≤ j → j < xs.length → stepP xs j = 0 := by
  induction d with
  | zero => intro i hd hi h j h1 h2; omega
  | succ d ih =>
    intro i hd hi h j h1 h2
    have hlt : i < xs.length := by omega
    by_cases hs : stepP xs i = 0
    · rw [chkP_go hlt hs] at h
      rcases Nat.eq_or_lt_of_le h1 with e | e
      · rw [← e]; exact hs
      · exact ih (i + 1) (by omega) (by omega) h j e h2
    · rw [chkP_stop hlt rfl hs] at h
      exact absurd h hs
theorem chk_ok {xs : List S26} (h : (checkP xs).2 = 0) : xs.length ≤ 256 ∧ ∀ j, j < xs.length → stepP xs j = 0 := by
  unfold checkP at h
  split at h
  · simp at h
  · exact ⟨by omega, fun j hj => chk_all _ 0 rfl (Nat.zero_le _) h j (Nat.zero_le _) hj⟩
theorem step_may {xs : List S26} {j : Nat} (h : stepP xs j = 0) : mayP (rd_T26 xs j) = 0 := by
  by_cases hm : mayP (rd_T26 xs j) = 0
  · exact hm
  · rw [step1 hm] at h; exact h
theorem chk_rise {xs : List S26} (h : (checkP xs).2 = 0) : xs.Pairwise (fun a b => cmpI a b = -1) ∧ ∀ x ∈ xs, mayP x = 0 := by
  obtain ⟨_, hs⟩ := chk_ok h
  constructor
  · rw [List.pairwise_iff_getElem]
    intro i j hi hj hij
    have := rises hs j i hij hj
    rw [rd_get xs i hi, rd_get xs j hj] at this
    exact this
  · intro x hx
    obtain ⟨i, hi, rfl⟩ := List.getElem_of_mem hx
    have := step_may (hs i hi)
    rwa [rd_get xs i hi] at this
end Go.Proofs.YthpecpkncifngaaDoor.X
end

/- Plain words on paths: parts that are not empty and have no stroke; what is joined of them is parted again. -/
section
namespace Go.Proofs.YthpecpkncifngaaDoor.Nm
def Pt (x : List UInt8) : Prop := x ≠ [] ∧ (47 : UInt8) ∉ x
def Good (L : List (List UInt8)) : Prop := ∀ x ∈ L, Pt x
theorem Good.nil : Good [] := fun x h => by cases h
theorem Good.cons {x : List UInt8} {L : List (List UInt8)} (h : Pt x) (hL : Good L) : Good (x :: L) := fun y hy => by
  rcases List.mem_cons.1 hy with rfl | hy
  · exact h
  · exact hL y hy
theorem Good.append {a b : List (List UInt8)} (ha : Good a) (hb : Good b) : Good (a ++ b) := fun x hx => (List.mem_append.1 hx).elim (ha x) (hb x)
theorem Good.head {x : List UInt8} {L : List (List UInt8)} (h : Good (x :: L)) : Pt x := h x (by simp)
theorem Good.tail {x : List UInt8} {L : List (List UInt8)} (h : Good (x :: L)) : Good L := fun y hy => h y (List.mem_cons_of_mem _ hy)
theorem Good.sub {a b : List (List UInt8)} (h : Good b) (hs : ∀ x ∈ a, x ∈ b) : Good a := fun x hx => h x (hs x hx)
theorem pc_ns : ∀ (l : List UInt8) (p : Nat), (47 : UInt8) ∉ (pc p l).1 ∧ ∀ x ∈ (pc p l).2, (47 : UInt8) ∉ x.2
  | [], _ => by simp [pc]
  | c :: l, p => by
    have h := pc_ns l (p + 1)
    by_cases hc : c = 47
    · simp only [pc, hc, if_true, List.mem_cons]
      refine ⟨by simp, ?_⟩
      rintro x (rfl | hx)
      · exact h.1
      · exact h.2 x hx
    · simp only [pc, hc, if_false, List.mem_cons, not_or]
      exact ⟨⟨fun e => hc e.symm, h.1⟩, h.2⟩
theorem texts_ns (l : List UInt8) : ∀ x ∈ texts l, (47 : UInt8) ∉ x := by
  intro x hx
  obtain ⟨y, hy, rfl⟩ := List.mem_map.1 hx
  rcases List.mem_cons.1 hy with rfl | hy
  · exact (pc_ns l 0).1
  · exact (pc_ns l 0).2 y hy
theorem bad_none_ne {l : List UInt8} (h : bad l = none) : l ≠ [] := by
  rintro rfl
  simp [bad] at h
theorem check_good {l : List UInt8} (h : (check l).2 = 0) : Good (texts l) := fun x hx => ⟨bad_none_ne (((check_ok l).1 h).2 x hx), texts_ns l x hx⟩
theorem texts_one {x : List UInt8} (h : (47 : UInt8) ∉ x) : texts x = [x] := by
  have : ∀ (l : List UInt8) (p : Nat), (47 : UInt8) ∉ l → pc p l = (l, []) := by
    intro l
    induction l with
    | nil => intro p _; rfl
    | cons c l ih =>
      intro p hl
      have hc : ¬ c = 47 := fun e => hl (by rw [e]; exact List.mem_cons_self ..)
      simp only [pc, hc, if_false, ih (p + 1) (fun h => hl (List.mem_cons_of_mem _ h))]
  simp [texts, pieces, this x 0 h]
theorem texts_joinT : ∀ (L : List (List UInt8)), L ≠ [] → (∀ x ∈ L, (47 : UInt8) ∉ x) → texts (joinT L) = L
  | [x], _, h => texts_one (h x (by simp))
  | x :: y :: r, _, h => by
    rw [joinT, texts_append, texts_one (h x (by simp)), texts_joinT (y :: r) (by simp) (fun z hz => h z (List.mem_cons_of_mem _ hz))]
    rfl
def partsL (s : List UInt8) : List (List UInt8) := if s = [] then [] else texts s
theorem joinT_nil {L : List (List UInt8)} (h : Good L) : joinT L = [] ↔ L = [] := by
  constructor
  · intro e
    match L, h, e with
    | [], _, _ => rfl
    | [x], h, e => exact absurd e (h.head).1
    | x :: y :: r, h, e => simp [joinT] at e
  · rintro rfl; rfl
theorem parts_joinT {L : List (List UInt8)} (h : Good L) : partsL (joinT L) = L := by
  by_cases e : L = []
  · subst e; rfl
  · rw [partsL, if_neg (fun q => e ((joinT_nil h).1 q)), texts_joinT L e (fun x hx => (h x hx).2)]
theorem joinT_parts (s : List UInt8) : joinT (partsL s) = s := by
  unfold partsL
  split
  · rename_i h; rw [h]; rfl
  · exact joinT_texts s
theorem parts_check {l : List UInt8} (h : (check l).2 = 0) : l ≠ [] ∧ partsL l = texts l ∧ Good (partsL l) := by
  have hne : l ≠ [] := by
    rintro rfl
    have := check_good h [] (by decide)
    exact this.1 rfl
  have e : partsL l = texts l := by rw [partsL, if_neg hne]
  exact ⟨hne, e, e ▸ check_good h⟩
theorem way_good : ∀ (b ps q : List (List UInt8)), way ps b = some q → Good ps → (∀ x ∈ b, (47 : UInt8) ∉ x) → Good q
  | [], ps, q, h, hp, _ => by simp only [way, Option.some.injEq] at h; exact h ▸ hp
  | x :: r, ps, q, h, hp, hb => by
    have hr : ∀ y ∈ r, (47 : UInt8) ∉ y := fun y hy => hb y (List.mem_cons_of_mem _ hy)
    simp only [way] at h
    split at h
    · exact way_good r ps q h hp hr
    · rename_i h1
      split at h
      · split at h
        · simp at h
        · exact way_good r _ q h (hp.sub fun y hy => (List.dropLast_sublist _).subset hy) hr
      · refine way_good r _ q h (hp.append (Good.cons ⟨fun e => h1 (.inl e), hb x (by simp)⟩ Good.nil)) hr
theorem lead_good {a t : List UInt8} (h : (lead a t).2 = 0) : ∃ q, (lead a t).1 = joinT q ∧ Good q ∧ totL q ≤ 802 := by
  unfold lead at h ⊢
  split at h
  · rename_i h1; exact absurd h h1
  · rename_i h1
    rw [if_neg h1]
    split at h
    · simp at h
    · rename_i h2
      rw [if_neg h2]
      split at h
      · simp at h
      · rename_i h3
        rw [if_neg h3]
        split at h
        · simp at h
        · rename_i h4
          rw [if_neg h4]
          split at h
          · simp at h
          · rename_i h5
            rw [if_neg h5]
            cases hw : way (texts a).dropLast (texts t) with
            | none => rw [hw] at h; simp [led] at h
            | some q =>
              have hc : (check a).2 = 0 := by omega
              have ha := ((check_ok a).1 hc).1
              refine ⟨q, by simp [led], way_good _ _ _ hw ((check_good hc).sub fun y hy => (List.dropLast_sublist _).subset hy) (texts_ns t), ?_⟩
              have := way_tot _ _ _ hw
              have := totL_dropLast (texts a)
              rw [totL_texts] at *
              omega
theorem joinT_len_good : ∀ (L : List (List UInt8)), L ≠ [] → (joinT L).length + 1 = totL L
  | [x], _ => by simp [joinT, totL]
  | x :: y :: r, _ => by
    have := joinT_len_good (y :: r) (by simp)
    simp only [joinT, totL, List.map_cons, List.sum_cons, List.length_append, List.length_cons] at this ⊢
    omega
end Go.Proofs.YthpecpkncifngaaDoor.Nm
end

/- Where a path leads, as plain words; what a checked list's items have. -/
section
namespace Go.Proofs.YthpecpkncifngaaDoor.X
open Go Go.RowKit Go.Shelf Go.Proofs.YthpecpkncifngaaDoor Go.Proofs.YthpecpkncifngaaDoorW.PrintWords Go.Proofs.YthpecpkncifngaaDoorW.PrintLast Go.Proofs.YthpecpkncifngaaDoorW.PrintMore Go.Proofs.YthpecpkncifngaaDoor.Pure
def itemOf (xs : List S26) (s : List UInt8) : Option S26 := xs.find? (fun x => x.f0.data.toList == s)
def hardTo (xs : List S26) (x : S26) : S26 := if x.f1 = 3 then (itemOf xs x.f5.data.toList).getD x else x
def realP (xs : List S26) (reached left : List (List UInt8)) (hops : Nat) : List UInt8 × Int :=
  match left with
  | [] => (Nm.joinT reached, 0)
  | p :: rest =>
    match itemOf xs (Nm.joinT (reached ++ [p])) with
    | none => ([], 4)
    | some x =>
      if (hardTo xs x).f1 = 1 ∧ rest ≠ [] then ([], 4)
      else if (hardTo xs x).f1 ≠ 4 then realP xs (Nm.partsL (hardTo xs x).f0.data.toList) rest hops
      else if h : 40 ≤ hops then ([], 114)
      else realP xs [] (Nm.partsL (Nm.lead (hardTo xs x).f0.data.toList (hardTo xs x).f5.data.toList).1 ++ rest) (hops + 1)
termination_by (40 - hops, left.length)
decreasing_by
  · exact Prod.Lex.right _ (by simp)
  · exact Prod.Lex.left _ _ (by omega)
section
variable {xs : List S26} {R rest : List (List UInt8)} {p : List UInt8} {hops : Nat} {x : S26}
theorem real_nil : realP xs R [] hops = (Nm.joinT R, 0) := by rw [realP]
theorem real_none (h : itemOf xs (Nm.joinT (R ++ [p])) = none) : realP xs R (p :: rest) hops = ([], 4) := by rw [realP, h]
theorem real_file (h : itemOf xs (Nm.joinT (R ++ [p])) = some x) (h1 : (hardTo xs x).f1 = 1) (h2 : rest ≠ []) : realP xs R (p :: rest) hops = ([], 4) := by
  rw [realP, h]; exact if_pos ⟨h1, h2⟩
theorem real_go (h : itemOf xs (Nm.joinT (R ++ [p])) = some x) (h1 : ¬ ((hardTo xs x).f1 = 1 ∧ rest ≠ [])) (h2 : (hardTo xs x).f1 ≠ 4) : realP xs R (p :: rest) hops = realP xs (Nm.partsL (hardTo xs x).f0.data.toList) rest hops := by
  rw [realP, h]; exact (if_neg h1).trans (if_pos h2)
theorem real_loop (h : itemOf xs (Nm.joinT (R ++ [p])) = some x) (h2 : (hardTo xs x).f1 = 4) (h3 : 40 ≤ hops) : realP xs R (p :: rest) hops = ([], 114) := by
  rw [realP, h]; exact (if_neg (fun q => by have := q.1; omega)).trans ((if_neg (by simp [h2])).trans (dif_pos h3))
theorem real_soft (h : itemOf xs (Nm.joinT (R ++ [p])) = some x) (h2 : (hardTo xs x).f1 = 4) (h3 : ¬ 40 ≤ hops) : realP xs R (p :: rest) hops = realP xs [] (Nm.partsL (Nm.lead (hardTo xs x).f0.data.toList (hardTo xs x).f5.data.toList).1 ++ rest) (hops + 1) := by
  rw [realP, h]; exact (if_neg (fun q => by have := q.1; omega)).trans ((if_neg (by simp [h2])).trans (dif_neg h3))
end
def realT (xs : List S26) (path : List UInt8) : List UInt8 × Int :=
  if (checkP xs).2 ≠ 0 then ([], (checkP xs).2) else if path = [] then ([], 0) else
  if (Nm.check path).2 ≠ 0 then ([], ((Nm.check path).2 : Int)) else realP xs [] (Nm.texts path) 0
theorem item_some {xs : List S26} {s : List UInt8} {x : S26} (h : itemOf xs s = some x) : x ∈ xs ∧ x.f0.data.toList = s :=
  ⟨List.mem_of_find?_eq_some h, by have := List.find?_some h; simpa using this⟩
def lk (xs : List S26) : Nat → ByteArray → Option Nat
  | 0, _ => none
  | k + 1, s => if (rd_T26 xs k).f0 = s then some k else lk xs k s
theorem lk_some (xs : List S26) (s : ByteArray) : ∀ (k i : Nat), lk xs k s = some i → i < k ∧ (rd_T26 xs i).f0 = s
  | 0, i, h => by simp [lk] at h
  | k + 1, i, h => by
    rw [lk] at h
    split at h
    · rename_i e
      obtain rfl : k = i := by simpa using h
      exact ⟨by omega, e⟩
    · obtain ⟨h1, h2⟩ := lk_some xs s k i h
      exact ⟨by omega, h2⟩
theorem lk_none (xs : List S26) (s : ByteArray) : ∀ (k : Nat), lk xs k s = none → ∀ i, i < k → (rd_T26 xs i).f0 ≠ s
  | 0, _, i, hi => by omega
  | k + 1, h, i, hi => by
    rw [lk] at h
    split at h
    · cases h
    · rename_i e
      rcases Nat.lt_succ_iff_lt_or_eq.1 hi with hi | rfl
      · exact lk_none xs s k h i hi
      · exact e
theorem data_inj {a b : ByteArray} (h : a.data.toList = b.data.toList) : a = b := by
  have : a.data = b.data := Array.toList_inj.1 h
  cases a; cases b; simpa using this
theorem item_of_mem {xs : List S26} (hc : (checkP xs).2 = 0) {x : S26} (hx : x ∈ xs) : itemOf xs x.f0.data.toList = some x := by
  obtain ⟨_, hs⟩ := chk_ok hc
  cases h : itemOf xs x.f0.data.toList with
  | none =>
    have := List.find?_eq_none.1 h x hx
    simp at this
  | some z =>
    obtain ⟨hz, he⟩ := item_some h
    obtain ⟨i, hi, rfl⟩ := List.getElem_of_mem hx
    obtain ⟨j, hj, rfl⟩ := List.getElem_of_mem hz
    have e : (rd_T26 xs j).f0 = (rd_T26 xs i).f0 := by rw [rd_get xs i hi, rd_get xs j hj]; exact data_inj he
    have := apart (k := xs.length) (fun j hj => hs j hj) hj hi e
    subst this
    rfl
theorem item_none {xs : List S26} {s : List UInt8} (h : ∀ i : Nat, i < xs.length → (rd_T26 xs i).f0.data.toList ≠ s) : itemOf xs s = none := by
  refine List.find?_eq_none.2 fun x hx => ?_
  obtain ⟨i, hi, rfl⟩ := List.getElem_of_mem hx
  have := h i hi
  rw [rd_get xs i hi] at this
  simpa using this
theorem lk_item {xs : List S26} (hc : (checkP xs).2 = 0) (s : ByteArray) : (lk xs xs.length s).map (fun i : Nat => rd_T26 xs i) = itemOf xs s.data.toList := by
  cases h : lk xs xs.length s with
  | none =>
    have := lk_none xs s _ h
    rw [item_none (fun i hi e => this i hi (data_inj e))]
    rfl
  | some i =>
    obtain ⟨h1, h2⟩ := lk_some xs s _ i h
    have hm : rd_T26 xs i ∈ xs := by rw [rd_get xs i h1]; exact List.getElem_mem h1
    have := item_of_mem hc hm
    rw [h2] at this
    rw [this]
    rfl
theorem item_idx {xs : List S26} (s : ByteArray) (d : Nat) : ∀ i : Nat, i ≤ xs.length → xs.length - i = d → (∀ j, j < i → (rd_T26 xs j).f0.toList ≠ s.toList) →
    (itemOf xs s.data.toList = none ∧ idxP (fun x => x.f0.toList == s.toList) xs i = -1) ∨ ∃ j : Nat, j < xs.length ∧ idxP (fun x => x.f0.toList == s.toList) xs i = (j : Int) ∧ itemOf xs s.data.toList = some (rd_T26 xs j) := by
  induction d with
  | zero =>
    intro i hi hd hn
    left
    refine ⟨item_none (fun j hj e => hn j (by omega) ?_), idxP_end (by omega)⟩
    rw [Lib.toList_data, Lib.toList_data]; exact e
  | succ d ih =>
    intro i hi hd hn
    have hlt : i < xs.length := by omega
    by_cases h : ((rd_T26 xs i).f0.toList == s.toList) = true
    · right
      refine ⟨i, hlt, idxP_yes hlt h, ?_⟩
      have e : (rd_T26 xs i).f0.data.toList = s.data.toList := by
        have := eq_of_beq h
        rwa [Lib.toList_data, Lib.toList_data] at this
      unfold itemOf
      rw [List.find?_eq_some_iff_append]
      refine ⟨by simpa using e, xs.take i, xs.drop (i + 1), ?_, ?_⟩
      · rw [← rd_drop xs i hlt, List.take_append_drop]
      · intro a ha
        obtain ⟨j, hj, rfl⟩ := (mem_take xs i hi a).1 ha
        have := hn j hj
        rw [Lib.toList_data, Lib.toList_data] at this
        simpa using this
    · have h' : ((rd_T26 xs i).f0.toList == s.toList) = false := by simpa using h
      rw [idxP_no (p := fun x => x.f0.toList == s.toList) hlt h']
      refine ih (i + 1) (by omega) (by omega) (fun j hj => ?_)
      rcases Nat.lt_succ_iff_lt_or_eq.1 hj with hj | rfl
      · exact hn j hj
      · simpa using h
theorem find_item (xs : List S26) (s : ByteArray) : (itemOf xs s.data.toList = none ∧ findP xs s = (0, 4)) ∨ ∃ j : Nat, j < xs.length ∧ findP xs s = ((j : Int), 0) ∧ itemOf xs s.data.toList = some (rd_T26 xs j) := by
  rcases item_idx (xs := xs) s _ 0 (Nat.zero_le _) rfl (fun j hj => by omega) with ⟨h1, h2⟩ | ⟨j, h1, h2, h3⟩
  · left; refine ⟨h1, ?_⟩; unfold findP; rw [h2]; rfl
  · right; refine ⟨j, h1, ?_, h3⟩; unfold findP; rw [h2, if_neg (by omega)]
theorem may_check {x : S26} (h : mayP x = 0) : (Nm.check x.f0.data.toList).2 = 0 := by
  by_cases hc : (Nm.check x.f0.data.toList).2 = 0
  · exact hc
  · unfold mayP at h
    rw [if_pos hc] at h
    omega
theorem may_kind {x : S26} (h : mayP x = 0) : x.f1 = 1 ∨ x.f1 = 2 ∨ x.f1 = 3 ∨ x.f1 = 4 := by
  have hc := may_check h
  unfold mayP at h
  rw [if_neg (by simp [hc])] at h
  by_cases h1 : x.f1 = 1
  · exact .inl h1
  rw [if_neg h1] at h
  by_cases h2 : x.f1 = 2
  · exact .inr (.inl h2)
  rw [if_neg h2] at h
  by_cases h3 : x.f1 = 3
  · exact .inr (.inr (.inl h3))
  rw [if_neg h3] at h
  by_cases h4 : x.f1 = 4
  · exact .inr (.inr (.inr h4))
  rw [if_neg h4] at h
  omega
theorem mayT_zero {x : S26} {M T : Int} {bo tq : Bool} {r : Int} (h : mayT x M T bo tq r = 0) : r = 0 := by
  unfold mayT at h
  by_cases a1 : x.f3 < 0
  · rw [if_pos a1] at h; omega
  rw [if_neg a1] at h
  by_cases a2 : T < x.f3
  · rw [if_pos a2] at h; omega
  rw [if_neg a2] at h
  by_cases a3 : x.f2 < 0
  · rw [if_pos a3] at h; omega
  rw [if_neg a3] at h
  by_cases a4 : M < x.f2
  · rw [if_pos a4] at h; omega
  rw [if_neg a4] at h
  by_cases a5 : 0 < x.f4.length ∧ bo = false
  · rw [if_pos a5] at h; omega
  rw [if_neg a5] at h
  by_cases a6 : x.f5.toList ≠ [] ∧ tq = false
  · rw [if_pos a6] at h; omega
  rwa [if_neg a6] at h
theorem may_soft_lead {x : S26} (h : mayP x = 0) (h4 : x.f1 = 4) : (Nm.lead x.f0.data.toList x.f5.data.toList).2 = 0 := by
  have hc := may_check h
  unfold mayP at h
  rw [if_neg (by simp [hc]), if_neg (by omega), if_neg (by omega), if_neg (by omega), if_pos h4] at h
  have := mayT_zero h
  unfold softP at this
  omega
theorem hard_file {xs : List S26} (hc : (checkP xs).2 = 0) {x : S26} (hx : x ∈ xs) (h3 : x.f1 = 3) : ∃ z, z ∈ xs ∧ itemOf xs x.f5.data.toList = some z ∧ z.f1 = 1 := by
  obtain ⟨_, hs⟩ := chk_ok hc
  obtain ⟨i, hi, rfl⟩ := List.getElem_of_mem hx
  have h := hs i hi
  have hm := step_may h
  have hk : kd xs i xs[i].f5 = 1 := by
    by_cases hk : kd xs i xs[i].f5 = 1
    · exact hk
    · exfalso
      unfold stepP at h
      rw [if_neg (by simp [hm]), rd_get xs i hi] at h
      split at h
      · omega
      · split at h
        · omega
        · rw [if_pos ⟨h3, hk⟩] at h; omega
  obtain ⟨j, hj, h1, h2⟩ := kd_some xs xs[i].f5 1 (by decide) i hk
  have hm : rd_T26 xs j ∈ xs := by rw [rd_get xs j (by omega)]; exact List.getElem_mem _
  refine ⟨rd_T26 xs j, hm, ?_, h2⟩
  have := item_of_mem hc hm
  rwa [h1] at this
end Go.Proofs.YthpecpkncifngaaDoor.X
end

/- Plain words on paths: joined parts, cut at the first stroke, and trimmed of strokes. -/
section
namespace Go.Proofs.YthpecpkncifngaaDoor.Nm
theorem joinT_cut {p : List UInt8} {rest : List (List UInt8)} (h : Good (p :: rest)) :
    (rest = [] ∧ Lib.indexByte (joinT (p :: rest)) 47 = -1 ∧ joinT (p :: rest) = p) ∨
    (rest ≠ [] ∧ Lib.indexByte (joinT (p :: rest)) 47 = p.length ∧ p.length < (joinT (p :: rest)).length ∧ (joinT (p :: rest)).take p.length = p ∧ (joinT (p :: rest)).drop (p.length + 1) = joinT rest) := by
  have ht := texts_joinT (p :: rest) (by simp) (fun x hx => (h x hx).2)
  generalize hl : joinT (p :: rest) = l at ht ⊢
  have hge := Lib.indexByte_ge l 47
  by_cases hi : Lib.indexByte l 47 = -1
  · left
    have h1 : texts l = [l] := by simp [texts, pieces_none l 0 hi]
    rw [h1] at ht
    injection ht with a b
    exact ⟨b.symm, hi, a⟩
  · right
    obtain ⟨n, hn⟩ := Int.eq_ofNat_of_zero_le (show 0 ≤ Lib.indexByte l 47 by omega)
    have h1 : texts l = l.take n :: texts (l.drop (n + 1)) := by
      simp only [texts, pieces_some l 0 n hn, List.map_cons]
      rw [pieces_texts]; rfl
    have hlt := (pc_some l 0 n hn).1
    rw [h1] at ht
    injection ht with a b
    have hp : p.length = n := by rw [← a, List.length_take]; omega
    refine ⟨by rw [← b]; exact texts_ne _, by rw [hp]; exact hn, by omega, by rw [hp]; exact a, by rw [hp, ← b, joinT_texts]⟩
theorem joinT_first {L : List (List UInt8)} (h : Good L) (hne : L ≠ []) : ∃ c d, joinT L = c :: d ∧ c ≠ 47 := by
  match L, h, hne with
  | x :: r, h, _ =>
    obtain ⟨hx, hn⟩ := h.head
    match x, hx, hn with
    | c :: d, _, hn =>
      have hc : c ≠ 47 := fun e => hn (by rw [e]; exact List.mem_cons_self ..)
      match r with
      | [] => exact ⟨c, d, rfl, hc⟩
      | y :: s => exact ⟨c, _, rfl, hc⟩
theorem joinT_last : ∀ {L : List (List UInt8)}, Good L → L ≠ [] → ∃ a b, joinT L = a ++ [b] ∧ b ≠ 47
  | [x], h, _ => by
    obtain ⟨hx, hn⟩ := h.head
    refine ⟨x.dropLast, x.getLast hx, by rw [joinT, List.dropLast_concat_getLast], fun e => hn (by rw [← e]; exact List.getLast_mem hx)⟩
  | x :: y :: r, h, _ => by
    obtain ⟨a, b, e, hb⟩ := joinT_last (L := y :: r) h.tail (by simp)
    exact ⟨x ++ 47 :: a, b, by rw [joinT, e]; simp, hb⟩
theorem trimR_keep (a : List UInt8) (b : UInt8) (h : b ≠ 47) : Lib.trimRightB (a ++ [b]) 47 = a ++ [b] := by
  simp [Lib.trimRightB, List.dropWhile_cons, h]
theorem trimR_one (a : List UInt8) : Lib.trimRightB (a ++ [47]) 47 = Lib.trimRightB a 47 := by
  simp [Lib.trimRightB, List.dropWhile_cons]
theorem trimL_keep (c : UInt8) (d : List UInt8) (h : c ≠ 47) : Lib.trimLeftB (c :: d) 47 = c :: d := by
  simp [Lib.trimLeftB, List.dropWhile_cons, h]
theorem trimL_one (d : List UInt8) : Lib.trimLeftB (47 :: d) 47 = Lib.trimLeftB d 47 := by
  simp [Lib.trimLeftB, List.dropWhile_cons]
theorem trim_good {L : List (List UInt8)} (h : Good L) : Lib.trimRightB (joinT L) 47 = joinT L ∧ Lib.trimLeftB (joinT L) 47 = joinT L := by
  by_cases e : L = []
  · subst e; exact ⟨rfl, rfl⟩
  · obtain ⟨a, b, e1, hb⟩ := joinT_last h e
    obtain ⟨c, d, e2, hc⟩ := joinT_first h e
    exact ⟨by rw [e1, trimR_keep a b hb], by rw [e2, trimL_keep c d hc]⟩
theorem trim_join {q L : List (List UInt8)} (hq : Good q) (hL : Good L) : Lib.trimB (joinT q ++ 47 :: joinT L) 47 = joinT (q ++ L) := by
  unfold Lib.trimB
  by_cases eL : L = []
  · subst eL
    rw [show joinT q ++ 47 :: joinT [] = joinT q ++ [47] from rfl, trimR_one, (trim_good hq).1, (trim_good hq).2, List.append_nil]
  · obtain ⟨a, b, e1, hb⟩ := joinT_last hL eL
    have hr : Lib.trimRightB (joinT q ++ 47 :: joinT L) 47 = joinT q ++ 47 :: joinT L := by
      rw [e1, show joinT q ++ 47 :: (a ++ [b]) = (joinT q ++ 47 :: a) ++ [b] by simp, trimR_keep _ b hb]
    rw [hr]
    by_cases eq : q = []
    · subst eq
      rw [show joinT [] ++ 47 :: joinT L = 47 :: joinT L from rfl, trimL_one, (trim_good hL).2, List.nil_append]
    · rw [← joinT_append q L eq eL]
      exact (trim_good (hq.append hL)).2
end Go.Proofs.YthpecpkncifngaaDoor.Nm
end

/- The contract of tree.Real: the map of items. -/
section
namespace Go.Proofs.YthpecpkncifngaaDoor.X
open Go Go.RowKit Go.Shelf Go.Proofs.YthpecpkncifngaaDoor Go.Proofs.YthpecpkncifngaaDoorW.PrintWords Go.Proofs.YthpecpkncifngaaDoorW.PrintLast Go.Proofs.YthpecpkncifngaaDoorW.PrintMore Go.Proofs.YthpecpkncifngaaDoor.Pure
def MapOf (xs : List S26) (k : Nat) (l : List (ByteArray × Value)) : Prop :=
  ∀ s, (lk xs k s = none ∧ Mp.mget l s = none) ∨ ∃ (i : Nat) (A4 : Option Addr) (c4 : Nat), lk xs k s = some i ∧ Mp.mget l s = some (.agg (cellsIt (rd_T26 xs i) A4 c4))
theorem MapOf.nil (xs : List S26) : MapOf xs 0 [] := fun s => .inl ⟨rfl, rfl⟩
theorem MapOf.put {xs : List S26} {k : Nat} {l : List (ByteArray × Value)} (h : MapOf xs k l) (A4 : Option Addr) (c4 : Nat) :
    MapOf xs (k + 1) (Mp.mput l (rd_T26 xs k).f0 (.agg (cellsIt (rd_T26 xs k) A4 c4))) := by
  intro s
  rw [Mp.mget_put, lk]
  by_cases e : (rd_T26 xs k).f0 = s
  · rw [if_pos e, if_pos e]
    exact .inr ⟨k, A4, c4, rfl, rfl⟩
  · rw [if_neg e, if_neg e]
    exact h s
theorem MapOf.tells {xs : List S26} {l : List (ByteArray × Value)} (h : MapOf xs xs.length l) (hc : (checkP xs).2 = 0) (s : ByteArray) :
    (itemOf xs s.data.toList = none ∧ Mp.mget l s = none) ∨ ∃ x A4 c4, itemOf xs s.data.toList = some x ∧ Mp.mget l s = some (.agg (cellsIt x A4 c4)) := by
  have hi := lk_item hc s
  rcases h s with ⟨h1, h2⟩ | ⟨i, A4, c4, h1, h2⟩
  · rw [h1] at hi; exact .inl ⟨hi.symm, h2⟩
  · rw [h1] at hi; exact .inr ⟨_, A4, c4, hi.symm, h2⟩
theorem zeroIt (w : World) : (zeroValue 26).run Tryd.prog w = .ok (.agg #[.string ⟨#[]⟩, .int .u8 0, .int .i64 0, .int .i64 0, .slice none 0 0, .string ⟨#[]⟩]) w := by kernel_rfl
theorem slcut_any (s : ByteArray) (w : World) (hs : s.size ≤ 1048576) :
    Calls Tryd.prog 83 #[.string s, .string ⟨#[47]⟩] w fun e w' => (∃ b, e = .returned (.tuple #[.string (if Lib.indexByte s.data.toList 47 = -1 then s else s.extract 0 (Lib.indexByte s.data.toList 47).toNat), .string (if Lib.indexByte s.data.toList 47 = -1 then ⟨#[]⟩ else s.extract ((Lib.indexByte s.data.toList 47).toNat + 1) s.size), .bool b])) ∧ ∃ n, w' = w.drewN n := by
  have hge := Lib.indexByte_ge s.data.toList 47
  by_cases hi : Lib.indexByte s.data.toList 47 = -1
  · rw [if_pos hi, if_pos hi]
    go_enter Tryd.func83, Tryd.ntmps83
    go_wp2_with fail
    refine (Tryd.stringslite_Index_one s 47 w).mono ?_
    rw [hi]
    rintro e w' ⟨rfl, rfl⟩
    go_wp2
    go_ret3
    exact ⟨⟨_, rfl⟩, 0, rfl⟩
  · rw [if_neg hi, if_neg hi]
    obtain ⟨n, hn⟩ := Int.eq_ofNat_of_zero_le (show 0 ≤ Lib.indexByte s.data.toList 47 by omega)
    have hlt := (Nm.pc_some s.data.toList 0 n hn).1
    rw [Pure.len_eq] at hlt
    have c1 : decide ((0 : Int) ≤ (n : Int)) = true := decide_eq_true (by omega)
    rw [hn, Int.toNat_natCast]
    go_enter Tryd.func83, Tryd.ntmps83
    go_wp2_with fail
    refine (Tryd.stringslite_Index_one s 47 w).mono ?_
    rw [hn]
    rintro e w' ⟨rfl, rfl⟩
    clear hi hge hn
    go_wp2
    go_quiet (fail)
    go_wp2
    go_ret3
    exact ⟨⟨_, rfl⟩, _, rfl⟩
end Go.Proofs.YthpecpkncifngaaDoor.X
end

/- The contract of tree.Real: the walk. -/
section
namespace Go.Proofs.YthpecpkncifngaaDoor.X
open Go Go.RowKit Go.Shelf Go.Proofs.YthpecpkncifngaaDoor Go.Proofs.YthpecpkncifngaaDoorW.PrintWords Go.Proofs.YthpecpkncifngaaDoorW.PrintLast Go.Proofs.YthpecpkncifngaaDoorW.PrintMore Go.Proofs.YthpecpkncifngaaDoor.Pure
def szOf : Value → Nat
  | .string s => s.size
  | _ => 0
theorem isEmpty_true {s : ByteArray} (h : s.data.toList = []) : s.toList.isEmpty = true := by rw [Lib.toList_data, h]; rfl
theorem isEmpty_false {s : ByteArray} (h : s.data.toList ≠ []) : s.toList.isEmpty = false := by rw [Lib.toList_data]; simpa using h
theorem cut_any {s : ByteArray} {p : List UInt8} {rest : List (List UInt8)} (hs : s.data.toList = Nm.joinT (p :: rest)) (hG : Nm.Good (p :: rest)) (hz : s.size ≤ 1048576) :
    ∃ sp sl : ByteArray, sp.data.toList = p ∧ sl.data.toList = Nm.joinT rest ∧ ∀ w, Calls Tryd.prog 58 #[.string s, .string ⟨#[47]⟩] w fun e w' => (∃ b, e = .returned (.tuple #[.string sp, .string sl, .bool b])) ∧ ∃ n, w' = w.drewN n := by
  refine ⟨if Lib.indexByte s.data.toList 47 = -1 then s else s.extract 0 (Lib.indexByte s.data.toList 47).toNat, if Lib.indexByte s.data.toList 47 = -1 then ⟨#[]⟩ else s.extract ((Lib.indexByte s.data.toList 47).toNat + 1) s.size, ?_, ?_, fun w => ?_⟩
  rotate_left 2
  · have hc := slcut_any s w hz
    generalize (if Lib.indexByte s.data.toList 47 = -1 then s else s.extract 0 (Lib.indexByte s.data.toList 47).toNat) = u1 at hc ⊢
    generalize (if Lib.indexByte s.data.toList 47 = -1 then (⟨#[]⟩ : ByteArray) else s.extract ((Lib.indexByte s.data.toList 47).toNat + 1) s.size) = u2 at hc ⊢
    have HC := Aside0.mk hc
    clear hc
    go_enter Tryd.func58, Tryd.ntmps58
    go_wp2_with fail
    refine HC.out.mono ?_
    rintro e w' ⟨⟨b, rfl⟩, n, rfl⟩
    go_wp2
    go_ret3
    exact ⟨by cases b <;> simp, n, rfl⟩
  · rw [hs]
    rcases Nm.joinT_cut hG with ⟨hr, hi, he⟩ | ⟨hr, hi, hlt, ht, hd⟩
    · rw [hi, if_pos rfl, hs, he]
    · rw [hi, if_neg (by omega), Int.toNat_natCast]
      simp only [ByteArray.data_extract, Array.toList_extract]
      rw [hs]
      simpa using ht
  · rw [hs]
    rcases Nm.joinT_cut hG with ⟨hr, hi, he⟩ | ⟨hr, hi, hlt, ht, hd⟩
    · rw [hi, if_pos rfl, hr]; rfl
    · rw [hi, if_neg (by omega), Int.toNat_natCast]
      rw [Sp.ext_from, hs, hd]
theorem trim_any {s : ByteArray} {q L : List (List UInt8)} (hs : s.data.toList = Nm.joinT q ++ 47 :: Nm.joinT L) (hq : Nm.Good q) (hL : Nm.Good L) (hz : s.size ≤ 1048576) (w : World) :
    Calls Tryd.prog 60 #[.string s, .string ⟨#[47]⟩] w fun e w' => e = .returned (.string (bytesOfL (Nm.joinT (q ++ L)))) ∧ ∃ n, w' = w.drewN n := by
  refine (Tryd.strings_Trim_one s 47 (by decide) w (by omega)).mono ?_
  rw [hs, Nm.trim_join hq hL]
  rintro e w' ⟨rfl, rfl | rfl⟩
  · exact ⟨rfl, 0, rfl⟩
  · exact ⟨rfl, 1, rfl⟩
set_option maxRecDepth 100000 in
set_option maxHeartbeats 8000000 in
theorem real_any (A : Option Addr) (c : Nat) (xs : List S26) (path : ByteArray) (w : World) (hr : Kd.C k26 w A xs.length xs) :
    Calls Tryd.prog 23 #[.slice A xs.length c, .string path] w fun e w' => e = .returned (.tuple #[.string (bytesOfL (realT xs path.data.toList).1), .int .i64 (realT xs path.data.toList).2]) ∧ Below w.heap.size w w' := by
  have hmm := @run_makeMap Tryd.prog
  have HR := Aside0.mk hr
  clear hr
  by_cases h1 : (checkP xs).2 = 0
  case neg =>
    have H := Lib.hid (show realT xs path.data.toList = ([], (checkP xs).2) by unfold realT; rw [if_pos h1])
    have hd : ((checkP xs).2 != 0) = true := by simpa using h1
    rw [H.out]
    clear h1
    go_enter Tryd.func23, Tryd.ntmps23
    go_wp2_with fail
    refine (check_tree A c xs _ HR.out).mono ?_
    rintro e w1 ⟨rfl, hb⟩
    go_wp2
    go_ret2
    exact ⟨rfl, hb⟩
  have hd : ((checkP xs).2 != 0) = false := by simpa using h1
  by_cases h2 : path.data.toList = []
  · have H := Lib.hid (show realT xs path.data.toList = ([], 0) by unfold realT; rw [if_neg (by simp [h1]), if_pos h2])
    have he : path.toList.isEmpty = true := isEmpty_true h2
    rw [H.out]
    clear h1 h2
    go_enter Tryd.func23, Tryd.ntmps23
    go_wp2_with fail
    refine (check_tree A c xs _ HR.out).mono ?_
    rintro e w1 ⟨rfl, hb⟩
    go_wp2
    go_ret2
    exact ⟨rfl, hb⟩
  have he : path.toList.isEmpty = false := isEmpty_false h2
  by_cases h3 : (Nm.check path.data.toList).2 = 0
  case neg =>
    have H := Lib.hid (show realT xs path.data.toList = ([], ((Nm.check path.data.toList).2 : Int)) by unfold realT; rw [if_neg (by simp [h1]), if_neg h2, if_pos h3])
    have hd3 : (((Nm.check path.data.toList).2 : Int) != 0) = true := by simpa using h3
    rw [H.out]
    clear h1 h2 h3
    go_enter Tryd.func23, Tryd.ntmps23
    go_wp2_with fail
    refine (check_tree A c xs _ HR.out).mono ?_
    rintro e w1 ⟨rfl, hb⟩
    have HB1 := Aside0.mk hb
    clear hb
    go_wp2_with fail
    refine (check_any path w1).mono ?_
    rintro e w2 ⟨rfl, hb⟩
    go_wp2
    go_ret2
    exact ⟨rfl, HB1.out.trans (hb.mono HB1.out.size)⟩
  have hd3 : (((Nm.check path.data.toList).2 : Int) != 0) = false := by simpa using h3
  have HC := Lib.hid h1
  have H := Lib.hid (show realT xs path.data.toList = realP xs [] (Nm.texts path.data.toList) 0 by unfold realT; rw [if_neg (by simp [h1]), if_neg h2, if_neg (by simp [h3])])
  have HG := Aside0.mk (Nm.check_good h3)
  have HT := Aside0.mk (show Nm.totL (Nm.texts path.data.toList) ≤ 401 by rw [Nm.totL_texts]; have := ((Nm.check_ok _).1 h3).1; omega)
  have hxl := (chk_ok h1).1
  clear h1 h2 h3
  go_enter Tryd.func23, Tryd.ntmps23
  go_wp2_with fail
  refine (check_tree A c xs _ HR.out).mono ?_
  rintro e w1 ⟨rfl, hb⟩
  have HB1 := Aside0.mk hb
  clear hb
  go_wp2_with fail
  refine (check_any path w1).mono ?_
  rintro e w2 ⟨rfl, hb⟩
  have HB2 := Aside0.mk (HB1.out.trans (hb.mono HB1.out.size))
  clear hb HB1
  go_wp2
  clear hd hd3 he
  go_loopw [45] (fun i wr => ∃ (k : Nat) (l : List (ByteArray × Value)), k ≤ xs.length ∧ i = .int .i64 k ∧ Aside0 (Below w.heap.size w wr) ∧ Aside0 (Mp.At Mp.strKey wr w2.heap.size l) ∧ Aside0 (MapOf xs k l)) (fun i _ => xs.length - (intOf i).toNat)
  case atStart => exact ⟨0, [], Nat.zero_le _, rfl, ⟨HB2.out.alloc HB2.out.size _⟩, ⟨Mp.at_made w2⟩, ⟨MapOf.nil xs⟩⟩
  case round =>
    obtain ⟨k, l, hk, rfl, hB, hM, hP⟩ := hrel
    by_cases hlt : k < xs.length
    · obtain ⟨ad, A4, c4, rfl, h0, h1, h2, h3, h4, h5, hl, hr4⟩ := at_it HR.out hB.out k hlt
      clear hl hr4
      have hBa : Below wr.heap.size wr (wr.alloc (.cells (cellsIt (rd_T26 xs k) A4 c4) 26)) := (Below.refl _ wr).alloc (Nat.le_refl _) _
      obtain ⟨o, ho, hrun3, hM3⟩ := (hM.out.below hBa).update (K := Mp.strKey) Tryd.underlying84 Tryd.underlying9 (rd_T26 xs k).f0 (.agg (cellsIt (rd_T26 xs k) A4 c4))
      have HM3 := Aside0.mk hM3
      have HBa := Aside0.mk (hB.out.trans (hBa.mono hB.out.size))
      have hrun4 : (Instr.mapUpdate 84 (.map (some w2.heap.size)) (.string (rd_T26 xs k).f0) (.agg #[.string (rd_T26 xs k).f0, .int .u8 (rd_T26 xs k).f1, .int .i64 (rd_T26 xs k).f2, .int .i64 (rd_T26 xs k).f3, .slice A4 (rd_T26 xs k).f4.length c4, .string (rd_T26 xs k).f5])).run Tryd.prog (wr.alloc (.cells #[.string (rd_T26 xs k).f0, .int .u8 (rd_T26 xs k).f1, .int .i64 (rd_T26 xs k).f2, .int .i64 (rd_T26 xs k).f3, .slice A4 (rd_T26 xs k).f4.length c4, .string (rd_T26 xs k).f5] 26)) = .ok () ((wr.alloc (.cells (cellsIt (rd_T26 xs k) A4 c4) 26)).putObj w2.heap.size o) := hrun3
      clear hM3 hrun3 hBa hM
      go_wp2
      go_roundw
      case rel => exact ⟨k + 1, _, by omega, by go_num, ⟨HBa.out.grown (grownBy_putObj' _ _ _) HBa.out.size (fun j hj => by cases hj; exact HB2.out.size)⟩, HM3, ⟨hP.out.put A4 c4⟩⟩
      case measure => simp [intOf]; omega
    · obtain rfl : k = xs.length := by omega
      have HF := Aside0.mk hP.out.tells
      have HB3 := hB
      have HM3 := hM
      clear hP hB hM hlt hk
      go_wp2
      go_loopw [13, 14, 15] (fun r h t wq => ∃ (R L : List (List UInt8)) (q s : ByteArray) (hops : Nat), r = .string q ∧ h = .int .i64 (hops : Nat) ∧ t = .string s ∧ hops ≤ 40 ∧ Hid (q.data.toList = Nm.joinT R) ∧ Hid (s.data.toList = Nm.joinT L) ∧ Aside0 (Nm.Good L ∧ Nm.totL L ≤ 401 + 802 * hops) ∧ Aside0 (Nm.Good R ∧ Nm.totL R ≤ 401) ∧ Hid (realP xs [] (Nm.texts path.data.toList) 0 = realP xs R L hops) ∧ Aside0 (Below w.heap.size w wq) ∧ Aside0 (Mp.At Mp.strKey wq w2.heap.size l)) (fun _ h t _ => (40 - (intOf h).toNat) * 100000 + szOf t)
      case atStart => exact ⟨[], Nm.texts path.data.toList, ⟨#[]⟩, path, 0, rfl, rfl, rfl, by omega, Lib.hid rfl, Lib.hid (Nm.joinT_texts _).symm, ⟨HG.out, HT.out⟩, ⟨Nm.Good.nil, by simp [Nm.totL]⟩, Lib.hid rfl, HB3, HM3⟩
      case round =>
        obtain ⟨R, L, q, s, hops, rfl, rfl, rfl, hh, hq, hs, hL, hRR, hi, hB, hM⟩ := hrel
        cases L with
        | nil =>
          have e0 : s.toList.isEmpty = true := isEmpty_true hs.out
          go_wp2
          go_ret2
          exact ⟨by rw [H.out, hi.out, real_nil, ← hq.out]; rfl, hB.out⟩
        | cons p rest =>
          have e0 : s.toList.isEmpty = false := isEmpty_false (by rw [hs.out]; exact fun e => by have := (Nm.joinT_nil hL.out.1).1 e; cases this)
          have hsz : s.size ≤ 40000 := by
            have := Nm.joinT_totL (p :: rest)
            have h2 := hL.out.2
            rw [← hs.out, Pure.len_eq] at this
            omega
          obtain ⟨sp, sl, hsp, hsl, hcut⟩ := cut_any hs.out hL.out.1 (by omega)
          have HCut := Aside0.mk hcut
          clear hcut
          go_wp2_with fail
          refine (HCut.out _).mono ?_
          rintro e w3 ⟨⟨bb, rfl⟩, n3, hw3⟩
          have hMq := Aside0.mk (show Mp.At Mp.strKey w3 w2.heap.size l from hM.out.move (by rw [hw3]; rfl))
          have hBq := Aside0.mk (show Below w.heap.size w w3 by rw [hw3]; exact pw_below_drewN hB.out n3)
          clear hw3
          obtain ⟨key, hkey, hcase⟩ : ∃ key : ByteArray, key.data.toList = Nm.joinT (R ++ [p]) ∧ ((q.toList.isEmpty = true ∧ key = sp) ∨ (q.toList.isEmpty = false ∧ key = q ++ ⟨#[47]⟩ ++ sp)) := by
            by_cases hR : R = []
            · subst hR; exact ⟨sp, by rw [hsp]; rfl, .inl ⟨isEmpty_true hq.out, rfl⟩⟩
            · refine ⟨_, ?_, .inr ⟨isEmpty_false (by rw [hq.out]; exact fun e => hR ((Nm.joinT_nil hRR.out.1).1 e)), rfl⟩⟩
              rw [Nm.joinT_append R [p] hR (by simp)]
              simp [hq.out, hsp, Nm.joinT]
          have hgr := hL.out.1.tail
          have hlt : sl.size < s.size := by
            have e1 := Nm.joinT_len_good (p :: rest) (by simp)
            have e2 := Pure.len_eq s
            have e3 := Pure.len_eq sl
            have e4 := List.length_pos_iff.2 (hL.out.1.head).1
            rw [hs.out] at e2
            rw [hsl] at e3
            have e6 : Nm.totL (p :: rest) = p.length + 1 + Nm.totL rest := by simp [Nm.totL]
            have e5 := Nm.joinT_totL rest
            omega
          have htl : Nm.totL rest ≤ 401 + 802 * hops := by
            have := hL.out.2
            simp [Nm.totL] at this ⊢
            omega
          have hqz : q.size ≤ 401 := by
            have e1 := Nm.joinT_totL R
            have e2 := Pure.len_eq q
            have e3 := hRR.out.2
            rw [hq.out] at e2
            omega
          have hspz : sp.size ≤ 40000 := by
            have e2 := Pure.len_eq sp
            rw [hsp] at e2
            have e3 := hL.out.2
            simp [Nm.totL] at e3
            omega
          have hlook := hMq.out.lookup (K := Mp.strKey) Tryd.underlying84 Tryd.underlying9 key zeroIt true
          rcases HF.out HC.out key with ⟨ht1, ht2⟩ | ⟨x, A4, c4, ht1, ht2⟩
          · rw [hkey] at ht1
            have HI := Lib.hid (hi.out.trans (real_none (hops := hops) (rest := rest) ht1))
            rw [ht2] at hlook
            have hrun : (Instr.lookup 84 (.map (some w2.heap.size)) (.string key) true).run Tryd.prog w3 = .ok (.tuple #[.agg #[.string ⟨#[]⟩, .int .u8 0, .int .i64 0, .int .i64 0, .slice none 0 0, .string ⟨#[]⟩], .bool false]) w3 := hlook
            clear hlook ht1 ht2 hkey
            rcases hcase with ⟨eq, rfl⟩ | ⟨eq, rfl⟩
            all_goals
              go_wp2
              go_ret2
              exact ⟨by rw [H.out, HI.out]; rfl, hBq.out.alloc hBq.out.size _⟩
          · rw [hkey] at ht1
            obtain ⟨hx, _⟩ := item_some ht1
            rw [ht2] at hlook
            have hmy := (chk_rise HC.out).2 x hx
            have hkd := may_kind hmy
            have hgx := Nm.parts_check (may_check hmy)
            have htx : Nm.totL (Nm.partsL x.f0.data.toList) ≤ 401 := by rw [hgx.2.1, Nm.totL_texts]; have := may_size hmy; have := Pure.len_eq x.f0; omega
            obtain ⟨f0, f1, f2, f3, f4, f5⟩ := x
            simp only at hkd hgx htx
            rcases hkd with rfl | rfl | rfl | rfl
            · have hh1 : hardTo xs ⟨f0, 1, f2, f3, f4, f5⟩ = ⟨f0, 1, f2, f3, f4, f5⟩ := by unfold hardTo; exact if_neg (by simp)
              have hrun : (Instr.lookup 84 (.map (some w2.heap.size)) (.string key) true).run Tryd.prog w3 = .ok (.tuple #[.agg #[.string f0, .int .u8 1, .int .i64 f2, .int .i64 f3, .slice A4 f4.length c4, .string f5], .bool true]) w3 := hlook
              by_cases hre : rest = []
              · have esl : sl.toList.isEmpty = true := isEmpty_true (by rw [hsl, hre]; rfl)
                have hi2 := hi.out.trans (real_go (hops := hops) ht1 (fun q => q.2 hre) (by rw [hh1]; simp))
                rw [hh1] at hi2
                have HI := Lib.hid hi2
                clear hi2 hlook ht1 ht2 hkey hh1 hre hmy
                rcases hcase with ⟨eq, rfl⟩ | ⟨eq, rfl⟩
                all_goals
                  go_wp2
                  go_roundw
                  case rel => exact ⟨Nm.partsL f0.data.toList, rest, f0, sl, hops, rfl, rfl, rfl, hh, Lib.hid (Nm.joinT_parts _).symm, Lib.hid hsl, ⟨hgr, htl⟩, ⟨hgx.2.2, htx⟩, HI, ⟨hBq.out.alloc hBq.out.size _⟩, ⟨hMq.out.below ((Below.refl _ w3).alloc (Nat.le_refl _) _)⟩⟩
                  case measure => simp [intOf, szOf]; omega
              · have esl : sl.toList.isEmpty = false := isEmpty_false (by rw [hsl]; exact fun e => hre ((Nm.joinT_nil hgr).1 e))
                have HI := Lib.hid (hi.out.trans (real_file (hops := hops) ht1 (by rw [hh1]) hre))
                clear hlook ht1 ht2 hkey hh1 hre hmy
                rcases hcase with ⟨eq, rfl⟩ | ⟨eq, rfl⟩
                all_goals
                  go_wp2
                  go_ret2
                  exact ⟨by rw [H.out, HI.out]; rfl, hBq.out.alloc hBq.out.size _⟩
            · have hh1 : hardTo xs ⟨f0, 2, f2, f3, f4, f5⟩ = ⟨f0, 2, f2, f3, f4, f5⟩ := by unfold hardTo; exact if_neg (by simp)
              have hrun : (Instr.lookup 84 (.map (some w2.heap.size)) (.string key) true).run Tryd.prog w3 = .ok (.tuple #[.agg #[.string f0, .int .u8 2, .int .i64 f2, .int .i64 f3, .slice A4 f4.length c4, .string f5], .bool true]) w3 := hlook
              have hi2 := hi.out.trans (real_go (hops := hops) (rest := rest) ht1 (by rw [hh1]; exact fun q => absurd q.1 (by simp)) (by rw [hh1]; simp))
              rw [hh1] at hi2
              have HI := Lib.hid hi2
              clear hi2 hlook ht1 ht2 hkey hh1 hmy
              rcases hcase with ⟨eq, rfl⟩ | ⟨eq, rfl⟩
              all_goals
                go_wp2
                go_roundw
                case rel => exact ⟨Nm.partsL f0.data.toList, rest, f0, sl, hops, rfl, rfl, rfl, hh, Lib.hid (Nm.joinT_parts _).symm, Lib.hid hsl, ⟨hgr, htl⟩, ⟨hgx.2.2, htx⟩, HI, ⟨hBq.out.alloc hBq.out.size _⟩, ⟨hMq.out.below ((Below.refl _ w3).alloc (Nat.le_refl _) _)⟩⟩
                case measure => simp [intOf, szOf]; omega
            · obtain ⟨z, hz, hze, hz1⟩ := hard_file HC.out hx rfl
              obtain ⟨g0, g1, g2, g3, g4, g5⟩ := z
              simp only at hz1 hze
              subst hz1
              have hrun : (Instr.lookup 84 (.map (some w2.heap.size)) (.string key) true).run Tryd.prog w3 = .ok (.tuple #[.agg #[.string f0, .int .u8 3, .int .i64 f2, .int .i64 f3, .slice A4 f4.length c4, .string f5], .bool true]) w3 := hlook
              have hM4 := hMq.out.below ((Below.refl _ w3).alloc (Nat.le_refl _) (.cells #[.string f0, .int .u8 3, .int .i64 f2, .int .i64 f3, .slice A4 f4.length c4, .string f5] 26))
              have hlook2 := hM4.lookup (K := Mp.strKey) Tryd.underlying84 Tryd.underlying9 f5 zeroIt false
              rcases HF.out HC.out f5 with ⟨hn, _⟩ | ⟨z', A5, c5, hz', hm'⟩
              · rw [hze] at hn; cases hn
              rw [hze] at hz'
              obtain rfl := Option.some.inj hz'
              rw [hm'] at hlook2
              have hrun2 : (Instr.lookup 84 (.map (some w2.heap.size)) (.string f5) false).run Tryd.prog (w3.alloc (.cells #[.string f0, .int .u8 3, .int .i64 f2, .int .i64 f3, .slice A4 f4.length c4, .string f5] 26)) = .ok (.agg #[.string g0, .int .u8 1, .int .i64 g2, .int .i64 g3, .slice A5 g4.length c5, .string g5]) (w3.alloc (.cells #[.string f0, .int .u8 3, .int .i64 f2, .int .i64 f3, .slice A4 f4.length c4, .string f5] 26)) := hlook2
              have hh1 : hardTo xs ⟨f0, 3, f2, f3, f4, f5⟩ = ⟨g0, 1, g2, g3, g4, g5⟩ := by unfold hardTo; rw [if_pos rfl]; simp only; rw [hze]; rfl
              have hmz := (chk_rise HC.out).2 _ hz
              have hgz := Nm.parts_check (may_check hmz)
              simp only at hgz
              have htz : Nm.totL (Nm.partsL g0.data.toList) ≤ 401 := by rw [hgz.2.1, Nm.totL_texts]; have := may_size hmz; have := Pure.len_eq g0; simp only at *; omega
              have HM4 := Aside0.mk hM4
              have HB4 := Aside0.mk (hBq.out.alloc hBq.out.size (.cells #[.string f0, .int .u8 3, .int .i64 f2, .int .i64 f3, .slice A4 f4.length c4, .string f5] 26))
              by_cases hre : rest = []
              · have esl : sl.toList.isEmpty = true := isEmpty_true (by rw [hsl, hre]; rfl)
                have hi2 := hi.out.trans (real_go (hops := hops) ht1 (fun q => q.2 hre) (by rw [hh1]; simp))
                rw [hh1] at hi2
                have HI := Lib.hid hi2
                clear hi2 hlook hlook2 ht1 ht2 hkey hh1 hre hmy hM4 hm' hz' hze hmz
                rcases hcase with ⟨eq, rfl⟩ | ⟨eq, rfl⟩
                all_goals
                  go_wp2
                  go_roundw
                  case rel => exact ⟨Nm.partsL g0.data.toList, rest, g0, sl, hops, rfl, rfl, rfl, hh, Lib.hid (Nm.joinT_parts _).symm, Lib.hid hsl, ⟨hgr, htl⟩, ⟨hgz.2.2, htz⟩, HI, ⟨hBq.out.alloc hBq.out.size _⟩, ⟨hMq.out.below ((Below.refl _ w3).alloc (Nat.le_refl _) _)⟩⟩
                  case measure => simp [intOf, szOf]; omega
              · have esl : sl.toList.isEmpty = false := isEmpty_false (by rw [hsl]; exact fun e => hre ((Nm.joinT_nil hgr).1 e))
                have HI := Lib.hid (hi.out.trans (real_file (hops := hops) ht1 (by rw [hh1]) hre))
                clear hlook hlook2 ht1 ht2 hkey hh1 hre hmy hM4 hm' hz' hze hmz
                rcases hcase with ⟨eq, rfl⟩ | ⟨eq, rfl⟩
                all_goals
                  go_wp2
                  go_ret2
                  exact ⟨by rw [H.out, HI.out]; rfl, hBq.out.alloc hBq.out.size _⟩
            · have hh1 : hardTo xs ⟨f0, 4, f2, f3, f4, f5⟩ = ⟨f0, 4, f2, f3, f4, f5⟩ := by unfold hardTo; exact if_neg (by simp)
              have hrun : (Instr.lookup 84 (.map (some w2.heap.size)) (.string key) true).run Tryd.prog w3 = .ok (.tuple #[.agg #[.string f0, .int .u8 4, .int .i64 f2, .int .i64 f3, .slice A4 f4.length c4, .string f5], .bool true]) w3 := hlook
              by_cases h40 : hops = 40
              · have e40 : ((hops : Int) == 40) = true := by simp; omega
                have HI := Lib.hid (hi.out.trans (real_loop (hops := hops) (rest := rest) ht1 (by rw [hh1]) (by omega)))
                clear hlook ht1 ht2 hkey hh1 hmy h40
                rcases hcase with ⟨eq, rfl⟩ | ⟨eq, rfl⟩
                all_goals
                  go_wp2
                  go_ret2
                  exact ⟨by rw [H.out, HI.out]; rfl, hBq.out.alloc hBq.out.size _⟩
              · have e40 : ((hops : Int) == 40) = false := by simp; omega
                have hi2 := hi.out.trans (real_soft (hops := hops) (rest := rest) ht1 (by rw [hh1]) (by omega))
                rw [hh1] at hi2
                obtain ⟨q0, hq1, hq2, hq3⟩ := Nm.lead_good (may_soft_lead hmy rfl)
                simp only at hi2 hq1
                rw [hq1, Nm.parts_joinT hq2] at hi2
                have HI := Lib.hid hi2
                have hto : (bytesOfL (Nm.lead f0.data.toList f5.data.toList).1).data.toList = Nm.joinT q0 := by rw [← hq1]; rfl
                have hLd := LeadW.lead_any f0 f5
                generalize bytesOfL (Nm.lead f0.data.toList f5.data.toList).1 = tx at hto hLd
                generalize ((Nm.lead f0.data.toList f5.data.toList).2 : Int) = te at hLd
                have HLd := Aside0.mk hLd
                have htz : tx.size ≤ 802 := by have e1 := Nm.joinT_totL q0; have e2 := Pure.len_eq tx; rw [hto] at e2; omega
                have hslz : sl.size ≤ 40000 := by omega
                clear hi2 hlook ht1 ht2 hkey hh1 hmy hq1 hLd
                rcases hcase with ⟨eq, rfl⟩ | ⟨eq, rfl⟩
                all_goals
                  go_wp2_with fail
                  refine (HLd.out _).mono ?_
                  rintro e w5 ⟨rfl, hb⟩
                  have hB5 := Aside0.mk ((hBq.out.alloc hBq.out.size _).trans (hb.mono (hBq.out.alloc hBq.out.size _).size))
                  have hM5 := Aside0.mk ((hMq.out.below ((Below.refl _ w3).alloc (Nat.le_refl _) _)).below hb)
                  clear hb
                  have HTr := Aside0.mk (fun w => trim_any (s := tx ++ ⟨#[47]⟩ ++ sl) (q := q0) (L := rest) (by simp [hto, hsl]) hq2 hgr (by rw [ByteArray.size_append, ByteArray.size_append]; have : (⟨#[47]⟩ : ByteArray).size = 1 := rfl; omega) w)
                  go_wp2_with fail
                  refine (HTr.out _).mono ?_
                  rintro e w6 ⟨rfl, n6, hw6⟩
                  have hB6 := Aside0.mk (show Below w.heap.size w w6 by rw [hw6]; exact pw_below_drewN hB5.out n6)
                  have hM6 := Aside0.mk (show Mp.At Mp.strKey w6 w2.heap.size l from hM5.out.move (by rw [hw6]; rfl))
                  clear hw6
                  go_wp2
                  go_roundw
                  case rel => exact ⟨[], q0 ++ rest, ⟨#[]⟩, bytesOfL (Nm.joinT (q0 ++ rest)), hops + 1, rfl, by go_num, rfl, by omega, Lib.hid rfl, Lib.hid rfl, ⟨hq2.append hgr, by rw [Nm.totL_append]; omega⟩, ⟨Nm.Good.nil, by simp [Nm.totL]⟩, HI, hB6, hM6⟩
                  case measure =>
                    have e1 := Nm.joinT_totL (q0 ++ rest)
                    rw [Nm.totL_append] at e1
                    have e2 := Pure.bytes_size (Nm.joinT (q0 ++ rest))
                    simp [intOf, szOf]
                    omega
end Go.Proofs.YthpecpkncifngaaDoor.X
end

/- The contracts of the law's own lent and kept: a list in memory of its own, with marks behind it and behind each body. -/
section
namespace Go.Proofs.YthpecpkncifngaaDoor.X
open Go.RowKit Go.Shelf Go.Proofs.YthpecpkncifngaaDoor Go.Proofs.YthpecpkncifngaaDoorW.PrintWords Go.Proofs.YthpecpkncifngaaDoorW.PrintLast Go.Proofs.YthpecpkncifngaaDoorW.PrintMore Go.Proofs.YthpecpkncifngaaDoor.Pure
def markS : ByteArray := ⟨#[109, 97, 114, 107]⟩
def kLK (w : World) (x : Option S26) (cs : List Value) : Prop :=
  match x with
  | some x => ∃ ad c4, cs = [.string x.f0, .int .u8 x.f1, .int .i64 x.f2, .int .i64 x.f3, .slice (some ad) x.f4.length c4, .string x.f5] ∧ x.f4.length + 1 ≤ c4 ∧ c4 ≤ 9223372036854775807 ∧ (Kd.int .u8).C w (some ad) x.f4.length x.f4 ∧ w.cell? (ad.add x.f4.length) = some (.int .u8 201)
  | none => cs = [.string markS, .int .u8 0, .int .i64 0, .int .i64 0, .slice none 0 0, .string ⟨#[]⟩]
def kL : Kd (Option S26) where
  sz := 6
  E := [5]
  K := kLK
  M := fun _ _ _ _ _ => False
  K_len := by
    intro w x cs h
    cases x with
    | none => rw [show cs = _ from h]; rfl
    | some x => obtain ⟨ad, c4, rfl, _⟩ := h; rfl
  K_one := by
    intro w x cs h u hu
    cases x with
    | none =>
      rw [show cs = _ from h] at hu
      simp only [List.mem_cons, List.not_mem_nil, or_false] at hu
      rcases hu with rfl | rfl | rfl | rfl | rfl | rfl <;> rfl
    | some x =>
      obtain ⟨ad, c4, rfl, _⟩ := h
      simp only [List.mem_cons, List.not_mem_nil, or_false] at hu
      rcases hu with rfl | rfl | rfl | rfl | rfl | rfl <;> rfl
  K_below := by
    intro w w1 x cs hb h
    cases x with
    | none => exact h
    | some x =>
      obtain ⟨ad, c4, e, h1, h2, h3, h4⟩ := h
      exact ⟨ad, c4, e, h1, h2, Kd.C_below h3 hb, (hb.cell (World.block_lt_of_cell? w _ h4)).trans h4⟩
  K_of_M := fun h => h.elim
  M_mono := fun _ h => h
  M_bound := fun h => h
  M_move := fun _ h => h
  M_lower := fun _ h => h
theorem kL_k {w : World} {x : S26} {cs : List Value} (h : kL.K w (some x) cs) : k26.K w x cs := by
  obtain ⟨ad, c4, rfl, h1, h2, h3, h4⟩ := h
  exact k26_mk w x (by omega) h3
theorem lent_reads {w : World} {A : Option Addr} {xs : List S26} (h : kL.C w A (xs.length + 1) (xs.map some ++ [none])) : k26.C w A xs.length xs := by
  refine ⟨rfl, by have := Kd.C_max h; omega, fun h0 => ?_⟩
  obtain ⟨ad, e, hr⟩ := h.2.2 (by omega)
  refine ⟨ad, e, fun j x hj => ?_⟩
  obtain ⟨c, hl, hk, hc⟩ := hr j (some x) (by rw [List.getElem?_append_left (by rw [List.length_map]; exact (List.getElem?_eq_some_iff.1 hj).1), List.getElem?_map, hj]; rfl)
  exact ⟨c, hl, kL_k hk, hc⟩
theorem C_snoc {w : World} {ad : Addr} {l : List Int} {v : Int} (h : (Kd.int .u8).C w (some ad) (l ++ [v]).length (l ++ [v])) : (Kd.int .u8).C w (some ad) l.length l ∧ w.cell? (ad.add l.length) = some (.int .u8 v) := by
  have hl : (l ++ [v]).length = l.length + 1 := by simp
  constructor
  · have := Kd.C_take h (m := l.length) (by omega)
    rw [List.take_left] at this
    exact this
  · obtain ⟨ad', cs, e, _, hk, hcell⟩ := Kd.C_get h 0 (l.length : Int) (by omega) (by omega)
    obtain rfl := Option.some.inj e
    have hK : cs = [.int .u8 ((l ++ [v]).getD ((l.length : Int)).toNat 0)] := hk
    subst hK
    have := hcell 0 _ rfl
    rw [Int.toNat_natCast, show l.length * (Kd.int .u8).sz + 0 = l.length by show l.length * 1 + 0 = _; omega] at this
    simpa using this
theorem cut_own {w : World} {base e : Nat} {v : Value} {n m : Nat} {xs : List Value} (h : w.ownsRow base e 1 v (n + 1) xs) : ∃ g cap, v = .slice (some ⟨g, 0, none⟩) (n + 1) cap ∧ n + 1 ≤ cap ∧ cap ≤ 9223372036854775807 := by
  rcases h.2 with ⟨_, h0⟩ | ⟨g, cap, cur, he, _, _, h1, h2, _⟩
  · omega
  · exact ⟨g, cap, he, h1, by unfold maxLen at h2; omega⟩
set_option maxRecDepth 100000 in
set_option maxHeartbeats 4000000 in
theorem lent_any (A : Option Addr) (c : Nat) (xs : List S26) (w : World) (hr : Kd.C k26 w A xs.length xs) (hm : xs.length * 80 ≤ 140737488351232) (hb4 : ∀ x ∈ xs, x.f4.length ≤ 140737488351232) :
    Calls Tryd.prog 12 #[.slice A xs.length c] w fun e w' => (∃ A' c', e = .returned (.slice A' xs.length c') ∧ xs.length + 1 ≤ c' ∧ c' ≤ 9223372036854775807 ∧ kL.C w' A' (xs.length + 1) (xs.map some ++ [none])) ∧ Below w.heap.size w w' := by
  have HR := Aside0.mk hr
  have H4 := Aside0.mk hb4
  clear hr hb4
  go_enter Tryd.func12, Tryd.ntmps12
  go_wp2
  go_loopw [3, 4] (fun v i wr => ∃ k : Nat, k ≤ xs.length ∧ i = .int .i64 k ∧ Aside0 (Below w.heap.size w wr) ∧ Aside0 (Kd.N kL 26 wr w.heap.size (fun k => w.heap.size ≤ k) v ((xs.map some).take k))) (fun _ i _ => xs.length - (intOf i).toNat)
  case atStart => exact ⟨0, Nat.zero_le _, rfl, ⟨Below.refl _ _⟩, ⟨Kd.N_nil _ _ _ _ _⟩⟩
  case round =>
    obtain ⟨k, hk, rfl, hB, hN⟩ := hrel
    by_cases hlt : k < xs.length
    · obtain ⟨ad, A4, c4, rfl, h0, h1, h2, h3, h4, h5, hl, hr4⟩ := at_it HR.out hB.out k hlt
      have HR4 := Aside0.mk hr4
      have hm4 : (rd_T26 xs k).f4.length ≤ 140737488351232 := H4.out _ (by unfold rd_T26; rw [Int.toNat_natCast, List.getD_eq_getElem?_getD, List.getElem?_eq_getElem hlt]; exact List.getElem_mem hlt)
      clear hr4
      go_wp2_with ((with_reducible refine gate_builtin (b := .append) (xs := #[.tmp 21, .tmp 23]) rfl ?_); at_builtin; refine Kd.R_append_rows (Kd.int .u8) (w0 := wr) wr.heap.size rfl (.tmp 21) (.tmp 23) 24 5 (.int .u8 0) 1 rfl Tryd.underlying24 info5 rfl (by decide) (by decide) (.slice none 0 0) [] (rd_T26 xs k).f4 A4 (rd_T26 xs k).f4.length c4 (fun k => wr.heap.size + 1 ≤ k) (fun _ => False) rfl rfl (Kd.R_nil _ _ _ _ _) (Kd.C_below HR4.out ((Below.refl _ wr).alloc (Nat.le_refl _) _)) (fun _ _ h => h) (fun _ h => h.elim) (fun k h => by simp at h; omega) ((Below.refl _ wr).alloc (Nat.le_refl _) _) (by simp) (by simp; omega) ?_)
      intro v1 w1 hR1 hB1 hg1 hat1
      have k0 : w1.heap[wr.heap.size]? = some (.cells #[.string (rd_T26 xs k).f0, .int .u8 (rd_T26 xs k).f1, .int .i64 (rd_T26 xs k).f2, .int .i64 (rd_T26 xs k).f3, .slice A4 (rd_T26 xs k).f4.length c4, .string (rd_T26 xs k).f5] 26 (0, 0)) := cells_grown (blk_new wr _) hg1
      have HR1 := Aside0.mk hR1
      have HB1 := Aside0.mk hB1
      have K0 := Aside0.mk k0
      have hz1 : wr.heap.size < w1.heap.size := blk_lt k0
      clear hR1 hB1 hg1 hat1 k0 h0 h1 h2 h3 h4 h5
      go_wp2_with ((with_reducible refine gate_builtin (b := .append) (xs := #[.tmp 25, .tmp 26]) rfl ?_); at_builtin; refine Kd.R_append (Kd.int .u8) (w0 := wr) wr.heap.size rfl (.tmp 25) (.tmp 26) 24 5 (.int .u8 0) 1 rfl Tryd.underlying24 info5 rfl (by decide) (by decide) v1 (rd_T26 xs k).f4 201 [.int .u8 201] (fun k => wr.heap.size + 1 ≤ k) (fun _ => False) rfl rfl rfl (fun _ h => h.elim) (fun k h => by omega) HR1.out HB1.out HB1.out.size (by omega) ?_)
      intro v2 w2 hR2 hB2 hg2 hat2
      have k2 : w2.heap[wr.heap.size]? = some (.cells #[.string (rd_T26 xs k).f0, .int .u8 (rd_T26 xs k).f1, .int .i64 (rd_T26 xs k).f2, .int .i64 (rd_T26 xs k).f3, .slice A4 (rd_T26 xs k).f4.length c4, .string (rd_T26 xs k).f5] 26 (0, 0)) := blk_grown K0.out hg2 (fun e => by have : wr.heap.size + 1 ≤ wr.heap.size := HR1.out.1 _ e.symm; omega)
      have hl2 : ((rd_T26 xs k).f4 ++ [(201 : Int)]).length = (rd_T26 xs k).f4.length + 1 := by simp
      obtain ⟨g, cap, hv2, hcap, hcap2⟩ : ∃ g cap, v2 = .slice (some ⟨g, 0, none⟩) ((rd_T26 xs k).f4.length + 1) cap ∧ (rd_T26 xs k).f4.length + 1 ≤ cap ∧ cap ≤ 9223372036854775807 := by
        obtain ⟨inner, ho⟩ := Kd.R_own hR2
        rw [hl2] at ho
        exact cut_own (m := 0) ho
      subst hv2
      have hF2 := Kd.R_F hR2
      have c00 := (blk_cell k2 0).trans rfl
      have c01 := (blk_cell k2 1).trans rfl
      have c02 := (blk_cell k2 2).trans rfl
      have c03 := (blk_cell k2 3).trans rfl
      have c04 := (blk_cell k2 4).trans rfl
      have c05 := (blk_cell k2 5).trans rfl
      have f04 := blk_frozen k2 4
      have HF2 := Aside0.mk hF2
      have HB2 := Aside0.mk hB2
      have HN2 := Aside0.mk (Kd.N_below hN.out hB2)
      have hz2 : wr.heap.size < w2.heap.size := blk_lt k2
      clear hR2 hg2 hat2 hB2 hF2 k2 K0 HR1 HB1 hz1
      have hFK : Kd.FK kL (w2.setCell ⟨wr.heap.size, 4, none⟩ (.slice (some ⟨g, 0, none⟩) (rd_T26 xs k).f4.length cap)) (fun k => wr.heap.size + 1 ≤ k) (some (rd_T26 xs k)) [.string (rd_T26 xs k).f0, .int .u8 (rd_T26 xs k).f1, .int .i64 (rd_T26 xs k).f2, .int .i64 (rd_T26 xs k).f3, .slice (some ⟨g, 0, none⟩) (rd_T26 xs k).f4.length cap, .string (rd_T26 xs k).f5] := by
        have h1 := Kd.F_far HF2.out (p := ⟨wr.heap.size, 4, none⟩) (fun k (hk : wr.heap.size + 1 ≤ k) => by show k ≠ wr.heap.size; omega) (.slice (some ⟨g, 0, none⟩) (rd_T26 xs k).f4.length cap)
        refine Foot.imp h1 (fun W' hC => ?_)
        rw [← hl2] at hC
        obtain ⟨q1, q2⟩ := C_snoc hC
        exact ⟨_, _, rfl, hcap, hcap2, q1, q2⟩
      have HFK := Aside0.mk hFK
      have HBs := Aside0.mk (HB2.out.setCell (p := ⟨wr.heap.size, 4, none⟩) (Nat.le_refl _) (.slice (some ⟨g, 0, none⟩) (rd_T26 xs k).f4.length cap))
      have HNs := Aside0.mk (Kd.N_below hN.out HBs.out)
      have HBw := Aside0.mk (hB.out.trans (HBs.out.mono hB.out.size))
      have hsz : (w2.setCell ⟨wr.heap.size, 4, none⟩ (.slice (some ⟨g, 0, none⟩) (rd_T26 xs k).f4.length cap)).heap.size = w2.heap.size := by simp
      clear hFK
      go_wp2_with ((with_reducible refine gate_builtin (b := .append) (xs := #[.tmp 32, .tmp 34]) rfl ?_); at_builtin; refine Kd.N_append kL (w0 := w) w.heap.size rfl (.tmp 32) (.tmp 34) 22 26 (.agg #[.string ⟨#[]⟩, .int .u8 0, .int .i64 0, .int .i64 0, .slice none 0 0, .string ⟨#[]⟩]) 80 rfl Tryd.underlying22 info26 rfl (by decide) (by decide) _ ((xs.map some).take k) (some (rd_T26 xs k)) [.string (rd_T26 xs k).f0, .int .u8 (rd_T26 xs k).f1, .int .i64 (rd_T26 xs k).f2, .int .i64 (rd_T26 xs k).f3, .slice (some ⟨g, 0, none⟩) (rd_T26 xs k).f4.length cap, .string (rd_T26 xs k).f5] (fun k_ => w.heap.size ≤ k_) (fun k_ => wr.heap.size + 1 ≤ k_) rfl (by rw [hsz]; rfl) HFK.out (fun k_ h => ⟨Nat.le_trans hB.out.size (Nat.le_of_succ_le h), fun e => by have := Kd.N_lt hN.out k_ e.symm; omega⟩) (fun k_ h => by have := hB.out.size; omega) HNs.out HBw.out HBw.out.size (by simp; omega) ?_)
      intro v3 w3 hN3 hB3 hg3 hat3
      have hs : (xs.map some).take k ++ [some (rd_T26 xs k)] = (xs.map some).take (k + 1) := by
        rw [List.take_succ_eq_append_getElem (by rw [List.length_map]; exact hlt)]
        congr 1
        rw [List.getElem_map]
        unfold rd_T26
        rw [Int.toNat_natCast, List.getD_eq_getElem?_getD, List.getElem?_eq_getElem hlt]; rfl
      rw [hs] at hN3
      have HN3 := Aside0.mk hN3
      have HB3 := Aside0.mk hB3
      clear hN3 hB3 hg3 hat3 hs hsz c00 c01 c02 c03 c04 c05 f04
      go_wp2
      go_roundw
      case rel => exact ⟨k + 1, by omega, by go_num, HB3, HN3⟩
      case measure => simp [intOf]; omega
    · obtain rfl : k = xs.length := by omega
      have hN := hN.out
      rw [List.take_of_length_le (by rw [List.length_map]; exact Nat.le_refl _)] at hN
      have hfk : Kd.FK kL wr (fun k_ => wr.heap.size ≤ k_) none [.string ⟨#[109, 97, 114, 107]⟩, .int .u8 0, .int .i64 0, .int .i64 0, .slice none 0 0, .string ⟨#[]⟩] := fun W' _ => rfl
      have HN := Aside0.mk hN
      have HFK := Aside0.mk hfk
      clear hN hfk
      go_wp2_with ((with_reducible refine gate_builtin (b := .append) (xs := #[.tmp 36, .tmp 38]) rfl ?_); at_builtin; refine Kd.N_append kL (w0 := w) w.heap.size rfl (.tmp 36) (.tmp 38) 22 26 (.agg #[.string ⟨#[]⟩, .int .u8 0, .int .i64 0, .int .i64 0, .slice none 0 0, .string ⟨#[]⟩]) 80 rfl Tryd.underlying22 info26 rfl (by decide) (by decide) _ (xs.map some) none [.string ⟨#[109, 97, 114, 107]⟩, .int .u8 0, .int .i64 0, .int .i64 0, .slice none 0 0, .string ⟨#[]⟩] (fun k_ => w.heap.size ≤ k_) (fun k_ => wr.heap.size ≤ k_) rfl rfl HFK.out (fun k_ h => ⟨Nat.le_trans hB.out.size h, fun e => by have := Kd.N_lt HN.out k_ e.symm; omega⟩) (fun k_ h => Nat.le_trans hB.out.size h) HN.out hB.out hB.out.size (by simp; omega) ?_)
      intro v3 w3 hN3 hB3 hg3 hat3
      obtain ⟨A3, c3, rfl, hc3, hc3m⟩ := N_cap hN3
      have hl3 : (xs.map some ++ [(none : Option S26)]).length = xs.length + 1 := by simp
      rw [hl3] at hc3
      have hC := (Kd.N_reads' hN3).2.2
      rw [hl3] at hC
      have HC := Aside0.mk hC
      have HB3 := Aside0.mk hB3
      clear hN3 hB3 hg3 hat3 hC
      simp only [hl3]
      clear hl3
      go_wp2
      go_ret
      exact ⟨⟨_, _, rfl, hc3, hc3m, HC.out⟩, HB3.out⟩
set_option maxRecDepth 100000 in
set_option maxHeartbeats 4000000 in
theorem same_any (A : Option Addr) (c : Nat) (A1 : Option Addr) (c1 : Nat) (xs : List S26) (w : World) (hr : Kd.C k26 w A xs.length xs) (hc : xs.length ≤ c) (hr1 : Kd.C k26 w A1 xs.length xs) (hc1 : xs.length ≤ c1) (hx : xs.length ≤ 140737488355328) :
    Calls Tryd.prog 20 #[.slice A xs.length c, .slice A1 xs.length c1] w fun e w' => e = .returned (.bool true) ∧ Below w.heap.size w w' := by
  have HR := Aside0.mk hr
  have HR1 := Aside0.mk hr1
  clear hr hr1
  go_enter Tryd.func20, Tryd.ntmps20
  go_wp2
  go_loopw [5] (fun i wr => ∃ k : Nat, k ≤ xs.length ∧ i = .int .i64 k ∧ Aside0 (Below w.heap.size w wr)) (fun i _ => xs.length - (intOf i).toNat)
  case atStart => exact ⟨0, Nat.zero_le _, rfl, ⟨Below.refl _ _⟩⟩
  case round =>
    obtain ⟨k, hk, rfl, hB⟩ := hrel
    by_cases hlt : k < xs.length
    · obtain ⟨ad, A4, c4, rfl, h0, h1, h2, h3, h4, h5, hl, hr4⟩ := at_it HR.out hB.out k hlt
      obtain ⟨bd, B4, d4, rfl, g0, g1, g2, g3, g4, g5, gl, gr4⟩ := at_it HR1.out hB.out k hlt
      have lt0 := World.block_lt_of_cell? _ _ g0
      have hbx : Below wr.heap.size wr ((wr.alloc (.cells #[.string (rd_T26 xs k).f0, .int .u8 (rd_T26 xs k).f1, .int .i64 (rd_T26 xs k).f2, .int .i64 (rd_T26 xs k).f3, .slice A4 (rd_T26 xs k).f4.length c4, .string (rd_T26 xs k).f5] 26)).alloc (.cells #[.string (rd_T26 xs k).f0, .int .u8 (rd_T26 xs k).f1, .int .i64 (rd_T26 xs k).f2, .int .i64 (rd_T26 xs k).f3, .slice B4 (rd_T26 xs k).f4.length d4, .string (rd_T26 xs k).f5] 26)) := ((Below.refl _ _).alloc (Nat.le_refl _) _).alloc (by simp) _
      have hcv1 := Kd.C_string (P := Tryd.prog) (A := A4) (c := c4) Tryd.underlying24 Tryd.underlying5 Tryd.underlying9 (Kd.C_below hr4 hbx)
      have hcv2 := Kd.C_string (P := Tryd.prog) (A := B4) (c := d4) Tryd.underlying24 Tryd.underlying5 Tryd.underlying9 (Kd.C_below gr4 hbx)
      have HBX := Aside0.mk (hB.out.trans (hbx.mono hB.out.size))
      clear hr4 gr4 hbx
      go_wp2
      go_roundw
      case rel => exact ⟨k + 1, by omega, by go_num, HBX⟩
      case measure => simp [intOf]; omega
    · go_wp2
      go_ret
      exact ⟨rfl, hB.out⟩
theorem at_L {w W : World} {A : Option Addr} {xs : List S26} (h : kL.C w A (xs.length + 1) (xs.map some ++ [none])) (hb : Below w.heap.size w W) (i : Nat) (h1 : i < xs.length) :
    ∃ ad b c4, A = some ad ∧ W.cell? ⟨(ad.add (i * 6)).block, (ad.add (i * 6)).off + 4, none⟩ = some (.slice (some b) (rd_T26 xs i).f4.length c4) ∧ (rd_T26 xs i).f4.length + 1 ≤ c4 ∧ c4 ≤ 9223372036854775807 ∧ W.cell? (b.add (rd_T26 xs i).f4.length) = some (.int .u8 201) := by
  obtain ⟨ad, e, hr⟩ := h.2.2 (by omega)
  have hx : (xs.map some ++ [(none : Option S26)])[i]? = some (some (rd_T26 xs i)) := by
    rw [List.getElem?_append_left (by rw [List.length_map]; exact h1), List.getElem?_map, List.getElem?_eq_getElem h1]
    unfold rd_T26
    rw [Int.toNat_natCast, List.getD_eq_getElem?_getD, List.getElem?_eq_getElem h1]; rfl
  obtain ⟨c, hl, ⟨b, c4, rfl, q1, q2, q3, q4⟩, hc⟩ := hr i _ hx
  have st : ∀ {a : Addr} {v : Value}, w.cell? a = some v → W.cell? a = some v := fun {a v} hv => (hb.cell (World.block_lt_of_cell? w _ hv)).trans hv
  refine ⟨ad, b, c4, e, st ?_, q1, q2, st q4⟩
  rw [← add_field _ _ 4 (by omega)]
  exact hc 4 _ rfl
theorem at_mark {w W : World} {A : Option Addr} {xs : List S26} (h : kL.C w A (xs.length + 1) (xs.map some ++ [none])) (hb : Below w.heap.size w W) :
    ∃ ad, A = some ad ∧ W.cell? (ad.add (xs.length * 6)) = some (.string ⟨#[109, 97, 114, 107]⟩) := by
  obtain ⟨ad, e, hr⟩ := h.2.2 (by omega)
  obtain ⟨c, hl, hk, hc⟩ := hr xs.length none (by rw [List.getElem?_append_right (by simp)]; simp)
  rw [show c = _ from hk] at hc
  have := hc 0 _ rfl
  exact ⟨ad, e, (hb.cell (World.block_lt_of_cell? w _ this)).trans this⟩
set_option maxRecDepth 100000 in
set_option maxHeartbeats 4000000 in
theorem kept_any (A : Option Addr) (c : Nat) (A1 : Option Addr) (c1 : Nat) (xs : List S26) (w : World) (hL : kL.C w A (xs.length + 1) (xs.map some ++ [none])) (hc : xs.length + 1 ≤ c) (hcm : c ≤ 9223372036854775807) (hr1 : Kd.C k26 w A1 xs.length xs) (hc1 : xs.length ≤ c1) (hx : xs.length ≤ 140737488355000) :
    Calls Tryd.prog 17 #[.slice A xs.length c, .slice A1 xs.length c1] w fun e w' => e = .returned (.bool true) ∧ Below w.heap.size w w' := by
  have HL := Aside0.mk hL
  have HR1 := Aside0.mk hr1
  clear hL hr1
  go_enter Tryd.func17, Tryd.ntmps17
  go_wp2
  go_loopw [5] (fun i wr => ∃ k : Nat, k ≤ xs.length ∧ i = .int .i64 k ∧ wr = w) (fun i _ => xs.length - (intOf i).toNat)
  case atStart => exact ⟨0, Nat.zero_le _, rfl, rfl⟩
  case round =>
    obtain ⟨k, hk, rfl, rfl⟩ := hrel
    by_cases hlt : k < xs.length
    · obtain ⟨ad, b, c4, rfl, h4, hq, hqm, hm⟩ := at_L HL.out (Below.refl _ _) k hlt
      go_wp2
      go_roundw
      case rel => exact ⟨k + 1, by omega, by go_num, trivial⟩
      case measure => simp [intOf]; omega
    · obtain rfl : k = xs.length := by omega
      obtain ⟨ad, rfl, hmk⟩ := at_mark HL.out (Below.refl _ _)
      go_wp2_with fail
      refine (same_any _ c A1 c1 xs _ (lent_reads HL.out) (by omega) HR1.out hc1 (by omega)).mono ?_
      rintro e w1 ⟨rfl, hb⟩
      have hmk1 := (hb.cell (World.block_lt_of_cell? _ _ hmk)).trans hmk
      have HB := Aside0.mk hb
      clear hmk hb
      go_wp2
      go_ret
      exact ⟨rfl, HB.out⟩
end Go.Proofs.YthpecpkncifngaaDoor.X
end

/- TreeChecks: the law's walk. -/
section
namespace Go.Proofs.YthpecpkncifngaaDoor.X
open Go.RowKit Go.Shelf Go.Proofs.YthpecpkncifngaaDoor Go.Proofs.YthpecpkncifngaaDoorW.PrintWords Go.Proofs.YthpecpkncifngaaDoorW.PrintLast Go.Proofs.YthpecpkncifngaaDoorW.PrintMore Go.Proofs.YthpecpkncifngaaDoor.Pure
theorem refcheck_any (A : Option Addr) (c : Nat) (xs : List S26) (w : World) (hr : Kd.C k26 w A xs.length xs) (hc : xs.length ≤ c) :
    Calls Tryd.prog 14 #[.slice A xs.length c] w fun e w' => e = .returned (.tuple #[.int .i64 (checkP xs).1, .int .i64 (checkP xs).2]) ∧ Below w.heap.size w w' := by
  obtain ⟨k, hk⟩ := Ev.rounds (refchk_ev xs)
  exact tabularyref11_Check.calls k A c xs _ _ w hr hc hk
end Go.Proofs.YthpecpkncifngaaDoor.X
end

/- TreeWithout: the reference's Find and Without, and the law's walk. -/
section
namespace Go.Proofs.YthpecpkncifngaaDoor.X
open Go.RowKit Go.Shelf Go.Proofs.YthpecpkncifngaaDoor Go.Proofs.YthpecpkncifngaaDoorW.PrintWords Go.Proofs.YthpecpkncifngaaDoorW.PrintLast Go.Proofs.YthpecpkncifngaaDoorW.PrintMore Go.Proofs.YthpecpkncifngaaDoor.Pure
theorem reffind_l0 (xs : List S26) (path : ByteArray) (hm : xs.length ≤ 140737488355328) (d : Nat) : ∀ i : Nat, i ≤ xs.length → xs.length - i = d →
    Ev (fun k => tabularyref11_Find.l0 k xs path (i : Int)) (if idxP (fun x => x.f0.toList == path.toList) xs i < 0 then (0, 4) else (idxP (fun x => x.f0.toList == path.toList) xs i, 0)) := by
  induction d with
  | zero =>
    intro i hi hd
    rw [idxP_end (by omega), if_pos (by decide)]
    exact Ev.step (fun k => by simp only [tabularyref11_Find.l0]; rw [if_neg (by omega)]) (Ev.now _)
  | succ d ih =>
    intro i hi hd
    have hlt : i < xs.length := by omega
    by_cases h : ((rd_T26 xs i).f0.toList == path.toList) = true
    · rw [idxP_yes hlt h, if_neg (by omega)]
      exact Ev.step (fun k => by simp only [tabularyref11_Find.l0]; rw [if_pos (by omega), if_pos (by omega), if_pos (by simpa using h)]) (Ev.now _)
    · have h' : ((rd_T26 xs i).f0.toList == path.toList) = false := by simpa using h
      have hw : wrap64 ((i : Int) + 1) = ((i + 1 : Nat) : Int) := wrap_succ (by omega)
      rw [idxP_no (p := fun x => x.f0.toList == path.toList) hlt h']
      exact Ev.step (fun k => by simp only [tabularyref11_Find.l0]; rw [if_pos (by omega), if_pos (by omega), if_neg (by simpa using h), hw]) (ih (i + 1) (by omega) (by omega))
theorem reffind_ev (xs : List S26) (path : ByteArray) (hm : xs.length ≤ 140737488355328) : Ev (fun k => tabularyref11_Find.f k xs path) (findP xs path) :=
  Ev.congr (fun k => rfl) (reffind_l0 xs path hm _ 0 (Nat.zero_le _) rfl)
theorem reffind_any (A : Option Addr) (c : Nat) (xs : List S26) (path : ByteArray) (w : World) (hr : Kd.C k26 w A xs.length xs) (hc : xs.length ≤ c) (hm : xs.length ≤ 140737488355328) :
    Calls Tryd.prog 49 #[.slice A xs.length c, .string path] w fun e w' => e = .returned (.tuple #[.int .i64 (findP xs path).1, .int .i64 (findP xs path).2]) ∧ Below w.heap.size w w' := by
  obtain ⟨k, hk⟩ := Ev.rounds (reffind_ev xs path hm)
  refine (tabularyref11_Find.calls k A c xs path (findP xs path).1 (findP xs path).2 w hr hc hk).mono ?_
  rintro e w1 ⟨rfl, hd⟩
  exact ⟨rfl, hd.below⟩
end Go.Proofs.YthpecpkncifngaaDoor.X
end

/- The contract of the reference's Real. -/
section
namespace Go.Proofs.YthpecpkncifngaaDoor.X
open Go Go.RowKit Go.Shelf Go.Proofs.YthpecpkncifngaaDoor Go.Proofs.YthpecpkncifngaaDoorW.PrintWords Go.Proofs.YthpecpkncifngaaDoorW.PrintLast Go.Proofs.YthpecpkncifngaaDoorW.PrintMore Go.Proofs.YthpecpkncifngaaDoor.Pure
theorem hard_find {xs : List S26} (hc : (checkP xs).2 = 0) {x : S26} (hx : x ∈ xs) (h3 : x.f1 = 3) :
    ∃ j : Nat, j < xs.length ∧ findP xs x.f5 = ((j : Int), 0) ∧ hardTo xs x = rd_T26 xs j ∧ (rd_T26 xs j).f1 = 1 ∧ rd_T26 xs j ∈ xs := by
  obtain ⟨z, hz, hze, hz1⟩ := hard_file hc hx h3
  rcases find_item xs x.f5 with ⟨hn, _⟩ | ⟨j, hj, hf, hz2⟩
  · rw [hn] at hze; cases hze
  · rw [hze] at hz2
    have e := Option.some.inj hz2
    refine ⟨j, hj, hf, ?_, by rw [← e]; exact hz1, by rw [← e]; exact hz⟩
    unfold hardTo
    rw [if_pos h3, hze, ← e]
    rfl
theorem refparts_l0 (l : List (Nat × List UInt8)) (hl : l.length ≤ 8796093022207) (d : Nat) : ∀ (i : Nat) (out : List ByteArray), i ≤ l.length → l.length - i = d → out.length ≤ i →
    Ev (fun k => tabularyref11_parts.l0 k out (l.map toS) (i : Int)) (out ++ (l.drop i).map (fun x => bytesOfL x.2)) := by
  induction d with
  | zero =>
    intro i out hi hd ho
    obtain rfl : i = l.length := by omega
    rw [List.drop_length, List.map_nil, List.append_nil]
    exact Ev.step (fun k => by simp only [tabularyref11_parts.l0, List.length_map]; rw [if_neg (by omega)]) (Ev.now _)
  | succ d ih =>
    intro i out hi hd ho
    have hlt : i < l.length := by omega
    have h := ih (i + 1) (out ++ [bytesOfL l[i].2]) (by omega) (by omega) (by simp; omega)
    rw [List.drop_eq_getElem_cons hlt, List.map_cons]
    rw [List.append_assoc, List.singleton_append] at h
    exact Ev.step (fun k => by simp only [tabularyref11_parts.l0, List.length_map]; rw [if_pos (by omega), if_pos (by omega), if_pos (by omega), rd_f1 l i hlt, wrap_succ (by omega)]) h
theorem refparts_ev (p : ByteArray) (hp : p.size ≤ 1099511627776) : Ev (fun k => tabularyref11_parts.f k p) ((Nm.partsL p.data.toList).map bytesOfL) := by
  by_cases he : p.data.toList = []
  · rw [Nm.partsL, if_pos he]
    exact Ev.congr (fun k => by rw [tabularyref11_parts.f, if_pos (by rw [Lib.toList_data]; exact he)]; rfl) (Ev.now _)
  · rw [Nm.partsL, if_neg he]
    have hb := Nm.pieces_length p.data.toList 0
    rw [Pure.len_eq] at hb
    have := refparts_l0 (Nm.pieces 0 p.data.toList) (by omega) _ 0 [] (Nat.zero_le _) rfl (Nat.le_refl _)
    refine Ev.congr (fun k => by rw [tabularyref11_parts.f, if_neg (by rw [Lib.toList_data]; exact he)]) (Ev.bind (pieces_ev p hp) ?_)
    have e : (Nm.texts p.data.toList).map bytesOfL = [] ++ ((Nm.pieces 0 p.data.toList).drop 0).map (fun x => bytesOfL x.2) := by simp [Nm.texts]
    rw [e]
    exact this
theorem refparts_any (p : ByteArray) (w : World) (hp : p.size ≤ 1099511627776) :
    Calls Tryd.prog 61 #[.string p] w fun e w' => ∃ v, e = .returned v ∧ Kd.R Kd.string 9 w' w.heap.size (fun _ => True) v ((Nm.partsL p.data.toList).map bytesOfL) ∧ Below w.heap.size w w' := by
  obtain ⟨k, hk⟩ := Ev.rounds (refparts_ev p hp)
  exact tabularyref11_parts.calls k p _ w hk
theorem refjoined_any (A : Option Addr) (n c : Nat) (L : List (List UInt8)) (w : World) (hn : n = L.length) (hr : Kd.C Kd.string w A n (L.map bytesOfL)) (hc : n ≤ c) (ht : Nm.totL L ≤ 4294967296) :
    Calls Tryd.prog 62 #[.slice A n c] w fun e w' => e = .returned (.string (bytesOfL (Nm.joinT L))) ∧ Drawn0 w w' := by
  subst hn
  obtain ⟨k, hk⟩ := Ev.rounds (joined_ev (L.map bytesOfL) (by rw [tot_texts]; exact ht))
  rw [jl_texts] at hk
  have := tabularyref08_Joined.calls k A c (L.map bytesOfL) _ w (by simpa using hr) (by simpa using hc) hk
  simpa using this
theorem reflead_any (p q : ByteArray) (w : World) :
    Calls Tryd.prog 44 #[.string p, .string q] w fun e w' => e = .returned (.tuple #[.string (bytesOfL (Nm.lead p.data.toList q.data.toList).1), .int .i64 ((Nm.lead p.data.toList q.data.toList).2 : Int)]) ∧ Below w.heap.size w w' := by
  obtain ⟨k, hk⟩ := Ev.rounds (reflead_ev p q)
  exact tabularyref08_Lead.calls k p q _ _ w hk
theorem refcheckn_any (p : ByteArray) (w : World) :
    Calls Tryd.prog 42 #[.string p] w fun e w' => e = .returned (.tuple #[.int .i64 ((Nm.check p.data.toList).1 : Int), .int .i64 ((Nm.check p.data.toList).2 : Int)]) ∧ Below w.heap.size w w' := by
  obtain ⟨k, hk⟩ := Ev.rounds (refcheck_ev p)
  exact tabularyref08_Check.calls k p _ _ w hk
theorem blk_zero (w : World) (o : Obj) : (w.alloc o).drew.heap[w.heap.size]? = some o := blk_new w o
theorem blk_first (w : World) (o1 o2 : Obj) : ((w.alloc o1).alloc o2).drew.heap[w.heap.size]? = some o1 := ((below_alloc (Below.refl _ (w.alloc o1)) o2).block w.heap.size (by simp)).trans (blk_new w o1)
theorem blk_second (w : World) (o1 o2 : Obj) : ((w.alloc o1).alloc o2).drew.heap[w.heap.size + 1]? = some o2 := by
  have := blk_new (w.alloc o1) o2
  rw [World.size_alloc] at this
  exact this
theorem R_empty {W : World} {base g : Nat} (h : W.heap[g]? = some (.cells #[] 9 (0, 0))) (hb : base ≤ g) : Kd.R Kd.string 9 W base (fun _ => True) (.slice (some ⟨g, 0, none⟩) 0 0) [] :=
  ⟨fun _ _ => trivial, [], ⟨rfl, .inr ⟨g, 0, #[], rfl, hb, h, Nat.le_refl _, by decide, rfl, rfl⟩⟩, Reps.none _ _⟩
theorem C_one {W : World} {a : Addr} {s : ByteArray} (h : W.cell? a = some (.string s)) : Kd.C Kd.string W (some a) 1 [s] := by
  refine ⟨rfl, by decide, fun _ => ⟨a, rfl, fun j p hj => ?_⟩⟩
  have hj0 : j = 0 := by have := (List.getElem?_eq_some_iff.1 hj).1; simpa using this
  subst hj0
  obtain rfl : s = p := by simpa using hj
  refine ⟨[.string s], rfl, rfl, fun i u hu => ?_⟩
  have hi : i = 0 := by have := (List.getElem?_eq_some_iff.1 hu).1; simpa using this
  subst hi
  exact h.trans hu
set_option maxRecDepth 100000 in
set_option maxHeartbeats 8000000 in
theorem refreal_any (A : Option Addr) (c : Nat) (xs : List S26) (path : ByteArray) (w : World) (hr : Kd.C k26 w A xs.length xs) (hc : xs.length ≤ c) :
    Calls Tryd.prog 24 #[.slice A xs.length c, .string path] w fun e w' => e = .returned (.tuple #[.string (bytesOfL (realT xs path.data.toList).1), .int .i64 (realT xs path.data.toList).2]) ∧ Below w.heap.size w w' := by
  have HR := Aside0.mk hr
  clear hr
  by_cases h1 : (checkP xs).2 = 0
  case neg =>
    have H := Lib.hid (show realT xs path.data.toList = ([], (checkP xs).2) by unfold realT; rw [if_pos h1])
    have hd : ((checkP xs).2 != 0) = true := by simpa using h1
    rw [H.out]
    clear h1
    go_enter Tryd.func24, Tryd.ntmps24
    go_wp2_with fail
    refine (refcheck_any A c xs _ HR.out hc).mono ?_
    rintro e w1 ⟨rfl, hb⟩
    go_wp2
    go_ret2
    exact ⟨rfl, hb⟩
  have hd : ((checkP xs).2 != 0) = false := by simpa using h1
  by_cases h2 : path.data.toList = []
  · have H := Lib.hid (show realT xs path.data.toList = ([], 0) by unfold realT; rw [if_neg (by simp [h1]), if_pos h2])
    have he : path.toList.isEmpty = true := by rw [Lib.toList_data, h2]; rfl
    rw [H.out]
    clear h1 h2
    go_enter Tryd.func24, Tryd.ntmps24
    go_wp2_with fail
    refine (refcheck_any A c xs _ HR.out hc).mono ?_
    rintro e w1 ⟨rfl, hb⟩
    go_wp2
    go_ret2
    exact ⟨rfl, hb⟩
  have he : path.toList.isEmpty = false := by rw [Lib.toList_data]; simpa using h2
  by_cases h3 : (Nm.check path.data.toList).2 = 0
  case neg =>
    have H := Lib.hid (show realT xs path.data.toList = ([], ((Nm.check path.data.toList).2 : Int)) by unfold realT; rw [if_neg (by simp [h1]), if_neg h2, if_pos h3])
    have hd3 : (((Nm.check path.data.toList).2 : Int) != 0) = true := by simpa using h3
    rw [H.out]
    clear h1 h2 h3
    go_enter Tryd.func24, Tryd.ntmps24
    go_wp2_with fail
    refine (refcheck_any A c xs _ HR.out hc).mono ?_
    rintro e w1 ⟨rfl, hb⟩
    have HB1 := Aside0.mk hb
    clear hb
    go_wp2_with fail
    refine (refcheckn_any path w1).mono ?_
    rintro e w2 ⟨rfl, hb⟩
    go_wp2
    go_ret2
    exact ⟨rfl, HB1.out.trans (hb.mono HB1.out.size)⟩
  have hd3 : (((Nm.check path.data.toList).2 : Int) != 0) = false := by simpa using h3
  have HC := Lib.hid h1
  have H := Lib.hid (show realT xs path.data.toList = realP xs [] (Nm.partsL path.data.toList) 0 by unfold realT; rw [if_neg (by simp [h1]), if_neg h2, if_neg (by simp [h3]), (Nm.parts_check h3).2.1])
  have HG := Aside0.mk (Nm.parts_check h3).2.2
  have HT := Aside0.mk (show Nm.totL (Nm.partsL path.data.toList) ≤ 401 by rw [(Nm.parts_check h3).2.1, Nm.totL_texts]; have := ((Nm.check_ok _).1 h3).1; omega)
  have hpz : path.size ≤ 400 := by have := ((Nm.check_ok _).1 h3).1; rw [Pure.len_eq] at this; exact this
  have hxl := (chk_ok h1).1
  clear h1 h2 h3
  go_enter Tryd.func24, Tryd.ntmps24
  go_wp2_with fail
  refine (refcheck_any A c xs _ HR.out hc).mono ?_
  rintro e w1 ⟨rfl, hb⟩
  have HB1 := Aside0.mk hb
  clear hb
  go_wp2_with fail
  refine (refcheckn_any path w1).mono ?_
  rintro e w2 ⟨rfl, hb⟩
  have HB2 := Aside0.mk (HB1.out.trans (hb.mono HB1.out.size))
  clear hb HB1
  go_wp2_with fail
  refine (refparts_any path w2 (by omega)).mono ?_
  rintro e w3 ⟨v, rfl, hR, hb⟩
  obtain ⟨A2, c2, rfl, hc2, hC2⟩ := Kd.R_reads hR
  have HB3 := Aside0.mk (HB2.out.trans (hb.mono HB2.out.size))
  rw [List.length_map] at hc2 hC2
  rw [List.length_map]
  have HC2 := Aside0.mk hC2
  clear hb HB2 hR hC2
  generalize Nm.partsL path.data.toList = L0 at *
  go_wp2
  clear hd hd3 he
  go_loopw [8, 9, 10] (fun r t h wq => ∃ (R L : List (List UInt8)) (A1 A2 : Option Addr) (c1 c2 hops : Nat), r = .slice A1 R.length c1 ∧ t = .slice A2 L.length c2 ∧ h = .int .i64 (hops : Nat) ∧ R.length ≤ c1 ∧ L.length ≤ c2 ∧ hops ≤ 40 ∧ Aside0 (Kd.C Kd.string wq A1 R.length (R.map bytesOfL)) ∧ Aside0 (Kd.C Kd.string wq A2 L.length (L.map bytesOfL)) ∧ Aside0 (Nm.Good L ∧ Nm.totL L ≤ 401 + 802 * hops) ∧ Aside0 (Nm.Good R ∧ Nm.totL R ≤ 401) ∧ Hid (realP xs [] L0 0 = realP xs R L hops) ∧ Aside0 (Below w.heap.size w wq)) (fun _ t h _ => (40 - (intOf h).toNat) * 100000 + (match t with | .slice _ n _ => n | _ => 0))
  case atStart => exact ⟨[], L0, none, A2, 0, c2, 0, rfl, rfl, rfl, Nat.le_refl _, hc2, by omega, ⟨Kd.C_nil _ _⟩, HC2, ⟨HG.out, HT.out⟩, ⟨Nm.Good.nil, by simp [Nm.totL]⟩, Lib.hid rfl, HB3⟩
  case round =>
    obtain ⟨R, L, A1, A2, c1, c2, hops, rfl, rfl, rfl, hc1, hc2, hh, hC1, hC2, hL, hRR, hi, hB⟩ := hrel
    cases L with
    | nil =>
      go_wp2_with fail
      refine (refjoined_any A1 R.length c1 R _ rfl hC1.out hc1 (by have := hRR.out.2; omega)).mono ?_
      rintro e w4 ⟨rfl, hdr⟩
      go_wp2
      go_ret2
      exact ⟨by rw [H.out, hi.out, real_nil]; rfl, hB.out.trans (hdr.below.mono hB.out.size)⟩
    | cons p rest =>
      have hpos : decide ((0 : Int) < ((rest.length + 1 : Nat) : Int)) = true := decide_eq_true (by omega)
      have mixed : Tryd.prog.follows Departure.mixedOrders = true := by kernel_rfl
      obtain ⟨ad, hA2, hcell0⟩ : ∃ ad : Addr, A2 = some ad ∧ wr.cell? ad = some (.string (bytesOfL p)) := by
        obtain ⟨ad, cs, hA, _, hk, hcell⟩ := Kd.C_get hC2.out ByteArray.empty 0 (by omega) (by simp)
        have hK : cs = [.string ((List.map bytesOfL (p :: rest)).getD (0 : Int).toNat ByteArray.empty)] := hk
        subst hK
        exact ⟨ad, hA, hcell 0 _ rfl⟩
      subst hA2
      obtain ⟨b0, o0, rfl⟩ : ∃ b o, ad = ⟨b, o, none⟩ := ⟨_, _, Jn.spot_of hcell0⟩
      have KEEP := Aside0.mk (fun (W : World) (hW : Below wr.heap.size wr W) => (⟨hW, (hW.cell (World.block_lt_of_cell? wr _ hcell0)).trans hcell0⟩ : Below wr.heap.size wr W ∧ W.cell? ⟨b0, o0, none⟩ = some (.string (bytesOfL p))))
      have hBn : Below wr.heap.size wr wr.drew := below_drew (Below.refl _ _)
      have hRl : R.length ≤ 401 := by have e1 := hRR.out.2; have e2 := totL_len R; omega
      have HRr := Aside0.mk (Kd.C_below HR.out hB.out)
      have htj : Nm.totL (R ++ [p]) ≤ 4294967296 := by
        have e1 := hRR.out.2
        have e2 := hL.out.2
        simp [Nm.totL] at e1 e2 ⊢
        omega
      go_upto_region 13 with (fail)
      go_cut [11, 12] (fun v11 v12 wc => v11 = .int .i64 (findP xs (bytesOfL (Nm.joinT (R ++ [p])))).1 ∧ v12 = .int .i64 (findP xs (bytesOfL (Nm.joinT (R ++ [p])))).2 ∧ Aside0 (Below wr.heap.size wr wc))
      case first =>
        go_wp2
        go_region_held3 (fun W => Below wr.heap.size wr W ∧ W.cell? ⟨b0, o0, none⟩ = some (.string (bytesOfL p))) (exact KEEP.out _ (by repeat (first | exact hBn | exact Below.refl _ _ | refine below_alloc ?_ _ | refine below_drew ?_)))
          (first
            | (show (if Region.wanted { dst := some 43, .. } _ = true then _ else _); refine Kd.R_append_rows_step Kd.string (w0 := wr) wr.heap.size rfl (.tmp 41) (.tmp 42) 60 9 (.string ⟨#[]⟩) 16 rfl Tryd.underlying60 info9 rfl (by decide) (by decide) (.slice (some ⟨wr.heap.size, 0, none⟩) 0 0) [] (R.map bytesOfL) A1 R.length c1 (fun _ => True) (fun _ => False) rfl rfl (R_empty (by first | exact blk_zero wr _ | exact blk_first wr _ _) (Nat.le_refl _)) (Kd.C_below hC1.out (by repeat (first | exact hBn | exact Below.refl _ _ | refine below_alloc ?_ _ | refine below_drew ?_))) (fun _ _ h => h) (fun _ h => h.elim) (fun _ _ => trivial) (by repeat (first | exact hBn | exact Below.refl _ _ | refine below_alloc ?_ _ | refine below_drew ?_)) (below_size (by repeat (first | exact hBn | exact Below.refl _ _ | refine below_alloc ?_ _ | refine below_drew ?_))) (by simp; omega) ?_; intro v4 w4 hR4 hB4 hg4 hat4; replace hBn := hB4)
            | (show (if Region.wanted { dst := some 43, .. } _ = true then _ else _); refine Kd.R_append_rows_step Kd.string (w0 := wr) wr.heap.size rfl (.tmp 41) (.tmp 42) 60 9 (.string ⟨#[]⟩) 16 rfl Tryd.underlying60 info9 rfl (by decide) (by decide) (.slice (some ⟨wr.heap.size + 1, 0, none⟩) 0 0) [] (R.map bytesOfL) A1 R.length c1 (fun _ => True) (fun _ => False) rfl rfl (R_empty (blk_second wr _ _) (Nat.le_succ _)) (Kd.C_below hC1.out (by repeat (first | exact hBn | exact Below.refl _ _ | refine below_alloc ?_ _ | refine below_drew ?_))) (fun _ _ h => h) (fun _ h => h.elim) (fun _ _ => trivial) (by repeat (first | exact hBn | exact Below.refl _ _ | refine below_alloc ?_ _ | refine below_drew ?_)) (below_size (by repeat (first | exact hBn | exact Below.refl _ _ | refine below_alloc ?_ _ | refine below_drew ?_))) (by simp; omega) ?_; intro v4 w4 hR4 hB4 hg4 hat4; replace hBn := hB4)
            | (show (if Region.wanted { dst := some 48, .. } _ = true then _ else _); refine Kd.R_append_rows_step Kd.string (w0 := wr) wr.heap.size rfl (.tmp 43) (.tmp 47) 60 9 (.string ⟨#[]⟩) 16 rfl Tryd.underlying60 info9 rfl (by decide) (by decide) v4 (R.map bytesOfL) [bytesOfL p] (some ⟨w4.heap.size, 0, none⟩) 1 1 (fun _ => True) (fun _ => False) rfl rfl (by repeat (first | exact hR4 | refine Kd.R_alloc ?_ _ | refine Kd.R_drew ?_)) (C_one (by exact (cell_new_l w4 _ _).1)) (fun _ _ h => h) (fun _ h => h.elim) (fun _ _ => trivial) (by repeat (first | exact hBn | exact Below.refl _ _ | refine below_alloc ?_ _ | refine below_drew ?_)) (below_size (by repeat (first | exact hBn | exact Below.refl _ _ | refine below_alloc ?_ _ | refine below_drew ?_))) (by simp; omega) ?_; intro v5 w5 hR5 hB5 hg5 hat5; replace hBn := hB5; (have hq : ∃ A c, v5 = .slice A (R.length + 1) c ∧ R.length + 1 ≤ c ∧ Kd.C Kd.string w5 A (R.length + 1) ((R ++ [p]).map bytesOfL) := by simpa using Kd.R_reads hR5); obtain ⟨A5, c5, rfl, hc5, hC5⟩ := hq)
            | (show (if Region.wanted { dst := some 48, .. } _ = true then _ else _); refine Kd.R_append_rows_step Kd.string (w0 := wr) wr.heap.size rfl (.tmp 43) (.tmp 47) 60 9 (.string ⟨#[]⟩) 16 rfl Tryd.underlying60 info9 rfl (by decide) (by decide) v4 (R.map bytesOfL) [bytesOfL p] (some ⟨wr.heap.size + 1, 0, none⟩) 1 1 (fun _ => True) (fun _ => False) rfl rfl (by repeat (first | exact hR4 | refine Kd.R_alloc ?_ _ | refine Kd.R_drew ?_)) (C_one ((blk_cell ((hg4.block (wr.heap.size + 1) (by simp) (by simp [Value.ownBlock])).trans (blk_second wr (.cells #[] 9) (.cells #[.string (bytesOfL p)] 9))) 0).trans rfl)) (fun _ _ h => h) (fun _ h => h.elim) (fun _ _ => trivial) (by repeat (first | exact hBn | exact Below.refl _ _ | refine below_alloc ?_ _ | refine below_drew ?_)) (below_size (by repeat (first | exact hBn | exact Below.refl _ _ | refine below_alloc ?_ _ | refine below_drew ?_))) (by simp; omega) ?_; intro v5 w5 hR5 hB5 hg5 hat5; replace hBn := hB5; (have hq : ∃ A c, v5 = .slice A (R.length + 1) c ∧ R.length + 1 ≤ c ∧ Kd.C Kd.string w5 A (R.length + 1) ((R ++ [p]).map bytesOfL) := by simpa using Kd.R_reads hR5); obtain ⟨A5, c5, rfl, hc5, hC5⟩ := hq)
            | (show (if Region.wanted { dst := some 48, .. } _ = true then _ else _); refine Kd.R_append_rows_step Kd.string (w0 := wr) wr.heap.size rfl (.tmp 43) (.tmp 47) 60 9 (.string ⟨#[]⟩) 16 rfl Tryd.underlying60 info9 rfl (by decide) (by decide) v4 (R.map bytesOfL) [bytesOfL p] (some ⟨wr.heap.size, 0, none⟩) 1 1 (fun _ => True) (fun _ => False) rfl rfl (by repeat (first | exact hR4 | refine Kd.R_alloc ?_ _ | refine Kd.R_drew ?_)) (C_one ((blk_cell ((hg4.block wr.heap.size (by simp; omega) (by simp [Value.ownBlock])).trans (blk_first wr (.cells #[.string (bytesOfL p)] 9) (.cells #[] 9))) 0).trans rfl)) (fun _ _ h => h) (fun _ h => h.elim) (fun _ _ => trivial) (by repeat (first | exact hBn | exact Below.refl _ _ | refine below_alloc ?_ _ | refine below_drew ?_)) (below_size (by repeat (first | exact hBn | exact Below.refl _ _ | refine below_alloc ?_ _ | refine below_drew ?_))) (by simp; omega) ?_; intro v5 w5 hR5 hB5 hg5 hat5; replace hBn := hB5; (have hq : ∃ A c, v5 = .slice A (R.length + 1) c ∧ R.length + 1 ≤ c ∧ Kd.C Kd.string w5 A (R.length + 1) ((R ++ [p]).map bytesOfL) := by simpa using Kd.R_reads hR5); obtain ⟨A5, c5, rfl, hc5, hC5⟩ := hq)
            | (go_at_call 62; refine (refjoined_any A5 (R.length + 1) c5 (R ++ [p]) _ (by simp) hC5 hc5 htj).mono ?_; rintro e W6 ⟨rfl, hdr⟩; replace hBn := hBn.trans (hdr.below.mono hBn.size); clear hdr)
            | (go_at_call 49; refine (reffind_any A c xs (bytesOfL (Nm.joinT (R ++ [p]))) _ (Kd.C_below HRr.out hBn) hc (by omega)).mono ?_; rintro e W7 ⟨rfl, hb7⟩; replace hBn := hBn.trans (hb7.mono hBn.size); clear hb7))
        all_goals
          go_wp2
          go_meet
          case rel => exact ⟨rfl, rfl, ⟨hBn⟩⟩
      case rest =>
        obtain ⟨rfl, rfl, hBc⟩ := hcut
        have HBw := Aside0.mk (hB.out.trans (hBc.out.mono hB.out.size))
        have hCr := Aside0.mk (Kd.C_below hC2.out hBc.out)
        have hc2' : rest.length + 1 ≤ c2 := by simpa using hc2
        have hkd : (bytesOfL (Nm.joinT (R ++ [p]))).data.toList = Nm.joinT (R ++ [p]) := rfl
        have hdrop := Kd.C_drop (k := Kd.string) (m := 1) (c := c2) (xs := List.map bytesOfL (p :: rest)) (by simpa using hCr.out) (by simp) (by simpa using hc2)
        have hsz1 : (1 * Kd.string.sz) = 1 := rfl
        rw [hsz1, List.length_drop, List.length_map, ← List.map_drop] at hdrop
        have HDrop := Aside0.mk (show Kd.C Kd.string wc (if c2 = 1 then some ⟨b0, o0, none⟩ else some ⟨b0, o0 + 1, none⟩) rest.length (rest.map bytesOfL) from hdrop)
        clear hdrop
        go_upto_region 14 with (fail)
        go_cut [9] (fun v9 wd => wd = wc ∧ ∃ A3 c3, v9 = .slice A3 rest.length c3 ∧ rest.length ≤ c3 ∧ Aside0 (Kd.C Kd.string wc A3 rest.length (rest.map bytesOfL)))
        case first =>
          by_cases hc21 : c2 = 1
          · have HD := HDrop.out
            rw [if_pos hc21] at HD
            have HD' := Aside0.mk HD
            clear HD HDrop
            go_wp2
            go_meet
            case rel => exact ⟨rfl, _, _, rfl, by omega, HD'⟩
          · have HD := HDrop.out
            rw [if_neg hc21] at HD
            have HD' := Aside0.mk HD
            clear HD HDrop
            go_wp2
            go_meet
            case rel => exact ⟨rfl, _, _, rfl, by omega, HD'⟩
        case rest =>
          obtain ⟨rfl, A3, c3, rfl, hc3, hC3⟩ := hcut
          clear HDrop hCr
          have hkd : (bytesOfL (Nm.joinT (R ++ [p]))).data.toList = Nm.joinT (R ++ [p]) := rfl
          have hgr := hL.out.1.tail
          have htl : Nm.totL rest ≤ 401 + 802 * hops := by
            have := hL.out.2
            simp [Nm.totL] at this ⊢
            omega
          rcases find_item xs (bytesOfL (Nm.joinT (R ++ [p]))) with ⟨ht1, hf⟩ | ⟨j, hj, hf, ht1⟩
          · rw [hkd] at ht1
            have HI := Lib.hid (hi.out.trans (real_none (hops := hops) (rest := rest) ht1))
            rw [hf]
            clear hf ht1 hkd
            go_wp2
            go_ret2
            exact ⟨by rw [H.out, HI.out]; rfl, HBw.out⟩
          · rw [hkd] at ht1
            have hx := (item_some ht1).1
            rw [hf]
            obtain ⟨ax, A4, c4, hA, h0, h1, h2, h3, h4, h5, -, -⟩ := at_it HR.out HBw.out j hj
            subst hA
            have hmy := (chk_rise HC.out).2 _ hx
            generalize rd_T26 xs j = x at *
            have hkk := may_kind hmy
            have hgx := Nm.parts_check (may_check hmy)
            have htx : Nm.totL (Nm.partsL x.f0.data.toList) ≤ 401 := by rw [hgx.2.1, Nm.totL_texts]; have := may_size hmy; have := Pure.len_eq x.f0; omega
            have hx0 := may_size hmy
            obtain ⟨f0, f1, f2, f3, f4, f5⟩ := x
            simp only at hkk hgx htx h0 h1 h2 h3 h4 h5 hx0
            have HgG := Aside0.mk hgx.2.2
            clear hf hkd hgx
            rcases hkk with rfl | rfl | rfl | rfl
            · have hh1 : hardTo xs ⟨f0, 1, f2, f3, f4, f5⟩ = ⟨f0, 1, f2, f3, f4, f5⟩ := by unfold hardTo; exact if_neg (by simp)
              by_cases hre : rest = []
              · have hd0 : decide ((0 : Int) < (rest.length : Int)) = false := by rw [hre]; rfl
                have hd0' : decide (0 < rest.length) = false := by rw [hre]; rfl
                have hi2 := hi.out.trans (real_go (hops := hops) ht1 (fun q => q.2 hre) (by rw [hh1]; simp))
                rw [hh1] at hi2
                have HI := Lib.hid hi2
                clear hi2 ht1 hh1 hre hmy
                go_wp2_with fail
                refine (refparts_any f0 _ (by omega)).mono ?_
                rintro e w8 ⟨v8, rfl, hR8, hb⟩
                obtain ⟨A8, c8, rfl, hc8, hC8⟩ := Kd.R_reads hR8
                rw [List.length_map] at hc8 hC8
                rw [List.length_map]
                have HC8 := Aside0.mk hC8
                have hBa := (Below.refl wc.heap.size wc).alloc (Nat.le_refl _) (.cells #[.string f0, .int .u8 1, .int .i64 f2, .int .i64 f3, .slice A4 f4.length c4, .string f5] 26)
                have hB8 := hBa.trans (hb.mono hBa.size)
                have HB8 := Aside0.mk (HBw.out.trans (hB8.mono HBw.out.size))
                have HCl := Aside0.mk (Kd.C_below hC3.out hB8)
                clear hb hBa hB8 hR8 hC8
                go_wp2
                go_roundw
                case rel => exact ⟨Nm.partsL f0.data.toList, rest, A8, A3, c8, c3, hops, rfl, rfl, rfl, hc8, hc3, hh, HC8, HCl, ⟨hgr, htl⟩, ⟨HgG.out, htx⟩, HI, HB8⟩
                case measure => simp [intOf]
              · have hrp := List.length_pos_iff.2 hre
                have hd0 : decide ((0 : Int) < (rest.length : Int)) = true := decide_eq_true (by omega)
                have hd0' : decide (0 < rest.length) = true := decide_eq_true hrp
                have HI := Lib.hid (hi.out.trans (real_file (hops := hops) ht1 (by rw [hh1]) hre))
                clear ht1 hh1 hre hmy hrp
                go_wp2
                go_ret2
                exact ⟨by rw [H.out, HI.out]; rfl, HBw.out.alloc HBw.out.size _⟩
            · have hh1 : hardTo xs ⟨f0, 2, f2, f3, f4, f5⟩ = ⟨f0, 2, f2, f3, f4, f5⟩ := by unfold hardTo; exact if_neg (by simp)
              have hi2 := hi.out.trans (real_go (hops := hops) (rest := rest) ht1 (by rw [hh1]; exact fun q => absurd q.1 (by simp)) (by rw [hh1]; simp))
              rw [hh1] at hi2
              have HI := Lib.hid hi2
              clear hi2 ht1 hh1 hmy
              go_wp2_with fail
              refine (refparts_any f0 _ (by omega)).mono ?_
              rintro e w8 ⟨v8, rfl, hR8, hb⟩
              obtain ⟨A8, c8, rfl, hc8, hC8⟩ := Kd.R_reads hR8
              rw [List.length_map] at hc8 hC8
              rw [List.length_map]
              have HC8 := Aside0.mk hC8
              have hBa := (Below.refl wc.heap.size wc).alloc (Nat.le_refl _) (.cells #[.string f0, .int .u8 2, .int .i64 f2, .int .i64 f3, .slice A4 f4.length c4, .string f5] 26)
              have hB8 := hBa.trans (hb.mono hBa.size)
              have HB8 := Aside0.mk (HBw.out.trans (hB8.mono HBw.out.size))
              have HCl := Aside0.mk (Kd.C_below hC3.out hB8)
              clear hb hBa hB8 hR8 hC8
              go_wp2
              go_roundw
              case rel => exact ⟨Nm.partsL f0.data.toList, rest, A8, A3, c8, c3, hops, rfl, rfl, rfl, hc8, hc3, hh, HC8, HCl, ⟨hgr, htl⟩, ⟨HgG.out, htx⟩, HI, HB8⟩
              case measure => simp [intOf]
            · obtain ⟨j2, hj2, hf2, hh1, hz1, hz⟩ := hard_find HC.out hx rfl
              simp only at hf2
              have HMz := Aside0.mk ((chk_rise HC.out).2 _ hz)
              have HZ1 := Aside0.mk hz1
              have HH1 := Aside0.mk hh1
              have hxl2 : xs.length ≤ 140737488355328 := by omega
              clear hmy hx hz1 hz hh1
              go_wp2_with fail
              refine (reffind_any (some ax) c xs f5 _ (Kd.C_below HR.out (HBw.out.alloc HBw.out.size _)) hc hxl2).mono ?_
              rw [hf2]
              rintro e w8 ⟨rfl, hb⟩
              have k0 := blk_after hb
              have hBa := (Below.refl wc.heap.size wc).alloc (Nat.le_refl _) (.cells #[.string f0, .int .u8 3, .int .i64 f2, .int .i64 f3, .slice A4 f4.length c4, .string f5] 26)
              have hB8 := hBa.trans (hb.mono hBa.size)
              have HB8 := Aside0.mk (HBw.out.trans (hB8.mono HBw.out.size))
              have HCl := Aside0.mk (Kd.C_below hC3.out hB8)
              obtain ⟨ax2, A5, c5, hA2, g0, g1, g2, g3, g4, g5, -, -⟩ := at_it HR.out HB8.out j2 hj2
              cases hA2
              have hz1 := HZ1.out
              have hh1 := HH1.out
              have hmz := HMz.out
              clear HZ1 HH1 HMz
              generalize rd_T26 xs j2 = z at *
              obtain ⟨z0, z1, z2, z3, z4, z5⟩ := z
              simp only at hz1 g0 g1 g2 g3 g4 g5
              subst hz1
              have e0 := (blk_cell k0 0).trans rfl
              have e1 := (blk_cell k0 1).trans rfl
              have e2 := (blk_cell k0 2).trans rfl
              have e3 := (blk_cell k0 3).trans rfl
              have e4 := (blk_cell k0 4).trans rfl
              have e5 := (blk_cell k0 5).trans rfl
              have r0 := blk_frozen k0 0
              have r1 := blk_frozen k0 1
              have r2 := blk_frozen k0 2
              have r3 := blk_frozen k0 3
              have r4 := blk_frozen k0 4
              have r5 := blk_frozen k0 5
              have hgz := Nm.parts_check (may_check hmz)
              have hz0 := may_size hmz
              simp only at hz0 hgz
              have htz : Nm.totL (Nm.partsL z0.data.toList) ≤ 401 := by rw [hgz.2.1, Nm.totL_texts]; have := Pure.len_eq z0; omega
              have HgZ := Aside0.mk hgz.2.2
              clear hgz hmz hb hBa k0 hf2 h0 h1 h2 h3 h4 h5
              by_cases hre : rest = []
              · have hd0 : decide ((0 : Int) < (rest.length : Int)) = false := by rw [hre]; rfl
                have hd0' : decide (0 < rest.length) = false := by rw [hre]; rfl
                have hi2 := hi.out.trans (real_go (hops := hops) ht1 (fun q => q.2 hre) (by rw [hh1]; simp))
                rw [hh1] at hi2
                have HI := Lib.hid hi2
                clear hi2 ht1 hh1 hre
                go_wp2_with fail
                refine (refparts_any z0 _ (by omega)).mono ?_
                rintro e w9 ⟨v9, rfl, hR9, hb9⟩
                obtain ⟨A9, c9, rfl, hc9, hC9⟩ := Kd.R_reads hR9
                rw [List.length_map] at hc9 hC9
                rw [List.length_map]
                have HC9 := Aside0.mk hC9
                have hB6 := below_set (j := 5) (v := .string z5) (below_set (j := 4) (v := .slice A5 z4.length c5) (below_set (j := 3) (v := .int .i64 z3) (below_set (j := 2) (v := .int .i64 z2) (below_set (j := 1) (v := .int .u8 1) (below_set (j := 0) (v := .string z0) (hB8) (Nat.le_refl _)) (Nat.le_refl _)) (Nat.le_refl _)) (Nat.le_refl _)) (Nat.le_refl _)) (Nat.le_refl _)
                have hB9 := hB6.trans (hb9.mono hB6.size)
                have HB9 := Aside0.mk (HBw.out.trans (hB9.mono HBw.out.size))
                have HC3 := Aside0.mk (Kd.C_below hC3.out hB9)
                clear hb9 hB6 hB9 hR9 hC9 hB8
                go_wp2
                go_roundw
                case rel => exact ⟨Nm.partsL z0.data.toList, rest, A9, A3, c9, c3, hops, rfl, rfl, rfl, hc9, hc3, hh, HC9, HC3, ⟨hgr, htl⟩, ⟨HgZ.out, htz⟩, HI, HB9⟩
                case measure => simp [intOf]
              · have hrp := List.length_pos_iff.2 hre
                have hd0 : decide ((0 : Int) < (rest.length : Int)) = true := decide_eq_true (by omega)
                have hd0' : decide (0 < rest.length) = true := decide_eq_true hrp
                have HI := Lib.hid (hi.out.trans (real_file (hops := hops) ht1 (by rw [hh1]) hre))
                clear ht1 hh1 hre hrp
                go_wp2
                go_ret2
                have hle := HBw.out.size
                exact ⟨by rw [H.out, HI.out]; rfl, below_set (j := 5) (v := .string z5) (below_set (j := 4) (v := .slice A5 z4.length c5) (below_set (j := 3) (v := .int .i64 z3) (below_set (j := 2) (v := .int .i64 z2) (below_set (j := 1) (v := .int .u8 1) (below_set (j := 0) (v := .string z0) (HB8.out) hle) hle) hle) hle) hle) hle⟩
            · have hh1 : hardTo xs ⟨f0, 4, f2, f3, f4, f5⟩ = ⟨f0, 4, f2, f3, f4, f5⟩ := by unfold hardTo; exact if_neg (by simp)
              by_cases h40 : hops = 40
              · have e40 : ((hops : Int) == 40) = true := by simp; omega
                have HI := Lib.hid (hi.out.trans (real_loop (hops := hops) (rest := rest) ht1 (by rw [hh1]) (by omega)))
                clear ht1 hh1 hmy h40
                go_wp2
                go_ret2
                exact ⟨by rw [H.out, HI.out]; rfl, HBw.out.alloc HBw.out.size _⟩
              · have e40 : ((hops : Int) == 40) = false := by simp; omega
                have hi2 := hi.out.trans (real_soft (hops := hops) (rest := rest) ht1 (by rw [hh1]) (by omega))
                rw [hh1] at hi2
                obtain ⟨q0, hq1, hq2, hq3⟩ := Nm.lead_good (may_soft_lead hmy rfl)
                simp only at hi2 hq1
                rw [hq1, Nm.parts_joinT hq2] at hi2
                have HI := Lib.hid hi2
                have hLd := reflead_any f0 f5
                rw [hq1] at hLd
                have hpt := refparts_any (bytesOfL (Nm.joinT q0))
                rw [show (bytesOfL (Nm.joinT q0)).data.toList = Nm.joinT q0 from rfl, Nm.parts_joinT hq2] at hpt
                have htz : (bytesOfL (Nm.joinT q0)).size ≤ 802 := by have e1 := Nm.joinT_totL q0; rw [Pure.bytes_size]; omega
                generalize bytesOfL (Nm.joinT q0) = tx at hLd hpt htz
                generalize ((Nm.lead f0.data.toList f5.data.toList).2 : Int) = te at hLd
                have HLd := Aside0.mk hLd
                have HPt := Aside0.mk hpt
                have hql := totL_len q0
                have hrl := totL_len rest
                clear hi2 ht1 hh1 hmy hq1 hLd hpt
                go_wp2_with fail
                refine (HLd.out _).mono ?_
                rintro e w8 ⟨rfl, hb⟩
                have hBa := (Below.refl wc.heap.size wc).alloc (Nat.le_refl _) (.cells #[.string f0, .int .u8 4, .int .i64 f2, .int .i64 f3, .slice A4 f4.length c4, .string f5] 26)
                have hB8 := hBa.trans (hb.mono hBa.size)
                have HB8 := Aside0.mk (HBw.out.trans (hB8.mono HBw.out.size))
                have HCl := Aside0.mk (Kd.C_below hC3.out hB8)
                clear hb hBa hB8
                go_wp2_with fail
                refine (HPt.out _ (by omega)).mono ?_
                rintro e w9 ⟨v9, rfl, hR9, hb9⟩
                go_wp2_with (refine Kd.R_append_rows Kd.string (w0 := w8) w8.heap.size rfl (.tmp 102) (.tmp 103) 60 9 (.string ⟨#[]⟩) 16 rfl Tryd.underlying60 info9 rfl (by decide) (by decide) v9 (q0.map bytesOfL) (rest.map bytesOfL) A3 rest.length c3 (fun _ => True) (fun _ => False) rfl rfl hR9 (Kd.C_below HCl.out hb9) (fun _ _ h => h) (fun _ h => h.elim) (fun _ _ => trivial) hb9 hb9.size (by simp; omega) ?_)
                intro v10 w10 hR10 hB10 hg10 hat10
                obtain ⟨A10, c10, rfl, hc10, hC10⟩ := show ∃ A c, v10 = .slice A (q0 ++ rest).length c ∧ (q0 ++ rest).length ≤ c ∧ Kd.C Kd.string w10 A (q0 ++ rest).length ((q0 ++ rest).map bytesOfL) by simpa using Kd.R_reads hR10
                have HC10 := Aside0.mk hC10
                have HB10 := Aside0.mk (HB8.out.trans (hB10.mono HB8.out.size))
                have hgq := hq2.append hgr
                have htq : Nm.totL (q0 ++ rest) ≤ 401 + 802 * (hops + 1) := by rw [Nm.totL_append]; omega
                have hqr := totL_len (q0 ++ rest)
                generalize q0 ++ rest = qr at *
                clear hR9 hb9 hR10 hB10 hg10 hat10 hC10
                go_wp2
                go_roundw
                case rel => exact ⟨[], qr, none, A10, 0, c10, hops + 1, rfl, rfl, by go_num, Nat.le_refl _, hc10, by omega, ⟨Kd.C_nil _ _⟩, HC10, ⟨hgq, htq⟩, ⟨Nm.Good.nil, by simp [Nm.totL]⟩, HI, HB10⟩
                case measure =>
                  simp [intOf]
                  omega
end Go.Proofs.YthpecpkncifngaaDoor.X
end

/- TreeReals: the law's walk. -/
section
namespace Go.Proofs.YthpecpkncifngaaDoor.X
open Go Go.RowKit Go.Shelf Go.Proofs.YthpecpkncifngaaDoor Go.Proofs.YthpecpkncifngaaDoorW.PrintWords Go.Proofs.YthpecpkncifngaaDoorW.PrintLast Go.Proofs.YthpecpkncifngaaDoorW.PrintMore Go.Proofs.YthpecpkncifngaaDoor.Pure
set_option maxRecDepth 100000 in
set_option maxHeartbeats 4000000 in
theorem treeReals_walk (A : Option Addr) (c : Nat) (xs : List S26) (path : ByteArray) (w : World) (hr : Kd.C k26 w A xs.length xs) (hc : xs.length ≤ c) (hm : xs.length * 80 ≤ 140737488351232) (hb4 : ∀ x ∈ xs, x.f4.length ≤ 140737488351232) :
    Calls Tryd.prog 6 #[.slice A xs.length c, .string path] w fun e w' => e = .returned (.bool true) ∧ Below w.heap.size w w' := by
  have HR := Aside0.mk hr
  have H4 := Aside0.mk hb4
  clear hr hb4
  have HR1 := Aside0.mk (fun A c w hr => real_any A c xs path w hr)
  have HR2 := Aside0.mk (fun w hr => refreal_any A c xs path w hr hc)
  generalize bytesOfL (realT xs path.data.toList).1 = s at HR1 HR2
  generalize (realT xs path.data.toList).2 = n at HR1 HR2
  have e1 : (s.toList == s.toList) = true := beq_self_eq_true _
  have e2 : (n == n) = true := beq_self_eq_true _
  go_enter Tryd.func6, Tryd.ntmps6
  go_wp2_with fail
  refine (lent_any A c xs _ HR.out hm H4.out).mono ?_
  rintro e w1 ⟨⟨A', c', rfl, hc', hcm', hL⟩, hb⟩
  have HB1 := Aside0.mk hb
  have HL1 := Aside0.mk hL
  clear hb hL
  go_wp2_with fail
  refine (HR1.out A' c' _ (lent_reads HL1.out)).mono ?_
  rintro e w2 ⟨rfl, hb⟩
  have HB2 := Aside0.mk (HB1.out.trans (hb.mono HB1.out.size))
  have HL2 := Aside0.mk (Kd.C_below HL1.out hb)
  clear hb HB1 HL1
  go_wp2_with fail
  refine (HR2.out _ (Kd.C_below HR.out HB2.out)).mono ?_
  rintro e w3 ⟨rfl, hb⟩
  have HB3 := Aside0.mk (HB2.out.trans (hb.mono HB2.out.size))
  have HL3 := Aside0.mk (Kd.C_below HL2.out hb)
  clear hb HB2 HL2
  go_wp2_with fail
  refine (kept_any A' c' A c xs _ HL3.out hc' hcm' (Kd.C_below HR.out HB3.out) hc (by omega)).mono ?_
  rintro e w5 ⟨rfl, hb⟩
  go_wp2
  go_ret
  exact ⟨rfl, HB3.out.trans (hb.mono HB3.out.size)⟩
end Go.Proofs.YthpecpkncifngaaDoor.X
end

/- Arguments laid open by their kinds: what a reading of an argument says of its cells, kind by kind; and that no part of it is greater than the reach. -/
section
namespace Go.Proofs.YthpecpkncifngaaDoor.Op2
open Go.RowKit Go.Proofs.YthpecpkncifngaaDoorW.PrintWords
section
variable {H : Type} (enc : TypeId × Value → H) (P : Program) (W : World) (base : Nat) (spare : Nat → Bool) (held : Bool)
def Opens {α : Type} (t : TypeId) (d : Kd α) (G : α → Prop) : Prop :=
  ∀ (fuel : Nat) (cs : List Value) (x : DataW H × List MemPlace), DataW.trod enc P W base spare held fuel t cs = some x → (∀ n ∈ x.1.weights P t, n ≤ reachBytes) → ∃ y, d.K W y cs ∧ G y
variable {enc P W base spare held}
theorem opens_int {t : TypeId} {k : IntKind} (ht : P.underlying t = some (.int k)) : Opens enc P W base spare held t (Kd.int k) (fun n => (Lit.int k n).wf = true) := by
  intro fuel cs x h _
  obtain ⟨n, rfl, rfl, hw⟩ := DataW.trod_int ht h
  exact ⟨n, rfl, hw⟩
theorem opens_string {t : TypeId} (ht : P.underlying t = some .string) : Opens enc P W base spare held t Kd.string (fun s => s.size ≤ 140737488351232) := by
  intro fuel cs x h hw
  obtain ⟨s, rfl, rfl, hs⟩ := DataW.trod_string ht h
  refine ⟨s, rfl, ?_⟩
  have := hw s.data.toList.length (by simp [DataW.weights])
  rw [Array.length_toList] at this
  exact this
theorem weightsAll_mem {e : TypeId} : ∀ {l : List (DataW H)} {d : DataW H} {n : Nat}, d ∈ l → n ∈ d.weights P e → n ∈ DataW.weightsAll P e l
  | x :: r, d, n, hd, hn => by
    rw [DataW.weightsAll]
    rcases List.mem_cons.1 hd with rfl | hd
    · exact List.mem_append_left _ hn
    · exact List.mem_append_right _ (weightsAll_mem hd hn)
theorem weightsEach_mem : ∀ {ts : List TypeId} {l : List (DataW H)} {j : Nat} {t : TypeId} {d : DataW H} {n : Nat}, ts[j]? = some t → l[j]? = some d → n ∈ d.weights P t → n ∈ DataW.weightsEach P ts l
  | t :: ts, x :: r, 0, _, _, n, h1, h2, hn => by
    simp at h1 h2
    subst h1; subst h2
    rw [DataW.weightsEach]
    exact List.mem_append_left _ hn
  | t :: ts, x :: r, j + 1, _, _, n, h1, h2, hn => by
    rw [DataW.weightsEach]
    exact List.mem_append_right _ (weightsEach_mem (by simpa using h1) (by simpa using h2) hn)
  | [], _, _, _, _, _, h1, _, _ => by simp at h1
  | _ :: _, [], _, _, _, _, _, h2, _ => by simp at h2
theorem choose_list {α β : Type} {R : Nat → α → β → Prop} : ∀ (l : List α), (∀ i a, l[i]? = some a → ∃ b, R i a b) → ∃ m : List β, m.length = l.length ∧ ∀ i a b, l[i]? = some a → m[i]? = some b → R i a b
  | [], _ => ⟨[], rfl, by simp⟩
  | a :: r, h => by
    obtain ⟨b, hb⟩ := h 0 a rfl
    obtain ⟨m, hm, hr⟩ := choose_list (R := fun i => R (i + 1)) r (fun i x hx => h (i + 1) x (by simpa using hx))
    refine ⟨b :: m, by simp [hm], fun i x y hx hy => ?_⟩
    cases i with
    | zero =>
      simp at hx hy
      subst hx; subst hy
      exact hb
    | succ i => exact hr i x y (by simpa using hx) (by simpa using hy)
theorem cells_all {a : Addr} {n : Nat} {cs : List Value} (h : W.cells? base a n = some cs) : cs.length = n ∧ ∀ i u, cs[i]? = some u → W.cell? (a.add i) = some u := by
  obtain ⟨h1, h2, h3⟩ := World.cells?_some h
  refine ⟨h2, fun i u hu => ?_⟩
  have hi : i < n := by rw [← h2]; exact (List.getElem?_eq_some_iff.1 hu).1
  rw [h3 i hi]; exact hu
theorem opens_slice {t e : TypeId} {α : Type} {d : Kd α} {G : α → Prop} {b : Nat} (ht : P.underlying t = some (.slice e)) (hc : P.cellsOf e = d.sz) (hb : P.bytesOf e = b) (he : Opens enc P W base spare held e d G) :
    Opens enc P W base spare held t (Kd.slice e d) (fun xs => xs.length * b ≤ 140737488351232 ∧ xs.length ≤ 9223372036854775807 ∧ ∀ x ∈ xs, G x) := by
  intro fuel cs x h hw
  rcases DataW.trod_slice ht h with ⟨rfl, rfl⟩ | ⟨a, len, cap, elems, rest, n, _, rfl, rfl, hbs, hl, hm, hlen, hel, _, _⟩
  · exact ⟨[], ⟨none, 0, rfl, Nat.le_refl _, Kd.C_nil _ _⟩, by simp, by simp, by simp⟩
  · simp only [DataW.weights, ht] at hw
    have h1 := hw ((List.map (·.1) elems).length + (List.map (·.1) rest).length |> (· * P.bytesOf e)) List.mem_cons_self
    have each : ∀ i y, elems[i]? = some y → ∃ z, (∃ c, c.length = d.sz ∧ d.K W z c ∧ ∀ j u, c[j]? = some u → W.cell? (a.add (i * d.sz + j)) = some u) ∧ G z := by
      intro i y hy
      have hi : i < len := by rw [← hlen]; exact (List.getElem?_eq_some_iff.1 hy).1
      have hq := hel i hi
      rw [hy, Option.bind_eq_some_iff] at hq
      obtain ⟨c, hcs, hy'⟩ := hq
      obtain ⟨z, hz, hg⟩ := he n c y hy' (fun m hm' => hw m (List.mem_cons_of_mem _ (List.mem_append_left _ (weightsAll_mem (List.mem_map.2 ⟨y, List.mem_of_getElem? hy, rfl⟩) hm'))))
      rw [hc] at hcs
      obtain ⟨q1, q2⟩ := cells_all hcs
      refine ⟨z, ⟨c, q1, hz, fun j u hu => ?_⟩, hg⟩
      have := q2 j u hu
      rwa [add_add] at this
    obtain ⟨zs, hzl, hz⟩ := choose_list elems each
    have hzlen : zs.length = len := hzl.trans hlen
    have get : ∀ i z, zs[i]? = some z → (∃ c, c.length = d.sz ∧ d.K W z c ∧ ∀ j u, c[j]? = some u → W.cell? (a.add (i * d.sz + j)) = some u) ∧ G z := by
      intro i z hzi
      have hi : i < elems.length := by rw [← hzl]; exact (List.getElem?_eq_some_iff.1 hzi).1
      exact hz i _ z (List.getElem?_eq_getElem hi) hzi
    have hmx : cap ≤ 9223372036854775807 := by unfold maxLen at hm; omega
    refine ⟨zs, ⟨some a, cap, by rw [hzlen], by omega, ⟨hzlen ▸ rfl, by omega, fun _ => ⟨a, rfl, fun j p hj => (get j p hj).1⟩⟩⟩, ?_, by omega, ?_⟩
    · rw [hzlen, ← hlen]
      rw [hb] at h1
      simp only [List.length_map] at h1
      have : elems.length * b ≤ (elems.length + rest.length) * b := Nat.mul_le_mul_right _ (Nat.le_add_right _ _)
      exact Nat.le_trans this h1
    · intro z hz'
      obtain ⟨i, hi⟩ := List.getElem?_of_mem hz'
      exact (get i z hi).2
end
end Go.Proofs.YthpecpkncifngaaDoor.Op2
end

/- Items, and lists of items, laid open. -/
section
namespace Go.Proofs.YthpecpkncifngaaDoor.X
open Go.RowKit Go.Proofs.YthpecpkncifngaaDoorW.PrintWords Go.Proofs.YthpecpkncifngaaDoor.Op2
def GoodIt (x : S26) : Prop := x.f0.size ≤ 140737488351232 ∧ (Lit.int .u8 x.f1).wf = true ∧ (Lit.int .i64 x.f2).wf = true ∧ (Lit.int .i64 x.f3).wf = true ∧ (x.f4.length * 1 ≤ 140737488351232 ∧ x.f4.length ≤ 9223372036854775807 ∧ ∀ n ∈ x.f4, (Lit.int .u8 n).wf = true) ∧ x.f5.size ≤ 140737488351232
theorem six {α : Type} {l : List α} (h : l.length = 6) : ∃ a b c d e f, l = [a, b, c, d, e, f] := by
  match l, h with
  | [a, b, c, d, e, f], _ => exact ⟨a, b, c, d, e, f, rfl⟩
theorem opens_item {H : Type} {enc : TypeId × Value → H} {W : World} {base : Nat} {spare : Nat → Bool} {held : Bool} : Opens enc Tryd.prog W base spare held 26 k26 GoodIt := by
  intro fuel cs x h hw
  obtain ⟨xs, n, _, rfl, hl, hx, hel⟩ := DataW.trod_struct Tryd.underlying26 h
  have hc : Tryd.prog.cellsOf 26 = 6 := by kernel_rfl
  rw [hc] at hl
  obtain ⟨u0, u1, u2, u3, u4, u5, rfl⟩ := six hl
  obtain ⟨y0, y1, y2, y3, y4, y5, rfl⟩ := six (show xs.length = 6 from hx)
  simp only [DataW.weights, Tryd.underlying26] at hw
  have c0 : Tryd.prog.cellsOf 9 = 1 := by kernel_rfl
  have c1 : Tryd.prog.cellsOf 23 = 1 := by kernel_rfl
  have c2 : Tryd.prog.cellsOf 3 = 1 := by kernel_rfl
  have c4 : Tryd.prog.cellsOf 24 = 1 := by kernel_rfl
  have e0 : DataW.trod enc Tryd.prog W base spare held n 9 (([u0, u1, u2, u3, u4, u5].drop 0).take (Tryd.prog.cellsOf 9)) = some y0 := hel 0 _ rfl
  rw [c0] at e0
  have e1 : DataW.trod enc Tryd.prog W base spare held n 23 (([u0, u1, u2, u3, u4, u5].drop 1).take (Tryd.prog.cellsOf 23)) = some y1 := hel 1 _ rfl
  rw [c1] at e1
  have e2 : DataW.trod enc Tryd.prog W base spare held n 3 (([u0, u1, u2, u3, u4, u5].drop 2).take (Tryd.prog.cellsOf 3)) = some y2 := hel 2 _ rfl
  rw [c2] at e2
  have e3 : DataW.trod enc Tryd.prog W base spare held n 3 (([u0, u1, u2, u3, u4, u5].drop 3).take (Tryd.prog.cellsOf 3)) = some y3 := hel 3 _ rfl
  rw [c2] at e3
  have e4 : DataW.trod enc Tryd.prog W base spare held n 24 (([u0, u1, u2, u3, u4, u5].drop 4).take (Tryd.prog.cellsOf 24)) = some y4 := hel 4 _ rfl
  rw [c4] at e4
  have e5 : DataW.trod enc Tryd.prog W base spare held n 9 (([u0, u1, u2, u3, u4, u5].drop 5).take (Tryd.prog.cellsOf 9)) = some y5 := hel 5 _ rfl
  rw [c0] at e5
  have wt : ∀ (j : Nat) (t : TypeId) (y : DataW H × List MemPlace), ((#[_, _, _, _, _, _] : Array Field).toList.map (·.type))[j]? = some t → [y0, y1, y2, y3, y4, y5][j]? = some y → ∀ m ∈ y.1.weights Tryd.prog t, m ≤ reachBytes :=
    fun j t y h1 h2 m hm => hw m (weightsEach_mem h1 (by rw [List.getElem?_map, h2]; rfl) hm)
  obtain ⟨z0, k0, g0⟩ := opens_string Tryd.underlying9 n _ _ e0 (wt 0 _ _ rfl rfl)
  obtain ⟨z1, k1, g1⟩ := opens_int Tryd.underlying23 n _ _ e1 (wt 1 _ _ rfl rfl)
  obtain ⟨z2, k2, g2⟩ := opens_int Tryd.underlying3 n _ _ e2 (wt 2 _ _ rfl rfl)
  obtain ⟨z3, k3, g3⟩ := opens_int Tryd.underlying3 n _ _ e3 (wt 3 _ _ rfl rfl)
  obtain ⟨z4, k4, g4⟩ := opens_slice (b := 1) Tryd.underlying24 (by kernel_rfl) (by kernel_rfl) (opens_int Tryd.underlying5) n _ _ e4 (wt 4 _ _ rfl rfl)
  obtain ⟨z5, k5, g5⟩ := opens_string Tryd.underlying9 n _ _ e5 (wt 5 _ _ rfl rfl)
  exact ⟨⟨z0, z1, z2, z3, z4, z5⟩, ⟨_, _, rfl, k0, ⟨_, _, rfl, k1, ⟨_, _, rfl, k2, ⟨_, _, rfl, k3, ⟨_, _, rfl, k4, k5⟩⟩⟩⟩⟩, g0, g1, g2, g3, g4, g5⟩
theorem opens_items {H : Type} {enc : TypeId × Value → H} {W : World} {base : Nat} {spare : Nat → Bool} {held : Bool} : Opens enc Tryd.prog W base spare held 22 (Kd.slice 26 k26) (fun xs => xs.length * 80 ≤ 140737488351232 ∧ xs.length ≤ 9223372036854775807 ∧ ∀ x ∈ xs, GoodIt x) :=
  opens_slice Tryd.underlying22 (by kernel_rfl) (by kernel_rfl) opens_item
end Go.Proofs.YthpecpkncifngaaDoor.X
end

section
namespace Go.Proofs.YthpecpkncifngaaDoor.treeRealsRow
open Go.ChangeShapes Go.WideShapes Go.ChangeAt Go.RowKit
open Go.ChangeMaps (open_string shut_string)
theorem own : ownKnob Tryd.prog.godebug = none := by kernel_rfl
open Go.Proofs.YthpecpkncifngaaDoor Go.Proofs.YthpecpkncifngaaDoorW.PrintWords
theorem laidOut : laidOutB Tryd.prog = true := by kernel_rfl
theorem walk (A0 : Option Addr) (c0 : Nat) (a0 : List X.S26) (a1 : ByteArray) (w : World) (h0 : Kd.C X.k26 w A0 a0.length a0) (hc0 : a0.length ≤ c0) (hg0 : a0.length * 80 ≤ 140737488351232 ∧ a0.length ≤ 9223372036854775807 ∧ ∀ x ∈ a0, X.GoodIt x) (h1 : a1.size ≤ 140737488351232) : Calls Tryd.prog 6 #[.slice A0 a0.length c0, .string a1] w fun e w' => e = .returned (.bool true) ∧ Below w.heap.size w w' := by
  exact X.treeReals_walk A0 c0 a0 a1 w h0 hc0 hg0.1 (fun x hx => by have := (hg0.2.2 x hx).2.2.2.2.1.1; omega)
set_option maxRecDepth 100000 in
theorem contract (H : Type) (enc : TypeId × Value → H) (W : World) (base : Nat) (args : Array Value) (ds gs : List (DataW H)) (before : List MemPlace)
    (hval : ∀ (j : Nat) t v, Tryd.f6.params[j]? = some t → args[j]? = some v → Value.okWide Tryd.prog W .any base t v)
    (hW : DataW.Whole enc Tryd.prog Tryd.f6.params.toList Rows.treeRealsSpec.vars false W args.toList ds gs before) (hsz0 : (DataW.weightsEach Tryd.prog (Tryd.f6.params.toList ++ Rows.treeRealsSpec.plain.varTypes Tryd.prog) (ds ++ gs)).all (· ≤ reachBytes) = true) :
    Calls Tryd.prog 6 args W fun e W' => ∃ v, e = .returned v ∧ Rows.treeRealsSpec.post enc Tryd.prog Tryd.f6 false true false false W args v W' := by
  have hW' := hW
  obtain ⟨p, q, hA0, hV, rfl, hfz, hnd⟩ := hW
  have hA : DataW.TrodAll enc Tryd.prog W 0 (fun _ => true) true Tryd.f6.params.toList args.toList ds p := hA0
  have hsz := hsz0
  rw [Tryd.params6] at hA hval hsz
  obtain ⟨v0, vs0, d0, ds0, p0, q0, hargs, rfl, rfl, h0, r0⟩ := trodAll_cons hA
  obtain ⟨v1, vs1, d1, ds1, p1, q1, rfl, rfl, rfl, h1, r1⟩ := trodAll_cons r0
  obtain ⟨rfl, rfl, rfl⟩ := trodAll_nil r1
  obtain rfl : args = #[v0, v1] := by cases args; simp_all
  obtain ⟨rfl, rfl⟩ := trodVars_none hV
  have k0 := h0
  have lt0 : ∀ x ∈ p0, x.block < W.heap.size := by obtain ⟨m, hm⟩ := k0; exact DataW.trod_lt m _ _ _ hm
  obtain ⟨va0, vl0, vc0, rfl⟩ := okWide_slice Tryd.underlying22 (hval 0 22 v0 rfl rfl)
  obtain ⟨m0, hm0⟩ := h0
  obtain ⟨a0, hK0, w0⟩ := X.opens_items m0 _ _ hm0 (fun n hn => of_decide_eq_true (List.all_eq_true.1 hsz n (DataW.weights_mem_each (j := 0) rfl rfl n hn)))
  obtain ⟨A0, c0, he0, wc0, wK0⟩ := hK0
  obtain ⟨ea0, el0, ec0⟩ : va0 = A0 ∧ vl0 = a0.length ∧ vc0 = c0 := by simpa [Value.cells] using he0
  obtain rfl : A0 = va0 := ea0.symm
  obtain rfl : a0.length = vl0 := el0.symm
  obtain rfl : c0 = vc0 := ec0.symm
  obtain ⟨a1, rfl, rfl, rfl, y1⟩ := open_string Tryd.underlying9 (hval 1 9 v1 rfl rfl) h1
  have w1 : a1.size ≤ 140737488351232 := by
    have z := sized_string hsz (j := 1) (t := 9) rfl rfl
    rw [Array.length_toList] at z
    exact z
  clear hA0
  refine (walk A0 c0 a0 a1 W wK0 wc0 w0 w1).mono fun e W' ⟨he, bel⟩ => ?_
  subst he
  exact ⟨_, rfl, _, _, _, [], _, [], hW', trodAll_mk1 (shut_bool Tryd.underlying4 _), (trodAll_cons_mk (Below.trod laidOut (by kernel_rfl) (of_decide_eq_true (by kernel_rfl)) k0 bel lt0) (trodAll_cons_mk (shut_string Tryd.underlying9 y1) trodAll_mk0)), rfl, bel.frame _, fun h => by cases h⟩
noncomputable def laidWorld (os : Os) : World := { World.holding Tryd.prog os ⟨#[], #[], []⟩ with heap := (((World.holding Tryd.prog os ⟨#[], #[], []⟩).heap.modify 2 fun | .cells _ t frozen => .cells (#[.int .u8 128, .int .u8 191, .int .u8 160, .int .u8 191, .int .u8 128, .int .u8 159, .int .u8 144, .int .u8 191, .int .u8 128, .int .u8 143, .int .u8 0, .int .u8 0, .int .u8 0, .int .u8 0, .int .u8 0, .int .u8 0, .int .u8 0, .int .u8 0, .int .u8 0, .int .u8 0, .int .u8 0, .int .u8 0, .int .u8 0, .int .u8 0, .int .u8 0, .int .u8 0, .int .u8 0, .int .u8 0, .int .u8 0, .int .u8 0, .int .u8 0, .int .u8 0]) t frozen | o => o).modify 1 fun | .cells _ t frozen => .cells ((Go.Pinned.utf8FirstZ.map fun (n : Nat) => Value.int .u8 (n : Int)).toArray) t frozen | o => o) }
set_option maxRecDepth 100000 in
theorem laid_met (os : Os) : laidMet Tryd.prog Rows.treeRealsRow.laid ((laidWorld os).forCall (fun _ _ => 0) ⟨#[], #[.slice none 0 0, .string ByteArray.empty], []⟩).memory :=
  laidMet_of_run' 8 (by kernel_rfl) (by kernel_rfl)
set_option maxRecDepth 100000 in
theorem reads (os : Os) {H : Type} (enc : TypeId × Value → H) : ∃ places, DataW.whole enc Tryd.prog ((laidWorld os).forCall (fun _ _ => 0) ⟨#[], #[.slice none 0 0, .string ByteArray.empty], []⟩).memory Tryd.f6.params.toList Rows.treeRealsSpec.vars false (#[.slice none 0 0, .string ByteArray.empty] : Array Value).toList 8 = some ([.nil, .lit (.string [])], [], places) :=
  ⟨[], by kernel_rfl⟩
set_option maxRecDepth 100000 in
theorem lifted (os : Os) (started : os.Started) (H : Type) (enc : TypeId × Value → H) (F : Stop.Interp) :
    ReturnsInHanded {} Tryd.checked os 6 .any ((OpenSpec.ofChange Rows.treeRealsSpec).preRow enc Tryd.prog Tryd.f6 Rows.treeRealsRow.domain false Rows.treeRealsRow.laid) (((OpenSpec.ofChange Rows.treeRealsSpec).at F).post enc Tryd.prog Tryd.f6 false true false false) := by
  obtain ⟨places, hx⟩ := reads os enc
  refine returnsInHanded_of_row (C := Tryd.checked) (s := OpenSpec.ofChange Rows.treeRealsSpec) own started (by kernel_rfl) Tryd.func6
    (witness_row_at (enc := enc) (C := Tryd.checked) false (laidWorld os) #[.slice none 0 0, .string ByteArray.empty] rfl (by kernel_rfl) (by kernel_rfl) (by kernel_rfl)
      (OpenSpec.preRow_of_cond 8 hx (by kernel_rfl) (fun k hk => by cases hk) (by kernel_rfl) (laid_met os))) ?_
  intro W base args ds gs before hval hW _ hcond hsz0 _ _ _
  exact contract H enc W base args ds gs before hval hW hsz0
set_option maxRecDepth 100000 in
theorem proved : Rows.TreeRealsSaid :=
  OpenClaim.holds_of_cond 6 Tryd.f6 rfl rfl rfl rfl rfl rfl rfl ⟨rfl, rfl, rfl, rfl, rfl⟩ rfl rfl rfl rfl rfl (by kernel_rfl) Tryd.func6 (by kernel_rfl)
    (of_decide_eq_true (by kernel_rfl)) (by unfold Func.isWrapper; first | (rw [if_pos (by decide +kernel)]; kernel_rfl) | (rw [if_neg (by decide +kernel)]; exact ⟨rfl, rfl⟩))
    (fun os started H enc _ F => by rw [OpenClaim.pre_eq_preRow]; exact lifted os started H enc F)
theorem plain (f : FuncId) (fn : Func) (hf : Tryd.pinned.checked.prog.funcNamed "tabulary/tabularylaw11.TreeReals" = some f) (hfn : Tryd.pinned.checked.prog.funcs[f]? = some fn) :
    false = Tryd.pinned.checked.prog.looks [] ∧ ∀ (j : Nat) t, fn.params[j]? = some t → Tryd.pinned.checked.prog.wantsStandIn t = false := by
  obtain rfl : f = 6 := Option.some.inj ((show Tryd.prog.funcNamed "tabulary/tabularylaw11.TreeReals" = some 6 by kernel_rfl).symm.trans hf) |>.symm
  obtain rfl : fn = Tryd.f6 := (Option.some.inj (Tryd.func6.symm.trans hfn)).symm
  refine ⟨by kernel_rfl, fun j t ht => ?_⟩
  rw [Tryd.params6] at ht
  have hm : t = 9 ∨ t = 22 := by have := Array.mem_of_getElem? ht; simp at this; rcases this with h | h <;> simp [h]
  rcases hm with rfl | rfl
  · exact (show Tryd.prog.wantsStandIn 9 = false by kernel_rfl)
  · exact (show Tryd.prog.wantsStandIn 22 = false by kernel_rfl)
set_option maxRecDepth 100000 in
theorem card : Rows.TreeRealsCardSaid :=
  Claim7.holds_tied_plain_at .later [] _ _ _ _ proved (fun _ h => by cases h) (by kernel_rfl) (fun _ h => by cases h) treeReals_row_tie rfl ⟨rfl, rfl⟩ (by kernel_rfl) rfl plain (by kernel_rfl)
end Go.Proofs.YthpecpkncifngaaDoor.treeRealsRow
namespace Go.Proofs.YthpecpkncifngaaDoor
theorem treeReals_holds : Rows.TreeRealsCardSaid := treeRealsRow.card
#print axioms treeReals_holds
end Go.Proofs.YthpecpkncifngaaDoor
end
