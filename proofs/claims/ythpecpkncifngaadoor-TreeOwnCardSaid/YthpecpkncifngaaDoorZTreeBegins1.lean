/- Texts that the proof leans on, part 1. -/
import Derived.Sort.Defs
import Derived.Sort.Lot0
import Derived.Test.YthpecpkncifngaaDoorProg
import Derived.Shelf.SlSortCmp.KitK
import Derived.Sort.WalkB2
import Derived.Sort.WalkB12
import Derived.Deep.LoopGhost
import Derived.Deep.DeepCutAuto
import Derived.WalkKit
import Derived.Test.YthpecpkncifngaaDoorWWords
import Derived.Shelf.Strings.Builder1
import Derived.Shelf.Strings.Builder2
import Derived.Shelf.Strings.OnBuilder
import Derived.Shelf.Strings.Trim
import Derived.Shelf.Small.Utf8
import Derived.Shelf.Small.Strs
import Derived.Shelf.Strings.Search1
import Derived.Shelf.Strings.Search2
import Derived.Shelf.Strings.Search3
import Derived.Shelf.Strings.Cut
import Derived.Shelf.Strings.Count
import Derived.Shelf.LaysM
import Derived.Shelf.Strings.Shaped
import Derived.Shelf.Strings.LastIndex
import Derived.Shelf.Strings.Prefix
import Derived.Shelf.Strings.Runes
import Derived.Shelf.Strings.AsciiSet
import Derived.Shelf.Unicode.DecodeSlow
import Derived.Lib.Bytealg
import Derived.Lib.IndexLaws
import Derived.RangeFuncNested
import Derived.RangeFuncBound
import Derived.RangeFuncCalls
import Derived.RangeFuncLeaves
import Derived.RangeFuncFrom
import Derived.Shelf.Abstract
import Derived.Shelf.RegionOpen
import Derived.OwnWalkIn
import Derived.TacticsInMore
import Derived.LoopNIn
import Derived.LoopIn
import Derived.IntWalk
import Derived.Lib.IndexBytes
import Derived.Lib.Join
import Derived.Lib.PathFns
import Derived.Lib.Hide
import Derived.Outline
import Derived.Deep.DeepMust
import Derived.Below
import Derived.Deep.Draws
import Derived.Deep.AppendLies
import Derived.Maps.AppendAt
import Derived.OwnWalk
import Derived.Laws.BytesArg
import Derived.Laws.MakeOwn
import Derived.Laws.OwnMore
import Derived.Deep.OwnRows
import Derived.Tactics
import Derived.Lib.ConvBytes
import Derived.Laws.Slices
import Derived.KernelRfl
import Derived.RowKit3
import Derived.Deep.QuietTactic
import Derived.BigQuiet
import Derived.WideLaws
import Derived.Deep.CutBlock
import Derived.Deep.RegionHeld3
import Derived.Laws.Rows
import Derived.Lib.AppendStr
import Derived.ArgAppend
import Derived.Laws.IdiomCopy
import Derived.OrdersHeld
import Derived.Laws.BitsLemmas
import Derived.RowKit
import Derived.Test.YthpecpkncifngaaDoorWLast
import Derived.Test.YthpecpkncifngaaDoorWTab
import Derived.Test.YthpecpkncifngaaDoorWFour
import Derived.Test.YthpecpkncifngaaDoorWQPut
import Derived.Test.YthpecpkncifngaaDoorWApart
import Derived.Test.YthpecpkncifngaaDoorWArr
import Derived.Test.YthpecpkncifngaaDoorWZeros
import Derived.Test.YthpecpkncifngaaDoorWFoot
import Derived.Test.YthpecpkncifngaaDoorWKept
import Derived.Test.YthpecpkncifngaaDoorWShare
import Derived.Test.YthpecpkncifngaaDoorWN
import Derived.Test.YthpecpkncifngaaDoorWFootNe
import Derived.Test.YthpecpkncifngaaDoorWAt
import Derived.Test.YthpecpkncifngaaDoorWEqStruct
import Derived.Test.YthpecpkncifngaaDoorWRepsOne
import Derived.Test.YthpecpkncifngaaDoorWInv
import Derived.Test.YthpecpkncifngaaDoorWInvWords
import Derived.Test.YthpecpkncifngaaDoorWGuard
import Derived.Test.YthpecpkncifngaaDoorWNEv
import Derived.Test.YthpecpkncifngaaDoorWMore
import Derived.RangeFuncBox
set_option linter.unusedVariables false
set_option linter.unusedSimpArgs false
/- Stable sorting as plain words (no program): a list that is sorted, and in which the alike stand as they stood, is the only one; what an exchange, a shift, a rotation and a merge make of a list. -/
section
namespace Go.Proofs.YthpecpkncifngaaDoor.So
open Go.Sort
section
variable {α : Type} (lt : α → α → Bool)
structure Wo : Prop where
  irr : ∀ x, lt x x = false
  tr : ∀ x y z, lt x y = true → lt y z = true → lt x z = true
  nt : ∀ x y z, lt x y = false → lt y z = false → lt x z = false
def Sorted (xs : List α) : Prop := xs.Pairwise fun a b => lt b a = false
def cls (z x : α) : Bool := !lt x z && !lt z x
def Stab (xs ys : List α) : Prop := ∀ z, xs.filter (cls lt z) = ys.filter (cls lt z)
def insF (x : α) : List α → List α
  | [] => [x]
  | y :: ys => if lt y x = true then y :: insF x ys else x :: y :: ys
def isort : List α → List α
  | [] => []
  | x :: xs => insF lt x (isort xs)
variable {lt}
theorem cls_self (H : Wo lt) (x : α) : cls lt x x = true := by simp [cls, H.irr]
theorem Stab.refl (xs : List α) : Stab lt xs xs := fun _ => rfl
theorem Stab.symm {xs ys : List α} (h : Stab lt xs ys) : Stab lt ys xs := fun z => (h z).symm
theorem Stab.trans {xs ys zs : List α} (h : Stab lt xs ys) (h' : Stab lt ys zs) : Stab lt xs zs := fun z => (h z).trans (h' z)
theorem Stab.append {xs ys us vs : List α} (h : Stab lt xs ys) (h' : Stab lt us vs) : Stab lt (xs ++ us) (ys ++ vs) := fun z => by rw [List.filter_append, List.filter_append, h z, h' z]
theorem Stab.mem (H : Wo lt) {xs ys : List α} (h : Stab lt xs ys) {x : α} (hx : x ∈ xs) : x ∈ ys := by
  have : x ∈ xs.filter (cls lt x) := List.mem_filter.2 ⟨hx, cls_self H x⟩
  rw [h x] at this
  exact (List.mem_filter.1 this).1
theorem Stab.swap (H : Wo lt) {xs ys : List α} (h : ∀ x ∈ xs, ∀ y ∈ ys, lt y x = true) : Stab lt (xs ++ ys) (ys ++ xs) := by
  intro z
  rw [List.filter_append, List.filter_append]
  by_cases hx : ∃ x ∈ xs, cls lt z x = true
  · obtain ⟨x, hx, hz⟩ := hx
    have : ys.filter (cls lt z) = [] := by
      rw [List.filter_eq_nil_iff]
      intro y hy hc
      have h1 := h x hx y hy
      simp only [cls, Bool.and_eq_true, Bool.not_eq_true'] at hz hc
      have := H.nt y z x hc.1 hz.2
      rw [this] at h1; cases h1
    rw [this, List.nil_append, List.append_nil]
  · have : xs.filter (cls lt z) = [] := by
      rw [List.filter_eq_nil_iff]
      intro x h1 h2
      exact hx ⟨x, h1, h2⟩
    rw [this, List.nil_append, List.append_nil]
theorem uniq (H : Wo lt) : ∀ {xs ys : List α}, Sorted lt xs → Sorted lt ys → Stab lt xs ys → xs = ys
  | [], [], _, _, _ => rfl
  | [], y :: ys, _, _, h => absurd (h.symm.mem H (List.mem_cons_self ..)) (by simp)
  | x :: xs, [], _, _, h => absurd (h.mem H (List.mem_cons_self ..)) (by simp)
  | x :: xs, y :: ys, hx, hy, h => by
    have h1 : x ∈ y :: ys := h.mem H (List.mem_cons_self ..)
    have h2 : y ∈ x :: xs := h.symm.mem H (List.mem_cons_self ..)
    unfold Sorted at hx hy
    have a1 : lt x y = false := by
      rcases List.mem_cons.1 h1 with e | e
      · rw [e]; exact H.irr y
      · exact (List.pairwise_cons.1 hy).1 x e
    have a2 : lt y x = false := by
      rcases List.mem_cons.1 h2 with e | e
      · rw [e]; exact H.irr x
      · exact (List.pairwise_cons.1 hx).1 y e
    have e := h x
    rw [List.filter_cons_of_pos (cls_self H x), List.filter_cons_of_pos (by simp [cls, a1, a2])] at e
    obtain rfl : x = y := (List.cons.inj e).1
    congr 1
    refine uniq H (List.pairwise_cons.1 hx).2 (List.pairwise_cons.1 hy).2 fun z => ?_
    have e := h z
    by_cases hz : cls lt z x = true
    · rw [List.filter_cons_of_pos hz, List.filter_cons_of_pos hz] at e
      exact (List.cons.inj e).2
    · rwa [List.filter_cons_of_neg hz, List.filter_cons_of_neg hz] at e
theorem insF_stab (H : Wo lt) (x : α) : ∀ ys, Stab lt (x :: ys) (insF lt x ys)
  | [] => Stab.refl _
  | y :: ys => by
    rw [insF]
    split
    · rename_i h
      have h1 : Stab lt ([x] ++ [y]) ([y] ++ [x]) := Stab.swap H (by simpa using h)
      exact (h1.append (Stab.refl ys)).trans ((Stab.refl [y]).append (insF_stab H x ys))
    · exact Stab.refl _
theorem insF_sorted (H : Wo lt) (x : α) : ∀ ys, Sorted lt ys → Sorted lt (insF lt x ys)
  | [], _ => by simp [insF, Sorted]
  | y :: ys, hs => by
    unfold Sorted at hs ⊢
    rw [insF]
    have hy := List.pairwise_cons.1 hs
    split
    · rename_i h
      refine List.pairwise_cons.2 ⟨fun z hz => ?_, insF_sorted H x ys hy.2⟩
      have := (insF_stab H x ys).symm.mem H hz
      rcases List.mem_cons.1 this with rfl | h1
      · cases e : lt z y with
        | false => rfl
        | true => have := H.tr _ _ _ e h; rw [H.irr] at this; cases this
      · exact hy.1 z h1
    · rename_i h
      have h' : lt y x = false := by simpa using h
      refine List.pairwise_cons.2 ⟨fun z hz => ?_, hs⟩
      rcases List.mem_cons.1 hz with rfl | h1
      · exact h'
      · exact H.nt _ _ _ (hy.1 z h1) h'
theorem isort_stab (H : Wo lt) : ∀ xs, Stab lt xs (isort lt xs)
  | [] => Stab.refl _
  | x :: xs => ((Stab.refl [x]).append (isort_stab H xs)).trans (insF_stab H x _)
theorem isort_sorted (H : Wo lt) : ∀ xs, Sorted lt (isort lt xs)
  | [] => List.Pairwise.nil
  | x :: xs => insF_sorted H x _ (isort_sorted H xs)
theorem insF_len (x : α) : ∀ ys, (insF lt x ys).length = ys.length + 1
  | [] => rfl
  | y :: ys => by rw [insF]; split <;> simp [insF_len x ys]
theorem isort_len : ∀ xs, (isort lt xs).length = xs.length
  | [] => rfl
  | x :: xs => by rw [isort, insF_len, isort_len xs]; rfl
theorem isort_eq (H : Wo lt) {xs ys : List α} (hs : Sorted lt ys) (h : Stab lt xs ys) : isort lt xs = ys := uniq H (isort_sorted H xs) hs ((isort_stab H xs).symm.trans h)
theorem isort_of (H : Wo lt) {xs ys : List α} (h : Stab lt xs ys) : isort lt xs = isort lt ys := isort_eq H (isort_sorted H ys) (h.trans (isort_stab H ys))
theorem isort_self (H : Wo lt) {xs : List α} (h : Sorted lt xs) : isort lt xs = xs := isort_eq H h (Stab.refl _)
theorem isort_both (H : Wo lt) (xs ys : List α) : isort lt (isort lt xs ++ isort lt ys) = isort lt (xs ++ ys) := (isort_of H ((isort_stab H xs).append (isort_stab H ys))).symm
theorem sorted_app {xs ys : List α} : Sorted lt (xs ++ ys) ↔ Sorted lt xs ∧ Sorted lt ys ∧ ∀ x ∈ xs, ∀ y ∈ ys, lt y x = false := List.pairwise_append
theorem isort_cut (H : Wo lt) {x1 x2 y1 y2 : List α} (hx : Sorted lt (x1 ++ x2)) (hy : Sorted lt (y1 ++ y2)) (h1 : ∀ x ∈ x1, ∀ y ∈ y2, lt y x = false) (h2 : ∀ x ∈ x2, ∀ y ∈ y1, lt y x = true) :
    isort lt ((x1 ++ x2) ++ (y1 ++ y2)) = isort lt (x1 ++ y1) ++ isort lt (x2 ++ y2) := by
  obtain ⟨sx1, sx2, cx⟩ := sorted_app.1 hx
  obtain ⟨sy1, sy2, cy⟩ := sorted_app.1 hy
  refine isort_eq H (sorted_app.2 ⟨isort_sorted H _, isort_sorted H _, fun x hx y hy => ?_⟩) ?_
  · have mx := (isort_stab H _).symm.mem H hx
    have my := (isort_stab H _).symm.mem H hy
    rcases List.mem_append.1 mx with mx | mx <;> rcases List.mem_append.1 my with my | my
    · exact cx x mx y my
    · exact h1 x mx y my
    · have := h2 y my x mx
      cases e : lt y x with
      | false => rfl
      | true => have := H.tr _ _ _ e this; rw [H.irr] at this; cases this
    · exact cy x mx y my
  · have e1 : Stab lt (x2 ++ y1) (y1 ++ x2) := Stab.swap H h2
    have e2 : Stab lt ((x1 ++ x2) ++ (y1 ++ y2)) ((x1 ++ y1) ++ (x2 ++ y2)) := by
      have := ((Stab.refl (lt := lt) x1).append e1).append (Stab.refl (lt := lt) y2)
      simpa [List.append_assoc] using this
    exact e2.trans ((isort_stab H _).append (isort_stab H _))
theorem isort_cut' (H : Wo lt) {x1 x2 y1 y2 : List α} (hx : Sorted lt (x1 ++ x2)) (hy : Sorted lt (y1 ++ y2)) (h1 : ∀ x ∈ x1.getLast?, ∀ y ∈ y2.head?, lt y x = false) (h2 : ∀ x ∈ x2.head?, ∀ y ∈ y1.getLast?, lt y x = true) :
    isort lt ((x1 ++ x2) ++ (y1 ++ y2)) = isort lt (x1 ++ y1) ++ isort lt (x2 ++ y2) := by
  obtain ⟨sx1, sx2, cx⟩ := sorted_app.1 hx
  obtain ⟨sy1, sy2, cy⟩ := sorted_app.1 hy
  have last_le : ∀ {l : List α} {x : α}, Sorted lt l → x ∈ l → ∃ z ∈ l.getLast?, lt z x = false := by
    intro l x hl hx
    obtain ⟨l', z, rfl⟩ : ∃ l' z, l = l' ++ [z] := ⟨l.dropLast, l.getLast (List.ne_nil_of_mem hx), (List.dropLast_concat_getLast (List.ne_nil_of_mem hx)).symm⟩
    refine ⟨z, by simp, ?_⟩
    rcases List.mem_append.1 hx with h | h
    · exact (sorted_app.1 hl).2.2 x h z (by simp)
    · rw [List.mem_singleton.1 h]; exact H.irr z
  have head_le : ∀ {l : List α} {x : α}, Sorted lt l → x ∈ l → ∃ z ∈ l.head?, lt x z = false := by
    intro l x hl hx
    cases l with
    | nil => cases hx
    | cons z l' =>
      refine ⟨z, by simp, ?_⟩
      rcases List.mem_cons.1 hx with h | h
      · rw [h]; exact H.irr z
      · exact (List.pairwise_cons.1 hl).1 x h
  refine isort_cut H hx hy (fun x hx y hy => ?_) (fun x hx y hy => ?_)
  · obtain ⟨z, hz, ez⟩ := last_le sx1 hx
    obtain ⟨v, hv, ev⟩ := head_le sy2 hy
    exact H.nt _ _ _ ev (H.nt _ _ _ (h1 z hz v hv) ez)
  · obtain ⟨z, hz, ez⟩ := head_le sx2 hx
    obtain ⟨v, hv, ev⟩ := last_le sy1 hy
    have e := h2 z hz v hv
    cases e' : lt y x with
    | true => rfl
    | false =>
      have e1 := H.nt _ _ _ ev e'
      have e2 := H.nt _ _ _ e1 ez
      rw [e2] at e; cases e
def blocks (s : Nat) (xs : List α) : List α := if h : s = 0 ∨ xs.length ≤ s then isort lt xs else isort lt (xs.take s) ++ blocks s (xs.drop s)
termination_by xs.length
decreasing_by simp only [not_or] at h; simp only [List.length_drop]; omega
theorem blocks_go {s : Nat} {xs : List α} (h0 : 0 < s) (h : s ≤ xs.length) : blocks (lt := lt) s xs = isort lt (xs.take s) ++ blocks (lt := lt) s (xs.drop s) := by
  rcases Nat.lt_or_ge s xs.length with h1 | h1
  · rw [blocks, dif_neg (by omega)]
  · have e : xs.length = s := by omega
    rw [blocks, dif_pos (by omega), List.take_of_length_le (by omega), List.drop_of_length_le (by omega), blocks, dif_pos (by simp)]
    simp [isort]
theorem blocks_end {s : Nat} {xs : List α} (h : xs.length ≤ s) : blocks (lt := lt) s xs = isort lt xs := by rw [blocks, dif_pos (Or.inr h)]
theorem blocks_two (H : Wo lt) {s : Nat} {xs : List α} (h0 : 0 < s) (h : 2 * s ≤ xs.length) : blocks (lt := lt) (2 * s) xs = isort lt (isort lt (xs.take s) ++ isort lt ((xs.drop s).take s)) ++ blocks (lt := lt) (2 * s) (xs.drop (2 * s)) := by
  rw [blocks_go (by omega) h, isort_both H, ← List.take_add, show s + s = 2 * s by omega]
theorem blocks_split {s : Nat} {xs : List α} (h0 : 0 < s) (h : 2 * s ≤ xs.length) : blocks (lt := lt) s xs = isort lt (xs.take s) ++ (isort lt ((xs.drop s).take s) ++ blocks (lt := lt) s (xs.drop (2 * s))) := by
  rw [blocks_go h0 (by omega), blocks_go (xs := xs.drop s) h0 (by simp; omega), List.drop_drop, show s + s = 2 * s by omega]
theorem blocks_rest (H : Wo lt) {s : Nat} {xs : List α} (h0 : 0 < s) (h1 : s ≤ xs.length) (h2 : xs.length < 2 * s) :
    blocks (lt := lt) s xs = isort lt (xs.take s) ++ isort lt (xs.drop s) ∧ blocks (lt := lt) (2 * s) xs = isort lt (isort lt (xs.take s) ++ isort lt (xs.drop s)) := by
  refine ⟨by rw [blocks_go h0 h1, blocks_end (xs := xs.drop s) (by simp; omega)], ?_⟩
  rw [blocks_end (by omega), isort_both H, List.take_append_drop]
theorem blocks_none {s : Nat} {xs : List α} (h2 : xs.length ≤ s) : blocks (lt := lt) s xs = blocks (lt := lt) (2 * s) xs := by rw [blocks_end h2, blocks_end (by omega)]
end
end Go.Proofs.YthpecpkncifngaaDoor.So
end

/- Stable sorting: what an exchange in a row makes of its list; insertion sort of a piece (no program). -/
section
namespace Go.Proofs.YthpecpkncifngaaDoor.So
open Go.Sort
section
variable {α : Type} [Inhabited α] {lt : α → α → Bool}
theorem get_mid {d : Array α} {A B : List α} {x : α} (h : d.toList = A ++ x :: B) {i : Nat} (hi : i = A.length) : d[i]! = x := by
  subst hi
  have hl : A.length < d.size := by rw [← Array.length_toList, h]; simp
  rw [getElem!_pos d _ hl, ← Array.getElem_toList (by simpa using hl)]
  simp [h]
theorem swp_list {d : Array α} {A M B : List α} {x y : α} (h : d.toList = A ++ x :: (M ++ y :: B)) {i j : Nat} (hi : i = A.length) (hj : j = A.length + 1 + M.length) :
    (swp d i j).toList = A ++ y :: (M ++ x :: B) := by
  have e1 : d[i]! = x := get_mid h hi
  have e2 : d[j]! = y := get_mid (A := A ++ x :: M) (B := B) (by rw [h]; simp) (by rw [hj]; simp; omega)
  unfold swp
  rw [e1, e2, Array.toList_setIfInBounds, Array.toList_setIfInBounds, h, hi, hj]
  rw [List.set_append_right _ _ (Nat.le_refl _), Nat.sub_self, List.set_cons_zero, List.set_append_right _ _ (by omega), show A.length + 1 + M.length - A.length = M.length + 1 by omega, List.set_cons_succ, List.set_append_right _ _ (Nat.le_refl _), Nat.sub_self, List.set_cons_zero]
theorem swp_flip (d : Array α) {i j : Nat} (h : i ≠ j) : swp d i j = swp d j i := by
  unfold swp
  rw [Array.setIfInBounds_comm _ _ h]
theorem swp_next {d : Array α} {A B : List α} {x y : α} (h : d.toList = A ++ x :: y :: B) {i : Nat} (hi : i = A.length) : (swp d i (i + 1)).toList = A ++ y :: x :: B := by
  have := swp_list (M := []) (d := d) (by simpa using h) hi (j := i + 1) (by rw [hi]; simp)
  simpa using this
theorem swp_prev {d : Array α} {A B : List α} {x y : α} (h : d.toList = A ++ x :: y :: B) {i : Nat} (hi : i = A.length) : (swp d (i + 1) i).toList = A ++ y :: x :: B := by
  rw [swp_flip d (by omega)]; exact swp_next h hi
theorem insInner_list (H : Wo lt) (a : Nat) : ∀ (j : Nat) (d : Array α) (A X B : List α) (y : α), A.length = a → j = a + X.length → d.toList = A ++ X ++ y :: B → Sorted lt X → (insInner lt a j d).toList = A ++ isort lt (X ++ [y]) ++ B
  | 0, d, A, X, B, y, ha, hj, hd, hs => by
    obtain rfl : X = [] := List.length_eq_zero_iff.1 (by omega)
    rw [insInner, hd]
    simp [isort, insF]
  | j + 1, d, A, X, B, y, ha, hj, hd, hs => by
    rcases List.eq_nil_or_concat X with rfl | ⟨X', x, rfl⟩
    · rw [insInner, if_neg (by simp at hj ⊢; omega), hd]
      simp [isort, insF]
    · have hjl : j = a + X'.length := by simp at hj; omega
      have hd' : d.toList = (A ++ X') ++ x :: y :: B := by rw [hd]; simp
      have e1 : d[j]! = x := get_mid hd' (by simp; omega)
      have e2 : d[j + 1]! = y := get_mid (A := A ++ X' ++ [x]) (B := B) (by rw [hd]; simp) (by simp; omega)
      have hs' := sorted_app.1 (show Sorted lt (X' ++ [x]) by simpa using hs)
      rw [insInner, e1, e2]
      by_cases hl : lt y x = true
      · rw [if_pos (by simp [hl]; omega)]
        have h1 : (swp d (j + 1) j).toList = (A ++ X') ++ y :: x :: B := swp_prev hd' (by simp; omega)
        rw [insInner_list H a j _ A X' (x :: B) y ha hjl h1 hs'.1]
        have h2 : isort lt ((X' ++ [x]) ++ [y]) = isort lt (X' ++ [y]) ++ [x] := by
          have := isort_cut H (x1 := X') (x2 := [x]) (y1 := [y]) (y2 := []) (lt := lt) (by simpa using hs) (by simp [Sorted]) (by simp) (by simpa using hl)
          simpa [isort, insF] using this
        simp only [List.concat_eq_append]
        rw [h2]
        simp
      · rw [if_neg (by simp [hl]), hd]
        have h2 : isort lt ((X' ++ [x]) ++ [y]) = (X' ++ [x]) ++ [y] := isort_self H (sorted_app.2 ⟨by simpa using hs, by simp [Sorted], fun z hz v hv => by
          rw [List.mem_singleton.1 hv]
          have hl' : lt y x = false := by simpa using hl
          rcases List.mem_append.1 hz with h | h
          · exact H.nt _ _ _ hl' (hs'.2.2 z h x (by simp))
          · rw [List.mem_singleton.1 h]; exact hl'⟩)
        simp only [List.concat_eq_append]
        rw [h2]
        simp
theorem insOuter_list (H : Wo lt) (a b : Nat) (A B : List α) (ha : A.length = a) : ∀ (n : Nat) (i : Nat) (d : Array α) (X Y : List α), Y.length = n → i = a + X.length → b = i + Y.length → d.toList = A ++ isort lt X ++ Y ++ B → (insOuter lt a b i d).toList = A ++ isort lt (X ++ Y) ++ B
  | 0, i, d, X, Y, hn, hi, hb, hd => by
    obtain rfl : Y = [] := List.length_eq_zero_iff.1 hn
    rw [insOuter, if_neg (by simp at hb; omega), hd]
    simp
  | n + 1, i, d, X, Y, hn, hi, hb, hd => by
    obtain ⟨y, Y, rfl⟩ : ∃ y Y', Y = y :: Y' := by cases Y with
      | nil => simp at hn
      | cons y Y' => exact ⟨y, Y', rfl⟩
    rw [insOuter, if_pos (by simp at hb; omega)]
    have h1 := insInner_list H a i d A (isort lt X) (Y ++ B) y ha (by rw [isort_len]; exact hi) (by rw [hd]; simp) (isort_sorted H X)
    have h2 : isort lt (isort lt X ++ [y]) = isort lt (X ++ [y]) := (isort_of H ((isort_stab H X).append (Stab.refl [y]))).symm
    rw [h2] at h1
    have h3 := insOuter_list H a b A B ha n (i + 1) _ (X ++ [y]) Y (by simpa using hn) (by simp; omega) (by simp at hb; omega) (by rw [h1]; simp)
    rw [h3]
    simp
theorem insertion_list (H : Wo lt) {d : Array α} {A X B : List α} {a b : Nat} (hd : d.toList = A ++ X ++ B) (ha : a = A.length) (hb : b = A.length + X.length) : (insertionSort lt d a b).toList = A ++ isort lt X ++ B := by
  unfold insertionSort
  cases X with
  | nil =>
    rw [insOuter, if_neg (by simp at hb; omega), hd]
    simp [isort]
  | cons x X =>
    have := insOuter_list H a b A B ha.symm X.length (a + 1) d [x] X rfl (by simp) (by simp at hb; omega) (by rw [hd]; simp [isort, insF])
    rw [this]
    simp
theorem range_step {d : Array α} {A U M V B : List α} {n i a b : Nat} (hd : d.toList = A ++ (V.take i ++ U.drop i) ++ M ++ (U.take i ++ V.drop i) ++ B) (ha : a = A.length) (hU : U.length = n) (hV : V.length = n) (hb : b = a + n + M.length) (hi : i < n) :
    (swp d (a + i) (b + i)).toList = A ++ (V.take (i + 1) ++ U.drop (i + 1)) ++ M ++ (U.take (i + 1) ++ V.drop (i + 1)) ++ B := by
  have hu : i < U.length := by omega
  have hv : i < V.length := by omega
  have e : d.toList = (A ++ V.take i) ++ U[i] :: ((U.drop (i + 1) ++ M ++ U.take i) ++ V[i] :: (V.drop (i + 1) ++ B)) := by
    rw [hd, List.drop_eq_getElem_cons hu, List.drop_eq_getElem_cons hv]; simp only [List.append_assoc, List.cons_append, List.nil_append]
  rw [swp_list e (by rw [List.length_append, List.length_take]; omega) (by simp only [List.length_append, List.length_take, List.length_drop]; omega), show V.take (i + 1) = V.take i ++ [V[i]] from (List.take_append_getElem hv).symm, show U.take (i + 1) = U.take i ++ [U[i]] from (List.take_append_getElem hu).symm]
  simp only [List.append_assoc, List.cons_append, List.nil_append]
theorem sym_first (H : Wo lt) {Y : List α} {x : α} (hY : Sorted lt Y) (t : Nat) (ht : t ≤ Y.length) (h1 : t = 0 ∨ lt Y[t - 1]! x = true) (h2 : t = Y.length ∨ lt Y[t]! x = false) : isort lt ([x] ++ Y) = Y.take t ++ x :: Y.drop t := by
  have hY' : Sorted lt (Y.take t ++ Y.drop t) := by rw [List.take_append_drop]; exact hY
  have hs := sorted_app.1 hY'
  have c := isort_cut' H (x1 := []) (x2 := [x]) (y1 := Y.take t) (y2 := Y.drop t) (lt := lt) (by simp [Sorted]) hY' (by simp) (fun z hz y hy => by
    obtain rfl : x = z := by simpa using hz
    rcases h1 with h | h
    · subst h; simp at hy
    · have hlt : t - 1 < Y.length := by
        rcases Nat.eq_zero_or_pos t with e | e
        · subst e; simp at hy
        · omega
      have e0 : 0 < t := by
        rcases Nat.eq_zero_or_pos t with e | e
        · subst e; simp at hy
        · exact e
      rw [getElem!_pos Y _ hlt] at h
      have : (Y.take t).getLast? = some Y[t - 1] := by
        rw [List.getLast?_eq_getElem?, List.length_take, Nat.min_eq_left ht, List.getElem?_take, if_pos (by omega), List.getElem?_eq_getElem hlt]
      rw [this] at hy
      obtain rfl : Y[t - 1] = y := by simpa using hy
      exact h)
  rw [List.nil_append, List.take_append_drop, List.nil_append, isort_self H hs.1] at c
  rw [c]
  congr 1
  refine isort_self H ?_
  refine List.pairwise_cons.2 ⟨fun z hz => ?_, hs.2.1⟩
  rcases h2 with h | h
  · subst h; simp at hz
  · rcases Nat.lt_or_ge t Y.length with hlt | hge
    · rw [List.drop_eq_getElem_cons hlt] at hz
      rw [getElem!_pos Y _ hlt] at h
      rcases List.mem_cons.1 hz with rfl | hz
      · exact h
      · have := hs.2.1
        rw [List.drop_eq_getElem_cons hlt] at this
        exact H.nt _ _ _ ((List.pairwise_cons.1 this).1 z hz) h
    · rw [List.drop_of_length_le hge] at hz; cases hz
theorem sym_last (H : Wo lt) {X : List α} {y : α} (hX : Sorted lt X) (t : Nat) (ht : t ≤ X.length) (h1 : t = 0 ∨ lt y X[t - 1]! = false) (h2 : t = X.length ∨ lt y X[t]! = true) : isort lt (X ++ [y]) = X.take t ++ y :: X.drop t := by
  have hX' : Sorted lt (X.take t ++ X.drop t) := by rw [List.take_append_drop]; exact hX
  have hs := sorted_app.1 hX'
  have c := isort_cut' H (x1 := X.take t) (x2 := X.drop t) (y1 := [y]) (y2 := []) (lt := lt) hX' (by simp [Sorted]) (by simp) (fun z hz v hv => by
    obtain rfl : y = v := by simpa using hv
    rcases h2 with h | h
    · subst h; simp at hz
    · rcases Nat.lt_or_ge t X.length with hlt | hge
      · rw [getElem!_pos X _ hlt] at h
        rw [List.drop_eq_getElem_cons hlt, List.head?_cons] at hz
        obtain rfl : X[t] = z := Option.some.inj hz
        exact h
      · rw [List.drop_of_length_le hge] at hz; simp at hz)
  rw [List.append_nil, List.append_nil, List.take_append_drop, isort_self H hs.2.1] at c
  rw [c, isort_self H, List.append_assoc]
  · rfl
  · refine sorted_app.2 ⟨hs.1, by simp [Sorted], fun z hz v hv => ?_⟩
    obtain rfl : v = y := by simpa using hv
    rcases h1 with h | h
    · subst h; simp at hz
    · rcases Nat.eq_zero_or_pos t with e | e
      · subst e; simp at hz
      · have hlt : t - 1 < X.length := by omega
        rw [getElem!_pos X _ hlt] at h
        rw [show X.take t = X.take (t - 1) ++ [X[t - 1]] by rw [List.take_append_getElem hlt, show t - 1 + 1 = t by omega]] at hz
        have hs1 := hs.1
        rw [show X.take t = X.take (t - 1) ++ [X[t - 1]] by rw [List.take_append_getElem hlt, show t - 1 + 1 = t by omega]] at hs1
        rcases List.mem_append.1 hz with hz | hz
        · exact H.nt _ _ _ h ((sorted_app.1 hs1).2.2 z hz _ (by simp))
        · obtain rfl : z = X[t - 1] := by simpa using hz
          exact h
theorem sym_cut (H : Wo lt) {X Y : List α} (hX : Sorted lt X) (hY : Sorted lt Y) (s t : Nat) (h1 : s = 0 ∨ Y.length ≤ t ∨ lt Y[t]! X[s - 1]! = false) (h2 : X.length ≤ s ∨ t = 0 ∨ lt Y[t - 1]! X[s]! = true) (hs : s ≤ X.length) (ht : t ≤ Y.length) :
    isort lt (X ++ Y) = isort lt (X.take s ++ Y.take t) ++ isort lt (X.drop s ++ Y.drop t) := by
  have last : ∀ {Z : List α} {q : Nat} {z : α}, q ≤ Z.length → z ∈ (Z.take q).getLast? → 0 < q ∧ Z[q - 1]! = z := by
    intro Z q z hq hz
    rcases Nat.eq_zero_or_pos q with e | e
    · subst e; simp at hz
    · have hlt : q - 1 < Z.length := by omega
      rw [List.getLast?_eq_getElem?, List.length_take, Nat.min_eq_left hq, List.getElem?_take, if_pos (by omega), List.getElem?_eq_getElem hlt] at hz
      exact ⟨e, by rw [getElem!_pos Z _ hlt]; exact Option.some.inj hz⟩
  have head : ∀ {Z : List α} {q : Nat} {z : α}, z ∈ (Z.drop q).head? → q < Z.length ∧ Z[q]! = z := by
    intro Z q z hz
    rcases Nat.lt_or_ge q Z.length with hlt | hge
    · rw [List.drop_eq_getElem_cons hlt, List.head?_cons] at hz
      exact ⟨hlt, by rw [getElem!_pos Z _ hlt]; exact Option.some.inj hz⟩
    · rw [List.drop_of_length_le hge] at hz; simp at hz
  have c := isort_cut' H (x1 := X.take s) (x2 := X.drop s) (y1 := Y.take t) (y2 := Y.drop t) (lt := lt) (by rw [List.take_append_drop]; exact hX) (by rw [List.take_append_drop]; exact hY) (fun x hx y hy => by
    obtain ⟨p, rfl⟩ := last hs hx
    obtain ⟨q, rfl⟩ := head hy
    rcases h1 with h | h | h
    · omega
    · omega
    · exact h) (fun x hx y hy => by
    obtain ⟨p, rfl⟩ := head hx
    obtain ⟨q, rfl⟩ := last ht hy
    rcases h2 with h | h | h
    · omega
    · omega
    · exact h)
  rw [List.take_append_drop, List.take_append_drop] at c
  exact c
theorem get_at {d : Array α} {A X B : List α} (hd : d.toList = A ++ X ++ B) {i : Nat} (t : Nat) (ht : t < X.length) (hi : i = A.length + t) : d[i]! = X[t]! := by
  have : d.toList = (A ++ X.take t) ++ X[t] :: (X.drop (t + 1) ++ B) := by
    rw [hd]
    have : X = X.take t ++ X[t] :: X.drop (t + 1) := by rw [← List.drop_eq_getElem_cons ht, List.take_append_drop]
    conv => lhs; rw [this]
    simp only [List.append_assoc, List.cons_append, List.nil_append]
  rw [get_mid this (by rw [List.length_append, List.length_take]; omega)]
  simp [ht]
omit [Inhabited α] in
theorem isort_none (H : Wo lt) {X Y : List α} (hX : Sorted lt X) (hY : Sorted lt Y) (h : X.length = 0 ∨ Y.length = 0) : isort lt (X ++ Y) = X ++ Y := by
  rcases h with h | h
  · obtain rfl := List.length_eq_zero_iff.1 h
    exact isort_self H hY
  · obtain rfl := List.length_eq_zero_iff.1 h
    rw [List.append_nil]; exact isort_self H hX
end
end Go.Proofs.YthpecpkncifngaaDoor.So
end

/- The contracts of slices.SortStableFunc's family at elements of k cells: what is asked of the program; swapRangeCmpFunc; rotateCmpFunc. -/
section
namespace Go.Proofs.YthpecpkncifngaaDoor.So
open Go Go.Proofs Go.Shelf Go.RowKit Go.Lib Go.Sort
structure Lays (P : Program) (k : Nat) : Prop where
  mixed : P.follows .mixedOrders = true
  fswap : P.funcs[131]? = some Tryd.f131
  frot : P.funcs[124]? = some Tryd.f124
  fsym : P.funcs[110]? = some Tryd.f110
  fst : P.funcs[94]? = some Tryd.f94
  fins : Enters P 109
  t0 : P.underlying 0 = some (TypeDesc.tuple #[])
  a0 : ∀ w, (isAgg 0).run P w = .ok false w
  z0 : ∀ w, (Go.sizeOf 0).run P w = .ok 1 w
  v0 : ∀ w, (zeroValue 0).run P w = .ok (Value.tuple #[]) w
  t3 : P.underlying 3 = some (TypeDesc.int IntKind.i64)
  a3 : ∀ w, (isAgg 3).run P w = .ok false w
  z3 : ∀ w, (Go.sizeOf 3).run P w = .ok 1 w
  v3 : ∀ w, (zeroValue 3).run P w = .ok (Value.int IntKind.i64 0) w
  t104 : P.underlying 104 = some (TypeDesc.int IntKind.u64)
  t4 : P.underlying 4 = some (TypeDesc.bool)
  a4 : ∀ w, (isAgg 4).run P w = .ok false w
  z4 : ∀ w, (Go.sizeOf 4).run P w = .ok 1 w
  v4 : ∀ w, (zeroValue 4).run P w = .ok (Value.bool false) w
  t22 : P.underlying 22 = some (TypeDesc.slice 26)
  a22 : ∀ w, (isAgg 22).run P w = .ok false w
  z22 : ∀ w, (Go.sizeOf 22).run P w = .ok 1 w
  v22 : ∀ w, (zeroValue 22).run P w = .ok (Value.slice none 0 0) w
  aE : ∀ w, (isAgg 26).run P w = .ok true w
  zE : ∀ w, (Go.sizeOf 26).run P w = .ok k w
variable {P : Program} {α : Type} [Inhabited α]
set_option maxHeartbeats 4000000 in
set_option maxRecDepth 1000000 in
theorem swapRange_any {k : Nat} (L : Lays P k) (enc : α → List Value) (g : Nat) (cb : Array Value) (blk off cap a b n : Nat) (d0 d : Array α) (w0 w : World)
    (R : RowK enc k w0 blk off d0) (hs : d0.size = d.size) (S : SWK enc k w0 blk off d w) (hsz : d.size < 4611686018427387904) (A U M V B : List α) (hd : d.toList = A ++ U ++ M ++ V ++ B) (ha : a = A.length) (hU : U.length = n) (hV : V.length = n) (hb : b = a + n + M.length) :
    Calls P 131 #[.slice (some ⟨blk, off, none⟩) d.size cap, .int .i64 a, .int .i64 b, .int .i64 n, .func (.func g) #[] cb] w fun e w' =>
      e = .returned (.tuple #[]) ∧ ∃ dk : Array α, dk.size = d.size ∧ dk.toList = A ++ V ++ M ++ U ++ B ∧ SWK enc k w0 blk off dk w' := by
  have mixed := L.mixed; have t0 := L.t0; have a0 := L.a0; have z0 := L.z0; have v0 := L.v0; have t3 := L.t3; have a3 := L.a3; have z3 := L.z3; have v3 := L.v3; have t4 := L.t4; have a4 := L.a4; have z4 := L.z4; have v4 := L.v4; have t22 := L.t22; have a22 := L.a22; have z22 := L.z22; have v22 := L.v22; have aE := L.aE; have zE := L.zE
  have FG := L.fswap
  have S0 : Aside (SWK enc k w0 blk off d w) := S
  have hdl : A.length + n + M.length + n + B.length ≤ d.size := by rw [← Array.length_toList, hd]; simp; omega
  have HD : Aside (d.toList = A ++ U ++ M ++ V ++ B) := hd
  have QS : Aside (a = A.length ∧ U.length = n ∧ V.length = n ∧ b = a + n + M.length) := ⟨ha, hU, hV, hb⟩
  have hb1 : b + n ≤ d.size := by omega
  have ha1 : a + n ≤ d.size := by omega
  clear S hd ha hU hV hb hdl
  go_enter FG, Tryd.ntmps131
  go_wp2
  go_loopg [10] n (fun kx s10 wr => ∃ (i : Nat) (dk : Array α), s10 = .int .i64 i ∧ i ≤ n ∧ n - i ≤ kx ∧ dk.size = d.size ∧ Aside (SWK enc k w0 blk off dk wr) ∧ Aside (dk.toList = A ++ (V.take i ++ U.drop i) ++ M ++ (U.take i ++ V.drop i) ++ B))
  case atStart => exact ⟨0, d, rfl, Nat.zero_le _, Nat.le_refl _, rfl, S0, by show _ = _; rw [HD.out]; simp⟩
  case round =>
    clear S0 HD
    obtain ⟨i, dk, rfl, hin, hkx, hds, S1, HE⟩ := hrel
    by_cases hlt : i < n
    · have hltz : (i : Int) < (n : Int) := by omega
      have HE2 : Aside ((swp dk (a + i) (b + i)).toList = A ++ (V.take (i + 1) ++ U.drop (i + 1)) ++ M ++ (U.take (i + 1) ++ V.drop (i + 1)) ++ B) := by
        exact range_step HE.out QS.out.1 QS.out.2.1 QS.out.2.2.1 QS.out.2.2.2 hlt
      clear HE
      go_wp2_with fail
      have ea29 : ((a : Int) + (i : Int)).toNat = a + i := by omega
      have pa29 : (0 : Int) ≤ (a : Int) + (i : Int) := by omega
      have ba29 : (a : Int) + (i : Int) < (d.size : Int) := by omega
      have ra29 : IntKind.i64.wrap ((a : Int) + (i : Int)) = (a : Int) + (i : Int) := by rw [IntKind.wrap_i64]; omega
      have ec29 : ((b : Int) + (i : Int)).toNat = b + i := by omega
      have pc29 : (0 : Int) ≤ (b : Int) + (i : Int) := by omega
      have bc29 : (b : Int) + (i : Int) < (d.size : Int) := by omega
      have rc29 : IntKind.i64.wrap ((b : Int) + (i : Int)) = (b : Int) + (i : Int) := by rw [IntKind.wrap_i64]; omega
      have S2 : Aside (SWK enc k w0 blk off (swp dk (a + i) (b + i)) ((wr.drew.setCells blk (off + (a + i) * k) (enc dk[b + i]!)).setCells blk (off + (b + i) * k) (enc dk[a + i]!))) := S1.out.swapped R (a + i) (b + i) (by omega) (by omega)
      have l29a := S1.out.ld1 R (by omega) P (a + i) (by omega)
      have l29b := S1.out.ld1 R (by omega) P (b + i) (by omega)
      have s29a := S1.out.st1 R (by omega) P (a + i) (by omega) dk[b + i]!
      have s29b := S1.out.st2 R (by omega) P (a + i) (b + i) (by omega) (by omega) dk[b + i]! dk[a + i]!
      have n29a : (enc dk[a + i]!).length = k := R.hk _
      have n29b : (enc dk[b + i]!).length = k := R.hk _
      generalize enc dk[a + i]! = cI29 at S2 l29a s29b n29a
      generalize enc dk[b + i]! = cJ29 at S2 l29b s29a s29b n29b
      clear S1
      go_wp2_with fail
      go_big_region_o
      clear l29a l29b s29a s29b
      generalize (wr.drew.setCells blk (off + (a + i) * k) cJ29).setCells blk (off + (b + i) * k) cI29 = w2 at S2 ⊢
      go_wp2
      go_roundg (n - (i + 1))
      case measure => omega
      case rel => exact ⟨i + 1, swp dk (a + i) (b + i), by simp, by omega, Nat.le_refl _, by rw [size_swp]; exact hds, S2, HE2⟩
    · obtain rfl : i = n := by omega
      go_wp2
      go_end0
      refine ⟨rfl, dk, hds, ?_, S1.out⟩
      obtain ⟨_, hU, hV, _⟩ := QS.out
      rw [HE.out, List.take_of_length_le (by omega), List.drop_of_length_le (by omega), List.take_of_length_le (by omega), List.drop_of_length_le (by omega)]
      simp
set_option maxHeartbeats 4000000 in
set_option maxRecDepth 1000000 in
theorem rotate_any {k : Nat} (L : Lays P k) (enc : α → List Value) (g : Nat) (cb : Array Value) (blk off cap a m b : Nat) (d0 d : Array α) (w0 w : World)
    (R : RowK enc k w0 blk off d0) (hs : d0.size = d.size) (S : SWK enc k w0 blk off d w) (hsz : d.size < 4611686018427387904) (A X Y B : List α) (hd : d.toList = A ++ X ++ Y ++ B) (ha : a = A.length) (hm : m = a + X.length) (hb : b = m + Y.length) (hX : 0 < X.length) (hY : 0 < Y.length) :
    Calls P 124 #[.slice (some ⟨blk, off, none⟩) d.size cap, .int .i64 a, .int .i64 m, .int .i64 b, .func (.func g) #[] cb] w fun e w' =>
      e = .returned (.tuple #[]) ∧ ∃ dk : Array α, dk.size = d.size ∧ dk.toList = A ++ Y ++ X ++ B ∧ SWK enc k w0 blk off dk w' := by
  have mixed := L.mixed; have t0 := L.t0; have a0 := L.a0; have z0 := L.z0; have v0 := L.v0; have t3 := L.t3; have a3 := L.a3; have z3 := L.z3; have v3 := L.v3; have t4 := L.t4; have a4 := L.a4; have z4 := L.z4; have v4 := L.v4; have t22 := L.t22; have a22 := L.a22; have z22 := L.z22; have v22 := L.v22; have aE := L.aE; have zE := L.zE
  have FG := L.frot
  have esw : ∀ args w, (callFunc 131 args).run P w = .ok (.enter 131 args) w := enters_of L.fswap (by decide) rfl
  have S0 : Aside (SWK enc k w0 blk off d w) := S
  have hdl : d.size = A.length + X.length + Y.length + B.length := by rw [← Array.length_toList, hd]; simp; omega
  have HD : Aside (d.toList = A ++ X ++ Y ++ B) := hd
  have QS : Aside (a = A.length ∧ m = a + X.length ∧ b = m + Y.length ∧ d.size = A.length + X.length + Y.length + B.length) := ⟨ha, hm, hb, hdl⟩
  have bam : a ≤ m := by omega
  have bmb : m ≤ b := by omega
  have bbd : b ≤ d.size := by omega
  have ei : (m : Int) - (a : Int) = (X.length : Int) := by omega
  have ej : (b : Int) - (m : Int) = (Y.length : Int) := by omega
  clear S hd ha hm hb hdl
  go_enter FG, Tryd.ntmps124
  go_wp2
  go_loopg [10, 11] (X.length + Y.length) (fun kx s10 s11 wr => ∃ (i j : Nat) (dk : Array α) (A' U V B' : List α), s10 = .int .i64 i ∧ s11 = .int .i64 j ∧ U.length = i ∧ V.length = j ∧ 0 < i ∧ 0 < j ∧ A'.length + i = m ∧ i + j ≤ kx ∧ dk.size = d.size ∧ m + j + B'.length = d.size ∧ Aside (SWK enc k w0 blk off dk wr) ∧ Aside (dk.toList = A' ++ U ++ V ++ B') ∧ Aside (A' ++ V ++ U ++ B' = A ++ Y ++ X ++ B))
  case atStart =>
    obtain ⟨q1, q2, q3, q4⟩ := QS.out
    exact ⟨X.length, Y.length, d, A, X, Y, B, by go_num, by go_num, rfl, rfl, hX, hY, by omega, Nat.le_refl _, rfl, by omega, S0, HD, by show _ = _; rfl⟩
  case round =>
    clear S0 HD QS ei ej hX hY
    obtain ⟨i, j, dk, A', U, V, B', rfl, rfl, hU, hV, hi, hj, hA', hkx, hds, hml, S1, HE, HT⟩ := hrel
    have emi : ((m - i : Nat) : Int) = (m : Int) - (i : Int) := by omega
    by_cases hij : i = j
    · subst hij
      have hcall := swapRange_any L enc g cb blk off cap (m - i) m i d0 dk w0 wr R (by omega) S1.out (by omega) A' U [] V B' (by rw [HE.out]; simp) (by omega) hU hV (by simp; omega)
      rw [emi, hds] at hcall
      clear S1 HE
      go_wp2_with (go_at_fn 131; refine hcall.mono ?_; rintro e w1 ⟨rfl, dk1, hs1, hl1, S3⟩)
      go_end0
      refine ⟨rfl, dk1, hs1, ?_, S3⟩
      rw [hl1, ← HT.out]; simp
    · by_cases hgt : j < i
      · have hgtz : (j : Int) < (i : Int) := by omega
        have hcall := swapRange_any L enc g cb blk off cap (m - i) m j d0 dk w0 wr R (by omega) S1.out (by omega) A' (U.take j) (U.drop j) V B' (by rw [HE.out]; simp) (by omega) (by rw [List.length_take]; omega) hV (by rw [List.length_drop]; omega)
        rw [emi, hds] at hcall
        clear S1 HE
        go_wp2_with (go_at_fn 131; refine hcall.mono ?_; rintro e w1 ⟨rfl, dk1, hs1, hl1, S3⟩)
        have S4 : Aside (SWK enc k w0 blk off dk1 w1) := S3
        have HL : Aside (dk1.toList = (A' ++ V) ++ U.drop j ++ U.take j ++ B') := by show _ = _; rw [hl1]
        have HT2 : Aside ((A' ++ V) ++ U.take j ++ U.drop j ++ B' = A ++ Y ++ X ++ B) := by show _ = _; rw [← HT.out]; simp
        clear S3 hl1 HT hcall
        go_roundg (i - j + j)
        case measure => omega
        case rel => exact ⟨i - j, j, dk1, A' ++ V, U.drop j, U.take j, B', by go_num, rfl, by rw [List.length_drop]; omega, by rw [List.length_take]; omega, by omega, hj, by rw [List.length_append]; omega, Nat.le_refl _, hs1, hml, S4, HL, HT2⟩
      · have hgtz : ¬ (j : Int) < (i : Int) := by omega
        have emj : ((m + j - i : Nat) : Int) = (m : Int) + (j : Int) - (i : Int) := by omega
        have hcall := swapRange_any L enc g cb blk off cap (m - i) (m + j - i) i d0 dk w0 wr R (by omega) S1.out (by omega) A' U (V.take (j - i)) (V.drop (j - i)) B' (by rw [HE.out]; simp) (by omega) hU (by rw [List.length_drop]; omega) (by rw [List.length_take]; omega)
        rw [emi, emj, hds] at hcall
        clear S1 HE
        go_wp2_with (go_at_fn 131; refine hcall.mono ?_; rintro e w1 ⟨rfl, dk1, hs1, hl1, S3⟩)
        have S4 : Aside (SWK enc k w0 blk off dk1 w1) := S3
        have HL : Aside (dk1.toList = A' ++ V.drop (j - i) ++ V.take (j - i) ++ (U ++ B')) := by show _ = _; rw [hl1]; simp
        have HT2 : Aside (A' ++ V.take (j - i) ++ V.drop (j - i) ++ (U ++ B') = A ++ Y ++ X ++ B) := by show _ = _; rw [← HT.out]; simp
        clear S3 hl1 HT hcall
        go_roundg (i + (j - i))
        case measure => omega
        case rel => exact ⟨i, j - i, dk1, A', V.drop (j - i), V.take (j - i), U ++ B', rfl, by go_num, by rw [List.length_drop]; omega, by rw [List.length_take]; omega, hi, by omega, hA', Nat.le_refl _, hs1, by rw [List.length_append]; omega, S4, HL, HT2⟩
end Go.Proofs.YthpecpkncifngaaDoor.So
end

/- The contract of slices.symMergeCmpFunc at elements of k cells: two sorted pieces that lie beside each other become one. -/
section
namespace Go.Proofs.YthpecpkncifngaaDoor.So
open Go Go.Proofs Go.Shelf Go.RowKit Go.Lib Go.Sort
variable {P : Program} {α : Type} [Inhabited α]
set_option maxHeartbeats 8000000 in
set_option maxRecDepth 1000000 in
theorem symFirst_any {k : Nat} (L : Lays P k) (enc : α → List Value) (cf : α → α → Int) (g : Nat) (cb : Array Value) (blk off cap a m b : Nat) (d0 d : Array α) (w0 w : World) (H : Wo (ltOf cf))
    (eg : ∀ args w, (callFunc g args).run P w = .ok (.enter g args) w) (hcmp : CmpLays P g cb enc k cf blk off d0.size w0)
    (R : RowK enc k w0 blk off d0) (hs : d0.size = d.size) (S : SWK enc k w0 blk off d w) (hsz : d.size < 4611686018427387904) (A Y B : List α) (x : α) (hd : d.toList = A ++ x :: (Y ++ B)) (ha : a = A.length) (hm : m = a + 1) (hb : b = m + Y.length) (hY : 0 < Y.length) (hsY : Sorted (ltOf cf) Y) :
    Calls P 110 #[.slice (some ⟨blk, off, none⟩) d.size cap, .int .i64 a, .int .i64 m, .int .i64 b, .func (.func g) #[] cb] w fun e w' =>
      e = .returned (.tuple #[]) ∧ ∃ dk : Array α, dk.size = d.size ∧ dk.toList = A ++ isort (ltOf cf) ([x] ++ Y) ++ B ∧ SWK enc k w0 blk off dk w' := by
  have mixed := L.mixed; have t0 := L.t0; have a0 := L.a0; have z0 := L.z0; have v0 := L.v0; have t3 := L.t3; have a3 := L.a3; have z3 := L.z3; have v3 := L.v3; have t104 := L.t104; have t4 := L.t4; have a4 := L.a4; have z4 := L.z4; have v4 := L.v4; have t22 := L.t22; have a22 := L.a22; have z22 := L.z22; have v22 := L.v22; have aE := L.aE; have zE := L.zE
  have FG := L.fsym
  have HC : Aside _ := hcmp
  have S0 : Aside (SWK enc k w0 blk off d w) := S
  have hdl : d.size = A.length + 1 + Y.length + B.length := by rw [← Array.length_toList, hd]; simp; omega
  have QS : Aside (d.toList = A ++ x :: (Y ++ B) ∧ a = A.length ∧ m = a + 1 ∧ b = m + Y.length ∧ Sorted (ltOf cf) Y) := ⟨hd, ha, hm, hb, hsY⟩
  have bam : a + 1 ≤ m := by omega
  have bam' : m ≤ a + 1 := by omega
  have bmb : m < b := by omega
  have bbd : b ≤ d.size := by omega
  have e1 : (m : Int) - (a : Int) = 1 := by omega
  generalize hZ : A ++ isort (ltOf cf) ([x] ++ Y) ++ B = Z
  have HZ : Hid (A ++ isort (ltOf cf) ([x] ++ Y) ++ B = Z) := hZ
  clear hZ
  clear S hd ha hm hb hdl hcmp hsY hY
  go_enter FG, Tryd.ntmps110
  go_wp2
  go_loopg [10, 11] (b - m) (fun kx s10 s11 wr => ∃ (i j : Nat), s10 = .int .i64 i ∧ s11 = .int .i64 j ∧ m ≤ i ∧ i ≤ j ∧ j ≤ b ∧ j - i ≤ kx ∧ Aside (SWK enc k w0 blk off d wr) ∧ Aside ((i = m ∨ ltOf cf d[i - 1]! d[a]! = true) ∧ (j = b ∨ ltOf cf d[j]! d[a]! = false)))
  case atStart => exact ⟨m, b, rfl, rfl, Nat.le_refl _, by omega, Nat.le_refl _, Nat.le_refl _, S0, ⟨.inl rfl, .inl rfl⟩⟩
  case round =>
    clear S0
    obtain ⟨i, j, rfl, rfl, hmi, hij, hjb, hkx, S1, HE⟩ := hrel
    by_cases hlt : i < j
    · have hltz : (i : Int) < (j : Int) := by omega
      obtain ⟨h, hh⟩ : ∃ h, h = (i + j) / 2 := ⟨_, rfl⟩
      have hh1 : i ≤ h := by omega
      have hh2 : h < j := by omega
      have hhz : ((i : Int) + (j : Int)) / 2 = (h : Int) := by omega
      clear hh
      cases hT : ltOf cf d[h]! d[a]! with
      | true =>
        obtain ⟨dk, hdk⟩ : ∃ dk, dk = d := ⟨_, rfl⟩
        have hdks : dk.size = d.size := by rw [hdk]
        rw [← hdk] at S1
        have hT' : ltOf cf dk[h]! dk[a]! = true := by rw [hdk]; exact hT
        have HDK : Hid (dk = d) := hdk
        clear hdk
        go_wp2_with fail
        have ea44 : ((h : Int)).toNat = h := by omega
        have pa44 : (0 : Int) ≤ (h : Int) := by omega
        have ba44 : (h : Int) < (d.size : Int) := by omega
        have ra44 : IntKind.i64.wrap ((h : Int)) = (h : Int) := by rw [IntKind.wrap_i64]; omega
        have ec44 : ((a : Int)).toNat = a := by omega
        have pc44 : (0 : Int) ≤ (a : Int) := by omega
        have bc44 : (a : Int) < (d.size : Int) := by omega
        have rc44 : IntKind.i64.wrap ((a : Int)) = (a : Int) := by rw [IntKind.wrap_i64]; omega
        obtain ⟨x44, hx44⟩ : ∃ x, x = dk[h]! := ⟨_, rfl⟩
        obtain ⟨y44, hy44⟩ : ∃ x, x = dk[a]! := ⟨_, rfl⟩
        have l44a := S1.out.ld R (by omega) P (h) (by omega)
        have l44b := S1.out.ld R (by omega) P (a) (by omega)
        rw [← hx44] at l44a
        rw [← hy44] at l44b
        have hc44 := S1.out.cmp HC.out (by omega) x44 y44
        have hv44 : cf x44 y44 < 0 := by rw [hx44, hy44]; exact of_decide_eq_true hT'
        have hd44 : decide (cf x44 y44 < 0) = true := decide_eq_true hv44
        clear hx44 hy44
        go_wp2_with fail
        go_quiet_grown (first | (go_at_fn g; refine Calls.grown_of (hc44 _ _)))
        have S2 : Aside (SWK enc k w0 blk off dk (grow (wr.drewN nq) osq)) := S1.out.grown nq osq
        clear l44a l44b hc44 S1
        generalize grow (wr.drewN nq) osq = w2 at S2 ⊢
        clear nq osq
        clear ea44 pa44 ba44 ra44 ec44 pc44 bc44 rc44
        have S3 : Aside (SWK enc k w0 blk off d w2) := by have := S2.out; rwa [HDK.out] at this
        clear S2 HDK hT'
        go_wp2_with fail
        have HE2 : Aside ((h + 1 = m ∨ ltOf cf d[h + 1 - 1]! d[a]! = true) ∧ (j = b ∨ ltOf cf d[j]! d[a]! = false)) := ⟨.inr hT, HE.out.2⟩
        go_roundg (j - (h + 1))
        case measure => omega
        case rel => exact ⟨h + 1, j, by go_num, rfl, by omega, by omega, hjb, Nat.le_refl _, S3, HE2⟩
      | false =>
        obtain ⟨dk, hdk⟩ : ∃ dk, dk = d := ⟨_, rfl⟩
        have hdks : dk.size = d.size := by rw [hdk]
        rw [← hdk] at S1
        have hT' : ltOf cf dk[h]! dk[a]! = false := by rw [hdk]; exact hT
        have HDK : Hid (dk = d) := hdk
        clear hdk
        go_wp2_with fail
        have ea44 : ((h : Int)).toNat = h := by omega
        have pa44 : (0 : Int) ≤ (h : Int) := by omega
        have ba44 : (h : Int) < (d.size : Int) := by omega
        have ra44 : IntKind.i64.wrap ((h : Int)) = (h : Int) := by rw [IntKind.wrap_i64]; omega
        have ec44 : ((a : Int)).toNat = a := by omega
        have pc44 : (0 : Int) ≤ (a : Int) := by omega
        have bc44 : (a : Int) < (d.size : Int) := by omega
        have rc44 : IntKind.i64.wrap ((a : Int)) = (a : Int) := by rw [IntKind.wrap_i64]; omega
        obtain ⟨x44, hx44⟩ : ∃ x, x = dk[h]! := ⟨_, rfl⟩
        obtain ⟨y44, hy44⟩ : ∃ x, x = dk[a]! := ⟨_, rfl⟩
        have l44a := S1.out.ld R (by omega) P (h) (by omega)
        have l44b := S1.out.ld R (by omega) P (a) (by omega)
        rw [← hx44] at l44a
        rw [← hy44] at l44b
        have hc44 := S1.out.cmp HC.out (by omega) x44 y44
        have hv44 : ¬ cf x44 y44 < 0 := by rw [hx44, hy44]; exact of_decide_eq_false hT'
        have hd44 : decide (cf x44 y44 < 0) = false := decide_eq_false hv44
        clear hx44 hy44
        go_wp2_with fail
        go_quiet_grown (first | (go_at_fn g; refine Calls.grown_of (hc44 _ _)))
        have S2 : Aside (SWK enc k w0 blk off dk (grow (wr.drewN nq) osq)) := S1.out.grown nq osq
        clear l44a l44b hc44 S1
        generalize grow (wr.drewN nq) osq = w2 at S2 ⊢
        clear nq osq
        clear ea44 pa44 ba44 ra44 ec44 pc44 bc44 rc44
        have S3 : Aside (SWK enc k w0 blk off d w2) := by have := S2.out; rwa [HDK.out] at this
        clear S2 HDK hT'
        go_wp2_with fail
        have HE2 : Aside ((i = m ∨ ltOf cf d[i - 1]! d[a]! = true) ∧ (h = b ∨ ltOf cf d[h]! d[a]! = false)) := ⟨HE.out.1, .inr hT⟩
        go_roundg (h - i)
        case measure => omega
        case rel => exact ⟨i, h, rfl, by go_num, by omega, by omega, by omega, Nat.le_refl _, S3, HE2⟩
    · obtain rfl : i = j := by omega
      -- the list that comes out
      have OUT : Aside (A ++ (Y.take (i - m) ++ x :: Y.drop (i - m)) ++ B = Z) := by
        show _ = _
        rw [← HZ.out]
        obtain ⟨q1, q2, q3, q4, q5⟩ := QS.out
        obtain ⟨p1, p2⟩ := HE.out
        have ex : d[a]! = x := get_mid q1 q2
        have ey : ∀ t, t < Y.length → d[m + t]! = Y[t]! := fun t ht => by
          have : d.toList = (A ++ x :: Y.take t) ++ Y[t] :: (Y.drop (t + 1) ++ B) := by
            rw [q1]
            have : Y = Y.take t ++ Y[t] :: Y.drop (t + 1) := by rw [← List.drop_eq_getElem_cons ht, List.take_append_drop]
            conv => lhs; rw [this]
            simp only [List.append_assoc, List.cons_append, List.nil_append]
          rw [get_mid this (by simp; omega)]
          simp [ht]
        rw [sym_first H q5 (i - m) (by omega) (by
          rcases p1 with h | h
          · exact .inl (by omega)
          · by_cases him : i = m
            · exact .inl (by omega)
            · right
              have := ey (i - 1 - m) (by omega)
              rw [show m + (i - 1 - m) = i - 1 by omega] at this
              rw [show i - m - 1 = i - 1 - m by omega, ← this, ← ex]; exact h) (by
          rcases p2 with h | h
          · exact .inl (by omega)
          · by_cases hib : i - m < Y.length
            · right
              have := ey (i - m) hib
              rw [show m + (i - m) = i by omega] at this
              rw [← this, ← ex]; exact h
            · exact .inl (by omega))]
      have ST : Aside (d.toList = A ++ (Y.take (a - a) ++ x :: Y.drop (a - a)) ++ B) := by show _ = _; rw [QS.out.1]; simp
      have i1 : (a : Int) ≤ (i : Int) - 1 := by omega
      have i2 : IntKind.i64.wrap ((i : Int) - 1) = (i : Int) - 1 := by rw [IntKind.wrap_i64]; omega
      have hl3 : Aside (m = a + 1 ∧ b = m + Y.length ∧ a = A.length) := ⟨QS.out.2.2.1, QS.out.2.2.2.1, QS.out.2.1⟩
      clear HE QS
      go_wp2
      go_loopg [13] (i - 1 - a) (fun kx s13 wr2 => ∃ (t : Nat) (dk : Array α), s13 = .int .i64 t ∧ a ≤ t ∧ t ≤ i - 1 ∧ i - 1 - t ≤ kx ∧ dk.size = d.size ∧ Aside (SWK enc k w0 blk off dk wr2) ∧ Aside (dk.toList = A ++ (Y.take (t - a) ++ x :: Y.drop (t - a)) ++ B))
      case atStart => exact ⟨a, d, rfl, Nat.le_refl _, by omega, Nat.le_refl _, rfl, S1, ST⟩
      case round =>
        clear S1 ST
        obtain ⟨t, dk, rfl, hat, hti, hkx2, hds, S1, HL⟩ := hrel
        by_cases hlt2 : t < i - 1
        · have hltz : (t : Int) < (i : Int) - 1 := by omega
          have HL2 : Aside ((swp dk t (t + 1)).toList = A ++ (Y.take (t + 1 - a) ++ x :: Y.drop (t + 1 - a)) ++ B) := by
            obtain ⟨r1, r2, r3⟩ := hl3.out
            have hy : t - a < Y.length := by omega
            show _ = _
            have e : dk.toList = (A ++ Y.take (t - a)) ++ x :: Y[t - a] :: (Y.drop (t - a + 1) ++ B) := by
              rw [HL.out, List.drop_eq_getElem_cons hy]; simp only [List.append_assoc, List.cons_append, List.nil_append]
            rw [swp_next e (by rw [List.length_append, List.length_take]; omega), show t + 1 - a = t - a + 1 by omega, show Y.take (t - a + 1) = Y.take (t - a) ++ [Y[t - a]] from (List.take_append_getElem hy).symm]
            simp only [List.append_assoc, List.cons_append, List.nil_append]
          clear HL
          go_wp2_with fail
          have ea70 : ((t : Int)).toNat = t := by omega
          have pa70 : (0 : Int) ≤ (t : Int) := by omega
          have ba70 : (t : Int) < (d.size : Int) := by omega
          have ra70 : IntKind.i64.wrap ((t : Int)) = (t : Int) := by rw [IntKind.wrap_i64]; omega
          have ec70 : ((t : Int) + 1).toNat = t + 1 := by omega
          have pc70 : (0 : Int) ≤ (t : Int) + 1 := by omega
          have bc70 : (t : Int) + 1 < (d.size : Int) := by omega
          have rc70 : IntKind.i64.wrap ((t : Int) + 1) = (t : Int) + 1 := by rw [IntKind.wrap_i64]; omega
          have S2 : Aside (SWK enc k w0 blk off (swp dk (t) (t + 1)) ((wr.drew.setCells blk (off + (t) * k) (enc dk[t + 1]!)).setCells blk (off + (t + 1) * k) (enc dk[t]!))) := S1.out.swapped R (t) (t + 1) (by omega) (by omega)
          have l70a := S1.out.ld1 R (by omega) P (t) (by omega)
          have l70b := S1.out.ld1 R (by omega) P (t + 1) (by omega)
          have s70a := S1.out.st1 R (by omega) P (t) (by omega) dk[t + 1]!
          have s70b := S1.out.st2 R (by omega) P (t) (t + 1) (by omega) (by omega) dk[t + 1]! dk[t]!
          have n70a : (enc dk[t]!).length = k := R.hk _
          have n70b : (enc dk[t + 1]!).length = k := R.hk _
          generalize enc dk[t]! = cI70 at S2 l70a s70b n70a
          generalize enc dk[t + 1]! = cJ70 at S2 l70b s70a s70b n70b
          clear S1
          go_wp2_with fail
          go_big_region_o
          clear l70a l70b s70a s70b
          generalize (wr.drew.setCells blk (off + (t) * k) cJ70).setCells blk (off + (t + 1) * k) cI70 = w2 at S2 ⊢
          go_wp2
          go_roundg (i - 1 - (t + 1))
          case measure => omega
          case rel => exact ⟨t + 1, swp dk t (t + 1), by go_num, by omega, by omega, Nat.le_refl _, by rw [size_swp]; exact hds, S2, HL2⟩
        · have hltz : ¬ (t : Int) < (i : Int) - 1 := by omega
          go_wp2
          (try simp only [Exit.inBlock, Exit.then])
          refine bodyPost_ret (results_none rfl _ _ _) rfl ?_
          obtain ⟨r1, r2, r3⟩ := hl3.out
          refine ⟨rfl, dk, hds, ?_, S1.out⟩
          rw [HL.out, ← OUT.out, show t - a = i - m by omega]
end Go.Proofs.YthpecpkncifngaaDoor.So
end

/- The contract of slices.symMergeCmpFunc at elements of k cells: one element behind a sorted piece. -/
section
namespace Go.Proofs.YthpecpkncifngaaDoor.So
open Go Go.Proofs Go.Shelf Go.RowKit Go.Lib Go.Sort
variable {P : Program} {α : Type} [Inhabited α]
set_option maxHeartbeats 8000000 in
set_option maxRecDepth 1000000 in
theorem symLast_any {k : Nat} (L : Lays P k) (enc : α → List Value) (cf : α → α → Int) (g : Nat) (cb : Array Value) (blk off cap a m b : Nat) (d0 d : Array α) (w0 w : World) (H : Wo (ltOf cf))
    (eg : ∀ args w, (callFunc g args).run P w = .ok (.enter g args) w) (hcmp : CmpLays P g cb enc k cf blk off d0.size w0)
    (R : RowK enc k w0 blk off d0) (hs : d0.size = d.size) (S : SWK enc k w0 blk off d w) (hsz : d.size < 4611686018427387904) (A X B : List α) (y : α) (hd : d.toList = A ++ X ++ y :: B) (ha : a = A.length) (hm : m = a + X.length) (hb : b = m + 1) (hX : 1 < X.length) (hsX : Sorted (ltOf cf) X) :
    Calls P 110 #[.slice (some ⟨blk, off, none⟩) d.size cap, .int .i64 a, .int .i64 m, .int .i64 b, .func (.func g) #[] cb] w fun e w' =>
      e = .returned (.tuple #[]) ∧ ∃ dk : Array α, dk.size = d.size ∧ dk.toList = A ++ isort (ltOf cf) (X ++ [y]) ++ B ∧ SWK enc k w0 blk off dk w' := by
  have mixed := L.mixed; have t0 := L.t0; have a0 := L.a0; have z0 := L.z0; have v0 := L.v0; have t3 := L.t3; have a3 := L.a3; have z3 := L.z3; have v3 := L.v3; have t104 := L.t104; have t4 := L.t4; have a4 := L.a4; have z4 := L.z4; have v4 := L.v4; have t22 := L.t22; have a22 := L.a22; have z22 := L.z22; have v22 := L.v22; have aE := L.aE; have zE := L.zE
  have FG := L.fsym
  have HC : Aside _ := hcmp
  have S0 : Aside (SWK enc k w0 blk off d w) := S
  have hdl : d.size = A.length + X.length + 1 + B.length := by rw [← Array.length_toList, hd]; simp; omega
  have QS : Aside (d.toList = A ++ X ++ y :: B ∧ a = A.length ∧ m = a + X.length ∧ b = m + 1 ∧ Sorted (ltOf cf) X) := ⟨hd, ha, hm, hb, hsX⟩
  have bam : a + 1 < m := by omega
  have bmb : m + 1 ≤ b := by omega
  have bmb' : b ≤ m + 1 := by omega
  have bbd : b ≤ d.size := by omega
  have e0 : ¬ (m : Int) - (a : Int) = 1 := by omega
  have e0b : ((m : Int) - (a : Int) == 1) = false := by simpa using e0
  have e1 : (b : Int) - (m : Int) = 1 := by omega
  generalize hZ : A ++ isort (ltOf cf) (X ++ [y]) ++ B = Z
  have HZ : Hid (A ++ isort (ltOf cf) (X ++ [y]) ++ B = Z) := hZ
  clear hZ
  clear S hd ha hm hb hdl hcmp hsX hX
  go_enter FG, Tryd.ntmps110
  go_wp2
  go_loopg [14, 15] (m - a) (fun kx s14 s15 wr => ∃ (i j : Nat), s14 = .int .i64 i ∧ s15 = .int .i64 j ∧ a ≤ i ∧ i ≤ j ∧ j ≤ m ∧ j - i ≤ kx ∧ Aside (SWK enc k w0 blk off d wr) ∧ Aside ((i = a ∨ ltOf cf d[m]! d[i - 1]! = false) ∧ (j = m ∨ ltOf cf d[m]! d[j]! = true)))
  case atStart => exact ⟨a, m, rfl, rfl, Nat.le_refl _, by omega, Nat.le_refl _, Nat.le_refl _, S0, ⟨.inl rfl, .inl rfl⟩⟩
  case round =>
    clear S0
    obtain ⟨i, j, rfl, rfl, hmi, hij, hjb, hkx, S1, HE⟩ := hrel
    by_cases hlt : i < j
    · have hltz : (i : Int) < (j : Int) := by omega
      obtain ⟨h, hh⟩ : ∃ h, h = (i + j) / 2 := ⟨_, rfl⟩
      have hh1 : i ≤ h := by omega
      have hh2 : h < j := by omega
      have hhz : ((i : Int) + (j : Int)) / 2 = (h : Int) := by omega
      clear hh
      cases hT : ltOf cf d[m]! d[h]! with
      | false =>
        obtain ⟨dk, hdk⟩ : ∃ dk, dk = d := ⟨_, rfl⟩
        have hdks : dk.size = d.size := by rw [hdk]
        rw [← hdk] at S1
        have hT' : ltOf cf dk[m]! dk[h]! = false := by rw [hdk]; exact hT
        have HDK : Hid (dk = d) := hdk
        clear hdk
        go_wp2_with fail
        have ea96 : ((m : Int)).toNat = m := by omega
        have pa96 : (0 : Int) ≤ (m : Int) := by omega
        have ba96 : (m : Int) < (d.size : Int) := by omega
        have ra96 : IntKind.i64.wrap ((m : Int)) = (m : Int) := by rw [IntKind.wrap_i64]; omega
        have ec96 : ((h : Int)).toNat = h := by omega
        have pc96 : (0 : Int) ≤ (h : Int) := by omega
        have bc96 : (h : Int) < (d.size : Int) := by omega
        have rc96 : IntKind.i64.wrap ((h : Int)) = (h : Int) := by rw [IntKind.wrap_i64]; omega
        obtain ⟨x96, hx96⟩ : ∃ x, x = dk[m]! := ⟨_, rfl⟩
        obtain ⟨y96, hy96⟩ : ∃ x, x = dk[h]! := ⟨_, rfl⟩
        have l96a := S1.out.ld R (by omega) P (m) (by omega)
        have l96b := S1.out.ld R (by omega) P (h) (by omega)
        rw [← hx96] at l96a
        rw [← hy96] at l96b
        have hc96 := S1.out.cmp HC.out (by omega) x96 y96
        have hv96 : ¬ cf x96 y96 < 0 := by rw [hx96, hy96]; exact of_decide_eq_false hT'
        have hd96 : decide (cf x96 y96 < 0) = false := decide_eq_false hv96
        clear hx96 hy96
        go_wp2_with fail
        go_quiet_grown (first | (go_at_fn g; refine Calls.grown_of (hc96 _ _)))
        have S2 : Aside (SWK enc k w0 blk off dk (grow (wr.drewN nq) osq)) := S1.out.grown nq osq
        clear l96a l96b hc96 S1
        generalize grow (wr.drewN nq) osq = w2 at S2 ⊢
        clear nq osq
        clear ea96 pa96 ba96 ra96 ec96 pc96 bc96 rc96
        have S3 : Aside (SWK enc k w0 blk off d w2) := by have := S2.out; rwa [HDK.out] at this
        clear S2 HDK hT'
        go_wp2_with fail
        have HE2 : Aside ((h + 1 = a ∨ ltOf cf d[m]! d[h + 1 - 1]! = false) ∧ (j = m ∨ ltOf cf d[m]! d[j]! = true)) := ⟨.inr hT, HE.out.2⟩
        go_roundg (j - (h + 1))
        case measure => omega
        case rel => exact ⟨h + 1, j, by go_num, rfl, by omega, by omega, hjb, Nat.le_refl _, S3, HE2⟩
      | true =>
        obtain ⟨dk, hdk⟩ : ∃ dk, dk = d := ⟨_, rfl⟩
        have hdks : dk.size = d.size := by rw [hdk]
        rw [← hdk] at S1
        have hT' : ltOf cf dk[m]! dk[h]! = true := by rw [hdk]; exact hT
        have HDK : Hid (dk = d) := hdk
        clear hdk
        go_wp2_with fail
        have ea96 : ((m : Int)).toNat = m := by omega
        have pa96 : (0 : Int) ≤ (m : Int) := by omega
        have ba96 : (m : Int) < (d.size : Int) := by omega
        have ra96 : IntKind.i64.wrap ((m : Int)) = (m : Int) := by rw [IntKind.wrap_i64]; omega
        have ec96 : ((h : Int)).toNat = h := by omega
        have pc96 : (0 : Int) ≤ (h : Int) := by omega
        have bc96 : (h : Int) < (d.size : Int) := by omega
        have rc96 : IntKind.i64.wrap ((h : Int)) = (h : Int) := by rw [IntKind.wrap_i64]; omega
        obtain ⟨x96, hx96⟩ : ∃ x, x = dk[m]! := ⟨_, rfl⟩
        obtain ⟨y96, hy96⟩ : ∃ x, x = dk[h]! := ⟨_, rfl⟩
        have l96a := S1.out.ld R (by omega) P (m) (by omega)
        have l96b := S1.out.ld R (by omega) P (h) (by omega)
        rw [← hx96] at l96a
        rw [← hy96] at l96b
        have hc96 := S1.out.cmp HC.out (by omega) x96 y96
        have hv96 : cf x96 y96 < 0 := by rw [hx96, hy96]; exact of_decide_eq_true hT'
        have hd96 : decide (cf x96 y96 < 0) = true := decide_eq_true hv96
        clear hx96 hy96
        go_wp2_with fail
        go_quiet_grown (first | (go_at_fn g; refine Calls.grown_of (hc96 _ _)))
        have S2 : Aside (SWK enc k w0 blk off dk (grow (wr.drewN nq) osq)) := S1.out.grown nq osq
        clear l96a l96b hc96 S1
        generalize grow (wr.drewN nq) osq = w2 at S2 ⊢
        clear nq osq
        clear ea96 pa96 ba96 ra96 ec96 pc96 bc96 rc96
        have S3 : Aside (SWK enc k w0 blk off d w2) := by have := S2.out; rwa [HDK.out] at this
        clear S2 HDK hT'
        go_wp2_with fail
        have HE2 : Aside ((i = a ∨ ltOf cf d[m]! d[i - 1]! = false) ∧ (h = m ∨ ltOf cf d[m]! d[h]! = true)) := ⟨HE.out.1, .inr hT⟩
        go_roundg (h - i)
        case measure => omega
        case rel => exact ⟨i, h, rfl, by go_num, by omega, by omega, by omega, Nat.le_refl _, S3, HE2⟩
    · obtain rfl : i = j := by omega
      have OUT : Aside (A ++ (X.take (i - a) ++ y :: X.drop (i - a)) ++ B = Z) := by
        show _ = _
        rw [← HZ.out]
        obtain ⟨q1, q2, q3, q4, q5⟩ := QS.out
        obtain ⟨p1, p2⟩ := HE.out
        have ey : d[m]! = y := get_mid (A := A ++ X) q1 (by simp; omega)
        have ex : ∀ t, t < X.length → d[a + t]! = X[t]! := fun t ht => by
          have : d.toList = (A ++ X.take t) ++ X[t] :: (X.drop (t + 1) ++ y :: B) := by
            rw [q1]
            have : X = X.take t ++ X[t] :: X.drop (t + 1) := by rw [← List.drop_eq_getElem_cons ht, List.take_append_drop]
            conv => lhs; rw [this]
            simp only [List.append_assoc, List.cons_append, List.nil_append]
          rw [get_mid this (by simp; omega)]
          simp [ht]
        rw [sym_last H q5 (i - a) (by omega) (by
          rcases p1 with h | h
          · exact .inl (by omega)
          · by_cases him : i = a
            · exact .inl (by omega)
            · right
              have := ex (i - 1 - a) (by omega)
              rw [show a + (i - 1 - a) = i - 1 by omega] at this
              rw [show i - a - 1 = i - 1 - a by omega, ← this, ← ey]; exact h) (by
          rcases p2 with h | h
          · exact .inl (by omega)
          · by_cases hib : i - a < X.length
            · right
              have := ex (i - a) hib
              rw [show a + (i - a) = i by omega] at this
              rw [← this, ← ey]; exact h
            · exact .inl (by omega))]
      have ST : Aside (d.toList = A ++ (X.take (m - a) ++ y :: X.drop (m - a)) ++ B) := by
        show _ = _
        obtain ⟨q1, q2, q3, q4, q5⟩ := QS.out
        rw [q1, List.take_of_length_le (by omega), List.drop_of_length_le (by omega)]; simp
      have hl3 : Aside (m = a + X.length ∧ a = A.length) := ⟨QS.out.2.2.1, QS.out.2.1⟩
      clear HE QS
      go_wp2
      go_loopg [17] (m - i) (fun kx s17 wr2 => ∃ (t : Nat) (dk : Array α), s17 = .int .i64 t ∧ i ≤ t ∧ t ≤ m ∧ t - i ≤ kx ∧ dk.size = d.size ∧ Aside (SWK enc k w0 blk off dk wr2) ∧ Aside (dk.toList = A ++ (X.take (t - a) ++ y :: X.drop (t - a)) ++ B))
      case atStart => exact ⟨m, d, rfl, hjb, Nat.le_refl _, Nat.le_refl _, rfl, S1, ST⟩
      case round =>
        clear S1 ST
        obtain ⟨t, dk, rfl, hat, hti, hkx2, hds, S1, HL⟩ := hrel
        by_cases hlt2 : i < t
        · obtain ⟨s, rfl⟩ : ∃ s, t = s + 1 := ⟨t - 1, by omega⟩
          have hltz : (i : Int) < (s : Int) + 1 := by omega
          have HL2 : Aside ((swp dk (s + 1) s).toList = A ++ (X.take (s - a) ++ y :: X.drop (s - a)) ++ B) := by
            obtain ⟨r1, r3⟩ := hl3.out
            have hy : s - a < X.length := by omega
            show _ = _
            have e : dk.toList = (A ++ X.take (s - a)) ++ X[s - a] :: y :: (X.drop (s - a + 1) ++ B) := by
              rw [HL.out, show s + 1 - a = s - a + 1 by omega, show X.take (s - a + 1) = X.take (s - a) ++ [X[s - a]] from (List.take_append_getElem hy).symm]
              simp only [List.append_assoc, List.cons_append, List.nil_append]
            rw [swp_prev e (by rw [List.length_append, List.length_take]; omega), List.drop_eq_getElem_cons hy]
            simp only [List.append_assoc, List.cons_append, List.nil_append]
          clear HL
          go_wp2_with fail
          have ea122 : ((s : Int) + 1).toNat = s + 1 := by omega
          have pa122 : (0 : Int) ≤ (s : Int) + 1 := by omega
          have ba122 : (s : Int) + 1 < (d.size : Int) := by omega
          have ra122 : IntKind.i64.wrap ((s : Int) + 1) = (s : Int) + 1 := by rw [IntKind.wrap_i64]; omega
          have ec122 : ((s : Int)).toNat = s := by omega
          have pc122 : (0 : Int) ≤ (s : Int) := by omega
          have bc122 : (s : Int) < (d.size : Int) := by omega
          have rc122 : IntKind.i64.wrap ((s : Int)) = (s : Int) := by rw [IntKind.wrap_i64]; omega
          have S2 : Aside (SWK enc k w0 blk off (swp dk (s + 1) (s)) ((wr.drew.setCells blk (off + (s + 1) * k) (enc dk[s]!)).setCells blk (off + (s) * k) (enc dk[s + 1]!))) := S1.out.swapped R (s + 1) (s) (by omega) (by omega)
          have l122a := S1.out.ld1 R (by omega) P (s + 1) (by omega)
          have l122b := S1.out.ld1 R (by omega) P (s) (by omega)
          have s122a := S1.out.st1 R (by omega) P (s + 1) (by omega) dk[s]!
          have s122b := S1.out.st2 R (by omega) P (s + 1) (s) (by omega) (by omega) dk[s]! dk[s + 1]!
          have n122a : (enc dk[s + 1]!).length = k := R.hk _
          have n122b : (enc dk[s]!).length = k := R.hk _
          generalize enc dk[s + 1]! = cI122 at S2 l122a s122b n122a
          generalize enc dk[s]! = cJ122 at S2 l122b s122a s122b n122b
          clear S1
          go_wp2_with fail
          go_big_region_o
          clear l122a l122b s122a s122b
          generalize (wr.drew.setCells blk (off + (s + 1) * k) cJ122).setCells blk (off + (s) * k) cI122 = w2 at S2 ⊢
          go_wp2
          go_roundg (s - i)
          case measure => omega
          case rel => exact ⟨s, swp dk (s + 1) s, by go_num, by omega, by omega, Nat.le_refl _, by rw [size_swp]; exact hds, S2, HL2⟩
        · obtain rfl : t = i := by omega
          go_wp2
          (try simp only [Exit.inBlock, Exit.then])
          refine bodyPost_ret (results_none rfl _ _ _) rfl ?_
          refine ⟨rfl, dk, hds, ?_, S1.out⟩
          rw [HL.out, ← OUT.out]
end Go.Proofs.YthpecpkncifngaaDoor.So
end

/- The contract of slices.symMergeCmpFunc at elements of k cells: two sorted pieces that lie beside each other become one. -/
section
namespace Go.Proofs.YthpecpkncifngaaDoor.So
open Go Go.Proofs Go.Shelf Go.RowKit Go.Lib Go.Sort
variable {P : Program} {α : Type} [Inhabited α]
def MergesTo (P : Program) (enc : α → List Value) (k : Nat) (cf : α → α → Int) (g : Nat) (cb : Array Value) (blk off cap : Nat) (w0 : World) (size : Nat) (a m b : Nat) (d : Array α) (w : World) (A X Y B : List α) : Prop :=
  Calls P 110 #[.slice (some ⟨blk, off, none⟩) size cap, .int .i64 a, .int .i64 m, .int .i64 b, .func (.func g) #[] cb] w fun e w' =>
      e = .returned (.tuple #[]) ∧ ∃ dk : Array α, dk.size = size ∧ dk.toList = A ++ isort (ltOf cf) (X ++ Y) ++ B ∧ SWK enc k w0 blk off dk w'
set_option maxHeartbeats 16000000 in
set_option maxRecDepth 1000000 in
theorem symRound_any {k : Nat} (L : Lays P k) (enc : α → List Value) (cf : α → α → Int) (g : Nat) (cb : Array Value) (blk off cap a m b : Nat) (d0 d : Array α) (w0 w : World) (H : Wo (ltOf cf))
    (eg : ∀ args w, (callFunc g args).run P w = .ok (.enter g args) w) (hcmp : CmpLays P g cb enc k cf blk off d0.size w0)
    (R : RowK enc k w0 blk off d0) (hs : d0.size = d.size) (S : SWK enc k w0 blk off d w) (hsz : d.size < 4611686018427387904) (A X Y B : List α) (hd : d.toList = A ++ X ++ Y ++ B) (ha : a = A.length) (hm : m = a + X.length) (hb : b = m + Y.length) (hX : 1 < X.length) (hY : 1 < Y.length) (hsX : Sorted (ltOf cf) X) (hsY : Sorted (ltOf cf) Y)
    (ih : ∀ (a' m' b' : Nat) (d' : Array α) (w' : World) (A' X' Y' B' : List α), X'.length + Y'.length < X.length + Y.length → d'.size = d.size → SWK enc k w0 blk off d' w' → d'.toList = A' ++ X' ++ Y' ++ B' → a' = A'.length → m' = a' + X'.length → b' = m' + Y'.length → 0 < X'.length → 0 < Y'.length → Sorted (ltOf cf) X' → Sorted (ltOf cf) Y' → MergesTo P enc k cf g cb blk off cap w0 d.size a' m' b' d' w' A' X' Y' B') :
    MergesTo P enc k cf g cb blk off cap w0 d.size a m b d w A X Y B := by
  unfold MergesTo
  have mixed := L.mixed; have t0 := L.t0; have a0 := L.a0; have z0 := L.z0; have v0 := L.v0; have t3 := L.t3; have a3 := L.a3; have z3 := L.z3; have v3 := L.v3; have t104 := L.t104; have t4 := L.t4; have a4 := L.a4; have z4 := L.z4; have v4 := L.v4; have t22 := L.t22; have a22 := L.a22; have z22 := L.z22; have v22 := L.v22; have aE := L.aE; have zE := L.zE
  have FG := L.fsym
  have erot : ∀ args w, (callFunc 124 args).run P w = .ok (.enter 124 args) w := enters_of L.frot (by decide) rfl
  have esym : ∀ args w, (callFunc 110 args).run P w = .ok (.enter 110 args) w := enters_of L.fsym (by decide) rfl
  have HC : Aside _ := hcmp
  have IH : Aside _ := ih
  have S0 : Aside (SWK enc k w0 blk off d w) := S
  have hdl : d.size = A.length + X.length + Y.length + B.length := by rw [← Array.length_toList, hd]; simp; omega
  have QS : Aside (d.toList = A ++ X ++ Y ++ B ∧ a = A.length ∧ m = a + X.length ∧ b = m + Y.length ∧ Sorted (ltOf cf) X ∧ Sorted (ltOf cf) Y) := ⟨hd, ha, hm, hb, hsX, hsY⟩
  have bam : a + 1 < m := by omega
  have bmb : m + 1 < b := by omega
  have bbd : b ≤ d.size := by omega
  have e0 : ¬ (m : Int) - (a : Int) = 1 := by omega
  have e0b : ((m : Int) - (a : Int) == 1) = false := by simpa using e0
  have e1 : ¬ (b : Int) - (m : Int) = 1 := by omega
  have e1b : ((b : Int) - (m : Int) == 1) = false := by simpa using e1
  obtain ⟨mid, hmid⟩ : ∃ q, q = (a + b) / 2 := ⟨_, rfl⟩
  have bm1 : 2 * mid ≤ a + b := by omega
  have bm2 : a + b ≤ 2 * mid + 1 := by omega
  have emid : ((a : Int) + (b : Int)) / 2 = (mid : Int) := by omega
  generalize hZ : A ++ isort (ltOf cf) (X ++ Y) ++ B = Z
  have HZ : Hid (A ++ isort (ltOf cf) (X ++ Y) ++ B = Z) := hZ
  clear hZ hmid
  clear S hd ha hm hb hdl hcmp hsX hsY hX hY ih
  go_enter FG, Tryd.ntmps110
  go_upto_if 140 with (fail)
  go_cut [20, 21] (fun sv rv wc => ∃ s0 r0 : Nat, sv = .int .i64 s0 ∧ rv = .int .i64 r0 ∧ a ≤ s0 ∧ s0 ≤ r0 ∧ r0 ≤ m ∧ r0 ≤ mid ∧ mid + m ≤ b + s0 ∧ Aside (s0 = a ∨ mid + m = b + s0) ∧ Aside (r0 = m ∨ r0 = mid) ∧ wc = w)
  case first =>
    by_cases hgt : mid < m
    · have hgtz : (mid : Int) < (m : Int) := by omega
      go_wp2_with fail
      go_meet
      exact ⟨mid + m - b, mid, by go_num, rfl, by omega, by omega, by omega, Nat.le_refl _, by omega, Or.inr (by omega), Or.inr rfl, rfl⟩
    · have hgtz : ¬ (mid : Int) < (m : Int) := by omega
      go_wp2_with fail
      go_meet
      exact ⟨a, m, rfl, rfl, Nat.le_refl _, by omega, Nat.le_refl _, by omega, by omega, Or.inl rfl, Or.inl rfl, rfl⟩
  case rest =>
    obtain ⟨s0, r0, rfl, rfl, hc1, hc2, hc3, hc4, hc5, HS0, HR0, rfl⟩ := hcut
    go_wp2_with fail
    go_loopg [20, 21] (r0 - s0) (fun kx s20 s21 wr => ∃ (st r : Nat), s20 = .int .i64 st ∧ s21 = .int .i64 r ∧ s0 ≤ st ∧ st ≤ r ∧ r ≤ r0 ∧ r - st ≤ kx ∧ Aside (SWK enc k w0 blk off d wr) ∧ Aside ((st = s0 ∨ ltOf cf d[mid + m - st]! d[st - 1]! = false) ∧ (r = r0 ∨ ltOf cf d[mid + m - 1 - r]! d[r]! = true)))
    case atStart => exact ⟨s0, r0, rfl, rfl, Nat.le_refl _, hc2, Nat.le_refl _, Nat.le_refl _, S0, ⟨.inl rfl, .inl rfl⟩⟩
    case round =>
      clear S0
      obtain ⟨st, r, rfl, rfl, hsi, hij, hjr, hkx, S1, HE⟩ := hrel
      by_cases hlt : st < r
      · have hltz : (st : Int) < (r : Int) := by omega
        obtain ⟨c, hh⟩ : ∃ h, h = (st + r) / 2 := ⟨_, rfl⟩
        have hh1 : st ≤ c := by omega
        have hh2 : c < r := by omega
        have hhz : ((st : Int) + (r : Int)) / 2 = (c : Int) := by omega
        obtain ⟨q, hq⟩ : ∃ q, q = mid + m - 1 - c := ⟨_, rfl⟩
        have hq1 : q < d.size := by omega
        have hqz : (mid : Int) + (m : Int) - 1 - (c : Int) = (q : Int) := by omega
        have HQ : Hid (mid + m - 1 - c = q) := hq.symm
        clear hh hq
        cases hT : ltOf cf d[q]! d[c]! with
        | false =>
          obtain ⟨dk, hdk⟩ : ∃ dk, dk = d := ⟨_, rfl⟩
          have hdks : dk.size = d.size := by rw [hdk]
          rw [← hdk] at S1
          have hT' : ltOf cf dk[q]! dk[c]! = false := by rw [hdk]; exact hT
          have HDK : Hid (dk = d) := hdk
          clear hdk
          go_wp2_with fail
          have ea164 : ((q : Int)).toNat = q := by omega
          have pa164 : (0 : Int) ≤ (q : Int) := by omega
          have ba164 : (q : Int) < (d.size : Int) := by omega
          have ra164 : IntKind.i64.wrap ((q : Int)) = (q : Int) := by rw [IntKind.wrap_i64]; omega
          have ec164 : ((c : Int)).toNat = c := by omega
          have pc164 : (0 : Int) ≤ (c : Int) := by omega
          have bc164 : (c : Int) < (d.size : Int) := by omega
          have rc164 : IntKind.i64.wrap ((c : Int)) = (c : Int) := by rw [IntKind.wrap_i64]; omega
          obtain ⟨x164, hx164⟩ : ∃ x, x = dk[q]! := ⟨_, rfl⟩
          obtain ⟨y164, hy164⟩ : ∃ x, x = dk[c]! := ⟨_, rfl⟩
          have l164a := S1.out.ld R (by omega) P (q) (by omega)
          have l164b := S1.out.ld R (by omega) P (c) (by omega)
          rw [← hx164] at l164a
          rw [← hy164] at l164b
          have hc164 := S1.out.cmp HC.out (by omega) x164 y164
          have hv164 : ¬ cf x164 y164 < 0 := by rw [hx164, hy164]; exact of_decide_eq_false hT'
          have hd164 : decide (cf x164 y164 < 0) = false := decide_eq_false hv164
          clear hx164 hy164
          go_wp2_with fail
          go_quiet_grown (first | (go_at_fn g; refine Calls.grown_of (hc164 _ _)))
          have S2 : Aside (SWK enc k w0 blk off dk (grow (wr.drewN nq) osq)) := S1.out.grown nq osq
          clear l164a l164b hc164 S1
          generalize grow (wr.drewN nq) osq = w2 at S2 ⊢
          clear nq osq
          clear ea164 pa164 ba164 ra164 ec164 pc164 bc164 rc164
          have S3 : Aside (SWK enc k w0 blk off d w2) := by have := S2.out; rwa [HDK.out] at this
          clear S2 HDK hT'
          go_wp2_with fail
          have HE2 : Aside ((c + 1 = s0 ∨ ltOf cf d[mid + m - (c + 1)]! d[c + 1 - 1]! = false) ∧ (r = r0 ∨ ltOf cf d[mid + m - 1 - r]! d[r]! = true)) := ⟨.inr (by rw [show mid + m - (c + 1) = mid + m - 1 - c by omega, HQ.out]; exact hT), HE.out.2⟩
          go_roundg (r - (c + 1))
          case measure => omega
          case rel => exact ⟨c + 1, r, by go_num, rfl, by omega, by omega, hjr, Nat.le_refl _, S3, HE2⟩
        | true =>
          obtain ⟨dk, hdk⟩ : ∃ dk, dk = d := ⟨_, rfl⟩
          have hdks : dk.size = d.size := by rw [hdk]
          rw [← hdk] at S1
          have hT' : ltOf cf dk[q]! dk[c]! = true := by rw [hdk]; exact hT
          have HDK : Hid (dk = d) := hdk
          clear hdk
          go_wp2_with fail
          have ea164 : ((q : Int)).toNat = q := by omega
          have pa164 : (0 : Int) ≤ (q : Int) := by omega
          have ba164 : (q : Int) < (d.size : Int) := by omega
          have ra164 : IntKind.i64.wrap ((q : Int)) = (q : Int) := by rw [IntKind.wrap_i64]; omega
          have ec164 : ((c : Int)).toNat = c := by omega
          have pc164 : (0 : Int) ≤ (c : Int) := by omega
          have bc164 : (c : Int) < (d.size : Int) := by omega
          have rc164 : IntKind.i64.wrap ((c : Int)) = (c : Int) := by rw [IntKind.wrap_i64]; omega
          obtain ⟨x164, hx164⟩ : ∃ x, x = dk[q]! := ⟨_, rfl⟩
          obtain ⟨y164, hy164⟩ : ∃ x, x = dk[c]! := ⟨_, rfl⟩
          have l164a := S1.out.ld R (by omega) P (q) (by omega)
          have l164b := S1.out.ld R (by omega) P (c) (by omega)
          rw [← hx164] at l164a
          rw [← hy164] at l164b
          have hc164 := S1.out.cmp HC.out (by omega) x164 y164
          have hv164 : cf x164 y164 < 0 := by rw [hx164, hy164]; exact of_decide_eq_true hT'
          have hd164 : decide (cf x164 y164 < 0) = true := decide_eq_true hv164
          clear hx164 hy164
          go_wp2_with fail
          go_quiet_grown (first | (go_at_fn g; refine Calls.grown_of (hc164 _ _)))
          have S2 : Aside (SWK enc k w0 blk off dk (grow (wr.drewN nq) osq)) := S1.out.grown nq osq
          clear l164a l164b hc164 S1
          generalize grow (wr.drewN nq) osq = w2 at S2 ⊢
          clear nq osq
          clear ea164 pa164 ba164 ra164 ec164 pc164 bc164 rc164
          have S3 : Aside (SWK enc k w0 blk off d w2) := by have := S2.out; rwa [HDK.out] at this
          clear S2 HDK hT'
          go_wp2_with fail
          have HE2 : Aside ((st = s0 ∨ ltOf cf d[mid + m - st]! d[st - 1]! = false) ∧ (c = r0 ∨ ltOf cf d[mid + m - 1 - c]! d[c]! = true)) := ⟨HE.out.1, .inr (by rw [HQ.out]; exact hT)⟩
          go_roundg (c - st)
          case measure => omega
          case rel => exact ⟨st, c, rfl, by go_num, by omega, by omega, by omega, Nat.le_refl _, S3, HE2⟩
      · obtain rfl : st = r := by omega
        obtain ⟨en, hen⟩ : ∃ q, q = mid + m - st := ⟨_, rfl⟩
        have hen1 : en + st ≤ mid + m := by omega
        have hen2 : mid + m ≤ en + st := by omega
        have een : (mid : Int) + (m : Int) - (st : Int) = (en : Int) := by omega
        obtain ⟨X1, X2, Y1, Y2, lX1, lX2, lY1, lY2, PS⟩ : ∃ X1 X2 Y1 Y2 : List α, X1.length = st - a ∧ X2.length = m - st ∧ Y1.length = en - m ∧ Y2.length = b - en ∧ Aside (d.toList = (A ++ X1) ++ X2 ++ Y1 ++ (Y2 ++ B) ∧ Sorted (ltOf cf) X1 ∧ Sorted (ltOf cf) X2 ∧ Sorted (ltOf cf) Y1 ∧ Sorted (ltOf cf) Y2 ∧ A.length = a ∧ X.length + Y.length = b - a ∧ Z = A ++ isort (ltOf cf) (X1 ++ Y1) ++ isort (ltOf cf) (X2 ++ Y2) ++ B) := by
          obtain ⟨q1, q2, q3, q4, q5, q6⟩ := QS.out
          obtain ⟨p1, p2⟩ := HE.out
          have p3 := HS0.out
          have p4 := HR0.out
          have ex : ∀ t, t < X.length → d[a + t]! = X[t]! := fun t ht => get_at (A := A) (X := X) (B := Y ++ B) (by rw [q1]; simp) t ht (by omega)
          have ey : ∀ t, t < Y.length → d[m + t]! = Y[t]! := fun t ht => get_at (A := A ++ X) (X := Y) (B := B) q1 t ht (by rw [List.length_append]; omega)
          have hcut := sym_cut H q5 q6 (st - a) (en - m) (by
            rcases p1 with h | h
            · rcases p3 with h' | h'
              · exact .inl (by omega)
              · exact .inr (.inl (by omega))
            · by_cases z1 : st = a
              · exact .inl (by omega)
              · by_cases z2 : b ≤ en
                · exact .inr (.inl (by omega))
                · right; right
                  have y1 := ey (en - m) (by omega)
                  have x1 := ex (st - a - 1) (by omega)
                  rw [show m + (en - m) = mid + m - st by omega] at y1
                  rw [show a + (st - a - 1) = st - 1 by omega] at x1
                  rw [← y1, ← x1]; exact h) (by
            rcases p2 with h | h
            · rcases p4 with h' | h'
              · exact .inl (by omega)
              · exact .inr (.inl (by omega))
            · by_cases z1 : m ≤ st
              · exact .inl (by omega)
              · by_cases z2 : en = m
                · exact .inr (.inl (by omega))
                · right; right
                  have y1 := ey (en - m - 1) (by omega)
                  have x1 := ex (st - a) (by omega)
                  rw [show m + (en - m - 1) = mid + m - 1 - st by omega] at y1
                  rw [show a + (st - a) = st by omega] at x1
                  rw [← y1, ← x1]; exact h) (by omega) (by omega)
          have sx := sorted_app.1 (show Sorted (ltOf cf) (X.take (st - a) ++ X.drop (st - a)) by rw [List.take_append_drop]; exact q5)
          have sy := sorted_app.1 (show Sorted (ltOf cf) (Y.take (en - m) ++ Y.drop (en - m)) by rw [List.take_append_drop]; exact q6)
          refine ⟨X.take (st - a), X.drop (st - a), Y.take (en - m), Y.drop (en - m), by rw [List.length_take]; omega, by rw [List.length_drop]; omega, by rw [List.length_take]; omega, by rw [List.length_drop]; omega, ⟨?_, sx.1, sx.2.1, sy.1, sy.2.1, q2.symm, by omega, ?_⟩⟩
          · rw [q1]
            have e1 : X = X.take (st - a) ++ X.drop (st - a) := (List.take_append_drop _ _).symm
            have e2 : Y = Y.take (en - m) ++ Y.drop (en - m) := (List.take_append_drop _ _).symm
            conv => lhs; rw [e1, e2]
            simp only [List.append_assoc]
          · rw [← HZ.out, hcut]; simp only [List.append_assoc]
        clear HE HS0 HR0 QS HZ hen
        by_cases h1 : st < m
        · by_cases h2 : m < en
          · by_cases h3 : a < st
            · by_cases h5 : en < b
              · skip
                have g1 : (st : Int) < (m : Int) := by omega
                have g2 : (m : Int) < (en : Int) := by omega
                have g3 : (a : Int) < (st : Int) := by omega
                have g4 : (st : Int) < (mid : Int) := by omega
                have g5 : (mid : Int) < (en : Int) := by omega
                have g6 : (en : Int) < (b : Int) := by omega
                have hcall := rotate_any L enc g cb blk off cap st m en d0 d w0 wr R hs S1.out hsz (A ++ X1) X2 Y1 (Y2 ++ B) PS.out.1 (by rw [List.length_append, PS.out.2.2.2.2.2.1]; omega) (by omega) (by omega) (by omega) (by omega)
                go_wp2_with fail
                refine hcall.mono ?_
                rintro e w5 ⟨rfl, d1, hs1, hl1, S5⟩
                have HL1 : Aside (d1.toList = A ++ X1 ++ Y1 ++ (X2 ++ Y2 ++ B)) := by show _ = _; rw [hl1]; simp only [List.append_assoc]
                have S3 : Aside (SWK enc k w0 blk off d1 w5) := S5
                clear hcall hl1 S5 S1
                have hcall := IH.out a st mid d1 w5 A X1 Y1 (X2 ++ Y2 ++ B) (by rw [PS.out.2.2.2.2.2.2.1]; omega) hs1 S3.out HL1.out PS.out.2.2.2.2.2.1.symm (by omega) (by omega) (by omega) (by omega) PS.out.2.1 PS.out.2.2.2.1
                unfold MergesTo at hcall
                go_wp2_with fail
                refine hcall.mono ?_
                rintro e w6 ⟨rfl, d2, hs2, hl2, S6⟩
                have HL2 : Aside (d2.toList = A ++ isort (ltOf cf) (X1 ++ Y1) ++ (X2 ++ Y2 ++ B)) := hl2
                have S4 : Aside (SWK enc k w0 blk off d2 w6) := S6
                clear hcall hl2 S6 S3
                have hcall := IH.out mid en b d2 w6 (A ++ isort (ltOf cf) (X1 ++ Y1)) X2 Y2 B (by rw [PS.out.2.2.2.2.2.2.1]; omega) hs2 S4.out (by rw [HL2.out]; simp only [List.append_assoc]) (by rw [List.length_append, isort_len, List.length_append, PS.out.2.2.2.2.2.1]; omega) (by omega) (by omega) (by omega) (by omega) PS.out.2.2.1 PS.out.2.2.2.2.1
                unfold MergesTo at hcall
                go_wp2_with fail
                refine hcall.mono ?_
                rintro e w7 ⟨rfl, d3, hs3, hl3, S7⟩
                have S8 : Aside (SWK enc k w0 blk off d3 w7) := S7
                clear hcall S7 S4
                go_wp2_with fail
                go_end0
                exact ⟨rfl, d3, hs3, by rw [hl3, PS.out.2.2.2.2.2.2.2], S8.out⟩
              · skip
                have g1 : (st : Int) < (m : Int) := by omega
                have g2 : (m : Int) < (en : Int) := by omega
                have g3 : (a : Int) < (st : Int) := by omega
                have g4 : (st : Int) < (mid : Int) := by omega
                have g5 : (mid : Int) < (en : Int) := by omega
                have g6 : ¬ (en : Int) < (b : Int) := by omega
                have hcall := rotate_any L enc g cb blk off cap st m en d0 d w0 wr R hs S1.out hsz (A ++ X1) X2 Y1 (Y2 ++ B) PS.out.1 (by rw [List.length_append, PS.out.2.2.2.2.2.1]; omega) (by omega) (by omega) (by omega) (by omega)
                go_wp2_with fail
                refine hcall.mono ?_
                rintro e w5 ⟨rfl, d1, hs1, hl1, S5⟩
                have HL1 : Aside (d1.toList = A ++ X1 ++ Y1 ++ (X2 ++ Y2 ++ B)) := by show _ = _; rw [hl1]; simp only [List.append_assoc]
                have S3 : Aside (SWK enc k w0 blk off d1 w5) := S5
                clear hcall hl1 S5 S1
                have hcall := IH.out a st mid d1 w5 A X1 Y1 (X2 ++ Y2 ++ B) (by rw [PS.out.2.2.2.2.2.2.1]; omega) hs1 S3.out HL1.out PS.out.2.2.2.2.2.1.symm (by omega) (by omega) (by omega) (by omega) PS.out.2.1 PS.out.2.2.2.1
                unfold MergesTo at hcall
                go_wp2_with fail
                refine hcall.mono ?_
                rintro e w6 ⟨rfl, d2, hs2, hl2, S6⟩
                have HL2 : Aside (d2.toList = A ++ isort (ltOf cf) (X1 ++ Y1) ++ (X2 ++ Y2 ++ B)) := hl2
                have S4 : Aside (SWK enc k w0 blk off d2 w6) := S6
                clear hcall hl2 S6 S3
                go_wp2_with fail
                go_end0
                exact ⟨rfl, d2, hs2, by rw [HL2.out, PS.out.2.2.2.2.2.2.2, isort_none H PS.out.2.2.1 PS.out.2.2.2.2.1 (by omega)]; simp only [List.append_assoc], S4.out⟩
            · by_cases h5 : en < b
              · skip
                have g1 : (st : Int) < (m : Int) := by omega
                have g2 : (m : Int) < (en : Int) := by omega
                have g3 : ¬ (a : Int) < (st : Int) := by omega
                have g5 : (mid : Int) < (en : Int) := by omega
                have g6 : (en : Int) < (b : Int) := by omega
                have hcall := rotate_any L enc g cb blk off cap st m en d0 d w0 wr R hs S1.out hsz (A ++ X1) X2 Y1 (Y2 ++ B) PS.out.1 (by rw [List.length_append, PS.out.2.2.2.2.2.1]; omega) (by omega) (by omega) (by omega) (by omega)
                go_wp2_with fail
                refine hcall.mono ?_
                rintro e w5 ⟨rfl, d1, hs1, hl1, S5⟩
                have HL1 : Aside (d1.toList = A ++ X1 ++ Y1 ++ (X2 ++ Y2 ++ B)) := by show _ = _; rw [hl1]; simp only [List.append_assoc]
                have S3 : Aside (SWK enc k w0 blk off d1 w5) := S5
                clear hcall hl1 S5 S1
                have HL2 : Aside (d1.toList = A ++ isort (ltOf cf) (X1 ++ Y1) ++ (X2 ++ Y2 ++ B)) := by
                  show _ = _
                  rw [HL1.out, isort_none H PS.out.2.1 PS.out.2.2.2.1 (by omega)]; simp only [List.append_assoc]
                have hcall := IH.out mid en b d1 w5 (A ++ isort (ltOf cf) (X1 ++ Y1)) X2 Y2 B (by rw [PS.out.2.2.2.2.2.2.1]; omega) hs1 S3.out (by rw [HL2.out]; simp only [List.append_assoc]) (by rw [List.length_append, isort_len, List.length_append, PS.out.2.2.2.2.2.1]; omega) (by omega) (by omega) (by omega) (by omega) PS.out.2.2.1 PS.out.2.2.2.2.1
                unfold MergesTo at hcall
                go_wp2_with fail
                refine hcall.mono ?_
                rintro e w7 ⟨rfl, d3, hs3, hl3, S7⟩
                have S8 : Aside (SWK enc k w0 blk off d3 w7) := S7
                clear hcall S7 S3
                go_wp2_with fail
                go_end0
                exact ⟨rfl, d3, hs3, by rw [hl3, PS.out.2.2.2.2.2.2.2], S8.out⟩
              · skip
                have g1 : (st : Int) < (m : Int) := by omega
                have g2 : (m : Int) < (en : Int) := by omega
                have g3 : ¬ (a : Int) < (st : Int) := by omega
                have g5 : (mid : Int) < (en : Int) := by omega
                have g6 : ¬ (en : Int) < (b : Int) := by omega
                have hcall := rotate_any L enc g cb blk off cap st m en d0 d w0 wr R hs S1.out hsz (A ++ X1) X2 Y1 (Y2 ++ B) PS.out.1 (by rw [List.length_append, PS.out.2.2.2.2.2.1]; omega) (by omega) (by omega) (by omega) (by omega)
                go_wp2_with fail
                refine hcall.mono ?_
                rintro e w5 ⟨rfl, d1, hs1, hl1, S5⟩
                have HL1 : Aside (d1.toList = A ++ X1 ++ Y1 ++ (X2 ++ Y2 ++ B)) := by show _ = _; rw [hl1]; simp only [List.append_assoc]
                have S3 : Aside (SWK enc k w0 blk off d1 w5) := S5
                clear hcall hl1 S5 S1
                have HL2 : Aside (d1.toList = A ++ isort (ltOf cf) (X1 ++ Y1) ++ (X2 ++ Y2 ++ B)) := by
                  show _ = _
                  rw [HL1.out, isort_none H PS.out.2.1 PS.out.2.2.2.1 (by omega)]; simp only [List.append_assoc]
                go_wp2_with fail
                go_end0
                exact ⟨rfl, d1, hs1, by rw [HL2.out, PS.out.2.2.2.2.2.2.2, isort_none H PS.out.2.2.1 PS.out.2.2.2.2.1 (by omega)]; simp only [List.append_assoc], S3.out⟩
          · by_cases h3 : a < st
            · skip
              have g1 : (st : Int) < (m : Int) := by omega
              have g2 : ¬ (m : Int) < (en : Int) := by omega
              have g3 : (a : Int) < (st : Int) := by omega
              have g4 : ¬ (st : Int) < (mid : Int) := by omega
              have g5 : (mid : Int) < (en : Int) := by omega
              have g6 : (en : Int) < (b : Int) := by omega
              have HL1 : Aside (d.toList = A ++ X1 ++ Y1 ++ (X2 ++ Y2 ++ B)) := by
                show _ = _
                have he : X2.length = 0 ∨ Y1.length = 0 := by omega
                rw [PS.out.1]
                rcases he with he | he
                · obtain rfl := List.length_eq_zero_iff.1 he; simp only [List.append_assoc, List.nil_append]
                · obtain rfl := List.length_eq_zero_iff.1 he; simp only [List.append_assoc, List.nil_append]
              have HL2 : Aside (d.toList = A ++ isort (ltOf cf) (X1 ++ Y1) ++ (X2 ++ Y2 ++ B)) := by
                show _ = _
                rw [HL1.out, isort_none H PS.out.2.1 PS.out.2.2.2.1 (by omega)]; simp only [List.append_assoc]
              have hcall := IH.out mid en b d wr (A ++ isort (ltOf cf) (X1 ++ Y1)) X2 Y2 B (by rw [PS.out.2.2.2.2.2.2.1]; omega) rfl S1.out (by rw [HL2.out]; simp only [List.append_assoc]) (by rw [List.length_append, isort_len, List.length_append, PS.out.2.2.2.2.2.1]; omega) (by omega) (by omega) (by omega) (by omega) PS.out.2.2.1 PS.out.2.2.2.2.1
              unfold MergesTo at hcall
              go_wp2_with fail
              refine hcall.mono ?_
              rintro e w7 ⟨rfl, d3, hs3, hl3, S7⟩
              have S8 : Aside (SWK enc k w0 blk off d3 w7) := S7
              clear hcall S7 S1
              go_wp2_with fail
              go_end0
              exact ⟨rfl, d3, hs3, by rw [hl3, PS.out.2.2.2.2.2.2.2], S8.out⟩
            · skip
              have g1 : (st : Int) < (m : Int) := by omega
              have g2 : ¬ (m : Int) < (en : Int) := by omega
              have g3 : ¬ (a : Int) < (st : Int) := by omega
              have g5 : (mid : Int) < (en : Int) := by omega
              have g6 : (en : Int) < (b : Int) := by omega
              have HL1 : Aside (d.toList = A ++ X1 ++ Y1 ++ (X2 ++ Y2 ++ B)) := by
                show _ = _
                have he : X2.length = 0 ∨ Y1.length = 0 := by omega
                rw [PS.out.1]
                rcases he with he | he
                · obtain rfl := List.length_eq_zero_iff.1 he; simp only [List.append_assoc, List.nil_append]
                · obtain rfl := List.length_eq_zero_iff.1 he; simp only [List.append_assoc, List.nil_append]
              have HL2 : Aside (d.toList = A ++ isort (ltOf cf) (X1 ++ Y1) ++ (X2 ++ Y2 ++ B)) := by
                show _ = _
                rw [HL1.out, isort_none H PS.out.2.1 PS.out.2.2.2.1 (by omega)]; simp only [List.append_assoc]
              have hcall := IH.out mid en b d wr (A ++ isort (ltOf cf) (X1 ++ Y1)) X2 Y2 B (by rw [PS.out.2.2.2.2.2.2.1]; omega) rfl S1.out (by rw [HL2.out]; simp only [List.append_assoc]) (by rw [List.length_append, isort_len, List.length_append, PS.out.2.2.2.2.2.1]; omega) (by omega) (by omega) (by omega) (by omega) PS.out.2.2.1 PS.out.2.2.2.2.1
              unfold MergesTo at hcall
              go_wp2_with fail
              refine hcall.mono ?_
              rintro e w7 ⟨rfl, d3, hs3, hl3, S7⟩
              have S8 : Aside (SWK enc k w0 blk off d3 w7) := S7
              clear hcall S7 S1
              go_wp2_with fail
              go_end0
              exact ⟨rfl, d3, hs3, by rw [hl3, PS.out.2.2.2.2.2.2.2], S8.out⟩
        · by_cases h3 : st < mid
          · skip
            have g1 : ¬ (st : Int) < (m : Int) := by omega
            have g3 : (a : Int) < (st : Int) := by omega
            have g5 : ¬ (mid : Int) < (en : Int) := by omega
            have g4 : (st : Int) < (mid : Int) := by omega
            have HL1 : Aside (d.toList = A ++ X1 ++ Y1 ++ (X2 ++ Y2 ++ B)) := by
              show _ = _
              have he : X2.length = 0 ∨ Y1.length = 0 := by omega
              rw [PS.out.1]
              rcases he with he | he
              · obtain rfl := List.length_eq_zero_iff.1 he; simp only [List.append_assoc, List.nil_append]
              · obtain rfl := List.length_eq_zero_iff.1 he; simp only [List.append_assoc, List.nil_append]
            have hcall := IH.out a st mid d wr A X1 Y1 (X2 ++ Y2 ++ B) (by rw [PS.out.2.2.2.2.2.2.1]; omega) rfl S1.out HL1.out PS.out.2.2.2.2.2.1.symm (by omega) (by omega) (by omega) (by omega) PS.out.2.1 PS.out.2.2.2.1
            unfold MergesTo at hcall
            go_wp2_with fail
            refine hcall.mono ?_
            rintro e w6 ⟨rfl, d2, hs2, hl2, S6⟩
            have HL2 : Aside (d2.toList = A ++ isort (ltOf cf) (X1 ++ Y1) ++ (X2 ++ Y2 ++ B)) := hl2
            have S4 : Aside (SWK enc k w0 blk off d2 w6) := S6
            clear hcall hl2 S6 S1
            go_wp2_with fail
            go_end0
            exact ⟨rfl, d2, hs2, by rw [HL2.out, PS.out.2.2.2.2.2.2.2, isort_none H PS.out.2.2.1 PS.out.2.2.2.2.1 (by omega)]; simp only [List.append_assoc], S4.out⟩
          · skip
            have g1 : ¬ (st : Int) < (m : Int) := by omega
            have g3 : (a : Int) < (st : Int) := by omega
            have g5 : ¬ (mid : Int) < (en : Int) := by omega
            have g4 : ¬ (st : Int) < (mid : Int) := by omega
            have HL1 : Aside (d.toList = A ++ X1 ++ Y1 ++ (X2 ++ Y2 ++ B)) := by
              show _ = _
              have he : X2.length = 0 ∨ Y1.length = 0 := by omega
              rw [PS.out.1]
              rcases he with he | he
              · obtain rfl := List.length_eq_zero_iff.1 he; simp only [List.append_assoc, List.nil_append]
              · obtain rfl := List.length_eq_zero_iff.1 he; simp only [List.append_assoc, List.nil_append]
            have HL2 : Aside (d.toList = A ++ isort (ltOf cf) (X1 ++ Y1) ++ (X2 ++ Y2 ++ B)) := by
              show _ = _
              rw [HL1.out, isort_none H PS.out.2.1 PS.out.2.2.2.1 (by omega)]; simp only [List.append_assoc]
            go_wp2_with fail
            go_end0
            exact ⟨rfl, d, rfl, by rw [HL2.out, PS.out.2.2.2.2.2.2.2, isort_none H PS.out.2.2.1 PS.out.2.2.2.2.1 (by omega)]; simp only [List.append_assoc], S1.out⟩
theorem symMerge_any {k : Nat} (L : Lays P k) (enc : α → List Value) (cf : α → α → Int) (g : Nat) (cb : Array Value) (blk off cap : Nat) (d0 : Array α) (w0 : World) (size : Nat) (H : Wo (ltOf cf))
    (eg : ∀ args w, (callFunc g args).run P w = .ok (.enter g args) w) (hcmp : CmpLays P g cb enc k cf blk off d0.size w0)
    (R : RowK enc k w0 blk off d0) (hs : d0.size = size) (hsz : size < 4611686018427387904) (N : Nat) :
    ∀ (a m b : Nat) (d : Array α) (w : World) (A X Y B : List α), X.length + Y.length < N → d.size = size → SWK enc k w0 blk off d w → d.toList = A ++ X ++ Y ++ B → a = A.length → m = a + X.length → b = m + Y.length → 0 < X.length → 0 < Y.length → Sorted (ltOf cf) X → Sorted (ltOf cf) Y → MergesTo P enc k cf g cb blk off cap w0 size a m b d w A X Y B := by
  induction N with
  | zero => intro a m b d w A X Y B h; omega
  | succ N ih =>
    intro a m b d w A X Y B hN hds S hd ha hm hb hX hY hsX hsY
    subst hds
    by_cases h1 : X.length = 1
    · obtain ⟨x, rfl⟩ := List.length_eq_one_iff.1 h1
      exact symFirst_any L enc cf g cb blk off cap a m b d0 d w0 w H eg hcmp R hs S hsz A Y B x (by rw [hd]; simp) ha (by rw [hm]; simp) hb hY hsY
    · by_cases h2 : Y.length = 1
      · obtain ⟨y, rfl⟩ := List.length_eq_one_iff.1 h2
        exact symLast_any L enc cf g cb blk off cap a m b d0 d w0 w H eg hcmp R hs S hsz A X B y (by rw [hd]; simp) ha hm (by rw [hb]; simp) (by omega) hsX
      · exact symRound_any L enc cf g cb blk off cap a m b d0 d w0 w H eg hcmp R hs S hsz A X Y B hd ha hm hb (by omega) (by omega) hsX hsY
          (fun a' m' b' d' w' A' X' Y' B' hl => ih a' m' b' d' w' A' X' Y' B' (by omega))
end Go.Proofs.YthpecpkncifngaaDoor.So
end

/- The contract of slices.stableCmpFunc at elements of k cells: the list stably sorted. -/
section
namespace Go.Proofs.YthpecpkncifngaaDoor.So
open Go Go.Proofs Go.Shelf Go.RowKit Go.Lib Go.Sort
variable {P : Program} {α : Type} [Inhabited α]
def InsertsTo (P : Program) (enc : α → List Value) (k : Nat) (cf : α → α → Int) (g : Nat) (cb : Array Value) (blk off cap : Nat) (w0 : World) (size : Nat) : Prop :=
  ∀ (a b : Nat) (d : Array α) (w : World) (A X B : List α), d.size = size → SWK enc k w0 blk off d w → d.toList = A ++ X ++ B → a = A.length → b = a + X.length →
  Calls P 109 #[.slice (some ⟨blk, off, none⟩) size cap, .int .i64 a, .int .i64 b, .func (.func g) #[] cb] w fun e w' =>
      e = .returned (.tuple #[]) ∧ ∃ dk : Array α, dk.size = size ∧ dk.toList = A ++ isort (ltOf cf) X ++ B ∧ SWK enc k w0 blk off dk w'
set_option maxHeartbeats 8000000 in
set_option maxRecDepth 1000000 in
theorem stable_any {k : Nat} (L : Lays P k) (enc : α → List Value) (cf : α → α → Int) (g : Nat) (cb : Array Value) (blk off cap : Nat) (d0 d : Array α) (w0 w : World) (H : Wo (ltOf cf))
    (eg : ∀ args w, (callFunc g args).run P w = .ok (.enter g args) w) (hcmp : CmpLays P g cb enc k cf blk off d0.size w0)
    (R : RowK enc k w0 blk off d0) (hs : d0.size = d.size) (S : SWK enc k w0 blk off d w) (hsz : d.size < 1152921504606846976) (hins : InsertsTo P enc k cf g cb blk off cap w0 d.size) :
    Calls P 94 #[.slice (some ⟨blk, off, none⟩) d.size cap, .int .i64 d.size, .func (.func g) #[] cb] w fun e w' =>
      e = .returned (.tuple #[]) ∧ ∃ dk : Array α, dk.size = d.size ∧ dk.toList = isort (ltOf cf) d.toList ∧ SWK enc k w0 blk off dk w' := by
  have mixed := L.mixed; have t0 := L.t0; have a0 := L.a0; have z0 := L.z0; have v0 := L.v0; have t3 := L.t3; have a3 := L.a3; have z3 := L.z3; have v3 := L.v3; have t104 := L.t104; have t4 := L.t4; have a4 := L.a4; have z4 := L.z4; have v4 := L.v4; have t22 := L.t22; have a22 := L.a22; have z22 := L.z22; have v22 := L.v22; have aE := L.aE; have zE := L.zE
  have FG := L.fst
  have esym : ∀ args w, (callFunc 110 args).run P w = .ok (.enter 110 args) w := enters_of L.fsym (by decide) rfl
  have eins : ∀ args w, (callFunc 109 args).run P w = .ok (.enter 109 args) w := L.fins
  have INS : Aside _ := hins
  have MER : Aside _ := fun (a m b : Nat) (d' : Array α) (w' : World) (A X Y B : List α) (h1 : d'.size = d.size) (h2 : SWK enc k w0 blk off d' w') => symMerge_any L enc cf g cb blk off cap d0 w0 d.size H eg hcmp R hs (by omega) (X.length + Y.length + 1) a m b d' w' A X Y B (Nat.lt_succ_self _) h1 h2
  obtain ⟨xs, hxs⟩ : ∃ xs, xs = d.toList := ⟨_, rfl⟩
  have hn1 : xs.length ≤ d.size := by rw [hxs, Array.length_toList]; exact Nat.le_refl _
  have hn2 : d.size ≤ xs.length := by rw [hxs, Array.length_toList]; exact Nat.le_refl _
  have HXS : Aside (d.toList = xs) := hxs.symm
  rw [← hxs]
  have S0 : Aside (SWK enc k w0 blk off d w) := S
  clear S hins hcmp hxs
  go_enter FG, Tryd.ntmps94
  go_wp2
  go_loopg [7, 8] d.size (fun kx s7 s8 wr => ∃ (a : Nat) (dk : Array α) (D : List α), s7 = .int .i64 a ∧ s8 = .int .i64 ((a : Int) + 20) ∧ a ≤ d.size ∧ d.size - a ≤ kx ∧ dk.size = d.size ∧ Aside (SWK enc k w0 blk off dk wr) ∧ Aside (dk.toList = D ++ xs.drop a ∧ D.length = a ∧ D ++ blocks (lt := ltOf cf) 20 (xs.drop a) = blocks (lt := ltOf cf) 20 xs))
  case atStart => exact ⟨0, d, [], rfl, by go_num, Nat.zero_le _, Nat.le_refl _, rfl, S0, by show _ ∧ _ ∧ _; exact ⟨by rw [HXS.out]; rfl, rfl, rfl⟩⟩
  case round =>
    clear S0
    obtain ⟨a, dk, D, rfl, rfl, had, hkx, hds, S1, HE⟩ := hrel
    by_cases hlt : a + 20 ≤ d.size
    · have hltz : (a : Int) + 20 ≤ (d.size : Int) := by omega
      have hcall := INS.out a (a + 20) dk wr D ((xs.drop a).take 20) ((xs.drop a).drop 20) hds S1.out (by rw [HE.out.1, List.append_assoc, List.take_append_drop]) HE.out.2.1.symm (by rw [List.length_take, List.length_drop]; omega)
      have e20 : ((a + 20 : Nat) : Int) = (a : Int) + 20 := by omega
      rw [e20] at hcall
      clear S1 e20
      go_wp2_with fail
      refine hcall.mono ?_
      rintro e w1 ⟨rfl, dk1, hs1, hl1, S3⟩
      have S4 : Aside (SWK enc k w0 blk off dk1 w1) := S3
      have HE2 : Aside (dk1.toList = (D ++ isort (ltOf cf) ((xs.drop a).take 20)) ++ xs.drop (a + 20) ∧ (D ++ isort (ltOf cf) ((xs.drop a).take 20)).length = a + 20 ∧ (D ++ isort (ltOf cf) ((xs.drop a).take 20)) ++ blocks (lt := ltOf cf) 20 (xs.drop (a + 20)) = blocks (lt := ltOf cf) 20 xs) := by
        refine ⟨by rw [hl1, List.drop_drop], by rw [List.length_append, isort_len, List.length_take, List.length_drop, HE.out.2.1]; omega, ?_⟩
        have := HE.out.2.2
        rw [blocks_go (by omega) (by rw [List.length_drop]; omega), List.drop_drop] at this
        rw [← this]; simp only [List.append_assoc]
      clear hcall S3 hl1 HE
      go_wp2_with fail
      go_roundg (d.size - (a + 20))
      case measure => omega
      case rel => exact ⟨a + 20, dk1, D ++ isort (ltOf cf) ((xs.drop a).take 20), by go_num, by go_num, by omega, Nat.le_refl _, hs1, S4, HE2⟩
    · have hltz : ¬ (a : Int) + 20 ≤ (d.size : Int) := by omega
      have hcall := INS.out a d.size dk wr D (xs.drop a) [] hds S1.out (by rw [HE.out.1]; simp) HE.out.2.1.symm (by rw [List.length_drop]; omega)
      have HB : Aside (D ++ isort (ltOf cf) (xs.drop a) ++ [] = blocks (lt := ltOf cf) 20 xs) := by
        show _ = _
        rw [← HE.out.2.2, blocks_end (by rw [List.length_drop]; omega)]; simp
      clear S1 HE
      go_wp2_with fail
      refine hcall.mono ?_
      rintro e w1 ⟨rfl, dk1, hs1, hl1, S3⟩
      have S4 : Aside (SWK enc k w0 blk off dk1 w1) := S3
      have HL : Aside (dk1.toList = blocks (lt := ltOf cf) 20 xs) := by show _ = _; rw [hl1, HB.out]
      clear hcall S3 hl1 HB had hkx hlt hltz hds
      go_wp2_with fail
      go_loopg [6] d.size (fun kx s6 wr => ∃ (s : Nat) (dk : Array α), s6 = .int .i64 s ∧ 20 ≤ s ∧ s ≤ 2 * d.size + 20 ∧ d.size - s ≤ kx ∧ dk.size = d.size ∧ Aside (SWK enc k w0 blk off dk wr) ∧ Aside (dk.toList = blocks (lt := ltOf cf) s xs))
      case atStart => exact ⟨20, dk1, rfl, Nat.le_refl _, by omega, by omega, hs1, S4, HL⟩
      case round =>
        clear S4 HL hs1
        obtain ⟨s, dk2, rfl, hs20, hs2n, hkx, hds, S1, HE⟩ := hrel
        by_cases hlt : s < d.size
        · have hltz : (s : Int) < (d.size : Int) := by omega
          go_wp2_with fail
          go_loopg [7, 8] d.size (fun kx s7 s8 wr => ∃ (a : Nat) (dk : Array α) (D : List α), s7 = .int .i64 a ∧ s8 = .int .i64 ((a : Int) + 2 * (s : Int)) ∧ a ≤ d.size ∧ d.size - a ≤ kx ∧ dk.size = d.size ∧ Aside (SWK enc k w0 blk off dk wr) ∧ Aside (dk.toList = D ++ blocks (lt := ltOf cf) s (xs.drop a) ∧ D.length = a ∧ D ++ blocks (lt := ltOf cf) (2 * s) (xs.drop a) = blocks (lt := ltOf cf) (2 * s) xs))
          case atStart => exact ⟨0, dk2, [], rfl, by go_num, Nat.zero_le _, Nat.le_refl _, hds, S1, by show _ ∧ _ ∧ _; exact ⟨by rw [HE.out]; rfl, rfl, rfl⟩⟩
          case round =>
            clear S1 HE hds
            obtain ⟨a, dk3, D, rfl, rfl, had, hkx3, hds, S1, HE⟩ := hrel
            by_cases hlt2 : a + 2 * s ≤ d.size
            · have hltz2 : (a : Int) + 2 * (s : Int) ≤ (d.size : Int) := by omega
              have hsp := blocks_split (lt := ltOf cf) (s := s) (xs := xs.drop a) (by omega) (by rw [List.length_drop]; omega)
              have hcall := MER.out a (a + s) (a + 2 * s) dk3 wr D (isort (ltOf cf) ((xs.drop a).take s)) (isort (ltOf cf) (((xs.drop a).drop s).take s)) (blocks (lt := ltOf cf) s ((xs.drop a).drop (2 * s))) hds S1.out (by rw [HE.out.1, hsp]; simp only [List.append_assoc]) HE.out.2.1.symm (by rw [isort_len, List.length_take, List.length_drop]; omega) (by rw [isort_len, List.length_take, List.length_drop, List.length_drop]; omega) (by rw [isort_len, List.length_take, List.length_drop]; omega) (by rw [isort_len, List.length_take, List.length_drop, List.length_drop]; omega) (isort_sorted H _) (isort_sorted H _)
              unfold MergesTo at hcall
              have e1 : ((a + s : Nat) : Int) = (a : Int) + (s : Int) := by omega
              have e2 : ((a + 2 * s : Nat) : Int) = (a : Int) + 2 * (s : Int) := by omega
              rw [e1, e2] at hcall
              clear S1 e1 e2 hsp
              go_wp2_with fail
              refine hcall.mono ?_
              rintro e w1 ⟨rfl, dk4, hs4, hl4, S3⟩
              have S4 : Aside (SWK enc k w0 blk off dk4 w1) := S3
              have HE2 : Aside (dk4.toList = (D ++ isort (ltOf cf) (isort (ltOf cf) ((xs.drop a).take s) ++ isort (ltOf cf) (((xs.drop a).drop s).take s))) ++ blocks (lt := ltOf cf) s (xs.drop (a + 2 * s)) ∧ (D ++ isort (ltOf cf) (isort (ltOf cf) ((xs.drop a).take s) ++ isort (ltOf cf) (((xs.drop a).drop s).take s))).length = a + 2 * s ∧ (D ++ isort (ltOf cf) (isort (ltOf cf) ((xs.drop a).take s) ++ isort (ltOf cf) (((xs.drop a).drop s).take s))) ++ blocks (lt := ltOf cf) (2 * s) (xs.drop (a + 2 * s)) = blocks (lt := ltOf cf) (2 * s) xs) := by
                have hdd : (xs.drop a).drop (2 * s) = xs.drop (a + 2 * s) := List.drop_drop ..
                refine ⟨by rw [hl4, hdd], by rw [List.length_append, isort_len, List.length_append, isort_len, isort_len, List.length_take, List.length_drop, List.length_take, List.length_drop, List.length_drop, HE.out.2.1]; omega, ?_⟩
                have := HE.out.2.2
                rw [blocks_two H (s := s) (by omega) (by rw [List.length_drop]; omega), hdd] at this
                rw [← this]; simp only [List.append_assoc]
              clear hcall S3 hl4 HE
              go_wp2_with fail
              go_roundg (d.size - (a + 2 * s))
              case measure => omega
              case rel => exact ⟨a + 2 * s, dk4, D ++ isort (ltOf cf) (isort (ltOf cf) ((xs.drop a).take s) ++ isort (ltOf cf) (((xs.drop a).drop s).take s)), by go_num, by go_num, by omega, Nat.le_refl _, hs4, S4, HE2⟩
            · have hltz2 : ¬ (a : Int) + 2 * (s : Int) ≤ (d.size : Int) := by omega
              by_cases hm : a + s < d.size
              · have hmz : (a : Int) + (s : Int) < (d.size : Int) := by omega
                obtain ⟨hr1, hr2⟩ := blocks_rest (lt := ltOf cf) H (s := s) (xs := xs.drop a) (by omega) (by rw [List.length_drop]; omega) (by rw [List.length_drop]; omega)
                have hcall := MER.out a (a + s) d.size dk3 wr D (isort (ltOf cf) ((xs.drop a).take s)) (isort (ltOf cf) ((xs.drop a).drop s)) [] hds S1.out (by rw [HE.out.1, hr1]; simp) HE.out.2.1.symm (by rw [isort_len, List.length_take, List.length_drop]; omega) (by rw [isort_len, List.length_drop, List.length_drop]; omega) (by rw [isort_len, List.length_take, List.length_drop]; omega) (by rw [isort_len, List.length_drop, List.length_drop]; omega) (isort_sorted H _) (isort_sorted H _)
                unfold MergesTo at hcall
                have e1 : ((a + s : Nat) : Int) = (a : Int) + (s : Int) := by omega
                rw [e1] at hcall
                have HB : Aside (D ++ isort (ltOf cf) (isort (ltOf cf) ((xs.drop a).take s) ++ isort (ltOf cf) ((xs.drop a).drop s)) ++ [] = blocks (lt := ltOf cf) (2 * s) xs) := by
                  show _ = _
                  rw [← HE.out.2.2, hr2]; simp
                clear S1 e1 hr1 hr2 HE
                go_wp2_with fail
                refine hcall.mono ?_
                rintro e w1 ⟨rfl, dk4, hs4, hl4, S3⟩
                have S4 : Aside (SWK enc k w0 blk off dk4 w1) := S3
                have HL : Aside (dk4.toList = blocks (lt := ltOf cf) (2 * s) xs) := by show _ = _; rw [hl4, HB.out]
                clear hcall S3 hl4 HB
                go_wp2_with fail
                go_roundg (d.size - 2 * s)
                case measure => omega
                case rel => exact ⟨2 * s, dk4, by go_num, by omega, by omega, Nat.le_refl _, hs4, S4, HL⟩
              · have hmz : ¬ (a : Int) + (s : Int) < (d.size : Int) := by omega
                have HL : Aside (dk3.toList = blocks (lt := ltOf cf) (2 * s) xs) := by
                  show _ = _
                  rw [HE.out.1, ← HE.out.2.2, blocks_none (by rw [List.length_drop]; omega)]
                clear HE
                go_wp2_with fail
                go_roundg (d.size - 2 * s)
                case measure => omega
                case rel => exact ⟨2 * s, dk3, by go_num, by omega, by omega, Nat.le_refl _, hds, S1, HL⟩
        · have hltz : ¬ (s : Int) < (d.size : Int) := by omega
          go_wp2_with fail
          go_end0
          exact ⟨rfl, dk2, hds, by rw [HE.out, blocks_end (by omega)], S1.out⟩
end Go.Proofs.YthpecpkncifngaaDoor.So
end

/- The orders '>', '<=', '>=' on strings, as the printed texts spell them. -/
section
namespace Go.Proofs.YthpecpkncifngaaDoor
theorem bytesLess_swap : ∀ (a b : List UInt8), (!(Op.bytesLess a b || a == b)) = Op.bytesLess b a
  | [], [] => rfl
  | [], _ :: _ => rfl
  | _ :: _, [] => rfl
  | x :: a, y :: b => by
    simp only [Op.bytesLess]
    have ih := bytesLess_swap a b
    by_cases h : x = y
    · subst h
      simp
      simpa using ih
    · have h1 : (x == y) = false := by simpa using h
      have h2 : (y == x) = false := by simpa using fun e => h e.symm
      have h3 : ((x :: a) == (y :: b)) = false := by simp [h]
      rw [h1, h2, h3]
      simp only [Bool.false_and, Bool.or_false]
      by_cases h4 : x < y
      · have h5 : ¬ y < x := by rw [UInt8.lt_iff_toNat_lt] at *; omega
        simp [h4, h5]
      · have h5 : y < x := by
          rw [UInt8.lt_iff_toNat_lt] at *
          have : x.toNat ≠ y.toNat := fun e => h (UInt8.toNat_inj.1 e)
          omega
        simp [h4, h5]
theorem bytesLess_swap' (a b : List UInt8) : (Op.bytesLess a b || a == b) = !Op.bytesLess b a := by
  rw [← bytesLess_swap a b, Bool.not_not]
@[go_sem] theorem string_gtr (t : TypeId) (a b : ByteArray) : binOp .gtr t (.string a) (.string b) = pure (.bool (Op.bytesLess b.toList a.toList)) := by
  rw [← bytesLess_swap]
  simp [binOp, Op.stringOp]
@[go_sem] theorem string_leq (t : TypeId) (a b : ByteArray) : binOp .leq t (.string a) (.string b) = pure (.bool (!Op.bytesLess b.toList a.toList)) := by
  rw [← bytesLess_swap']
  simp [binOp, Op.stringOp]
@[go_sem] theorem string_geq (t : TypeId) (a b : ByteArray) : binOp .geq t (.string a) (.string b) = pure (.bool (!Op.bytesLess a.toList b.toList)) := by
  simp [binOp, Op.stringOp]
end Go.Proofs.YthpecpkncifngaaDoor
end

/- Small words beside the print's own. -/
section
namespace Go.Proofs.YthpecpkncifngaaDoorW.PrintWords
theorem bt_atN (s : ByteArray) (n : Nat) : ∀ h : n < s.size, ((s[n]'h).toNat : Int) = bt s (n : Int) := fun h => by simp [bt, h]
end Go.Proofs.YthpecpkncifngaaDoorW.PrintWords
end

/-
  DERIVED: THE SHELF's CONTRACTS AT THIS DUMP, IN PLAIN WORDS (tools/lay-plain.mjs out of 'TrydShelf.lean', which tools/lay-shelf.mjs wrote): THE SAME DECLARATIONS UNDER THE SAME NAMES: 'import', 'namespace', 'open', 'def', 'theorem' AND NOTHING ELSE: no command of the shelf's: FOR A HAND-IN. Each laying: the table of numbers ('.._ren') and one theorem, a field a fact of the dump's own or the kernel's comparison; each contract: ONE APPLICATION.
-/
section
namespace Go.Proofs
open Go.Shelf
def Tryd.lays156_ren : Go.Shelf.Ren := ⟨fun | 156 => 85 | 165 => 102 | 166 => 103 | 169 => 104 | 240 => 119 | 241 => 120 | 276 => 128 | 277 => 129 | n => n, fun | 31 => 60 | 9 => 9 | 3 => 3 | 4 => 4 | 0 => 0 | 20 => 20 | 72 => 122 | 76 => 126 | 70 => 120 | 37 => 24 | 75 => 125 | 127 => 138 | 164 => 143 | 5 => 5 | 80 => 128 | n => n, fun | n => n⟩
theorem Tryd.lays156 : Go.Proofs.Lays.n156 Tryd.prog Tryd.lays156_ren := {
  mixed := by kernel_rfl
  f156 := Tryd.func85.trans (congrArg some (by kernel_rfl))
  f165 := Tryd.func102.trans (congrArg some (by kernel_rfl))
  f166 := Tryd.func103.trans (congrArg some (by kernel_rfl))
  f169 := Tryd.func104.trans (congrArg some (by kernel_rfl))
  f240 := Tryd.func119.trans (congrArg some (by kernel_rfl))
  f241 := Tryd.func120.trans (congrArg some (by kernel_rfl))
  f276 := Tryd.func128.trans (congrArg some (by kernel_rfl))
  f277 := Tryd.func129.trans (congrArg some (by kernel_rfl))
  t0 := Tryd.underlying0
  a0 := Tryd.isAgg0
  z0 := Tryd.sizeOf0
  v0 := Tryd.zeroValue0
  t3 := Tryd.underlying3
  a3 := Tryd.isAgg3
  z3 := Tryd.sizeOf3
  v3 := Tryd.zeroValue3
  t4 := Tryd.underlying4
  a4 := Tryd.isAgg4
  z4 := Tryd.sizeOf4
  v4 := Tryd.zeroValue4
  t9 := Tryd.underlying9
  a9 := Tryd.isAgg9
  z9 := Tryd.sizeOf9
  v9 := Tryd.zeroValue9
  t20 := Tryd.underlying20
  a20 := Tryd.isAgg20
  z20 := Tryd.sizeOf20
  v20 := Tryd.zeroValue20
  t31 := Tryd.underlying60
  a31 := Tryd.isAgg60
  z31 := Tryd.sizeOf60
  v31 := Tryd.zeroValue60
  t37 := Tryd.underlying24
  a37 := Tryd.isAgg24
  z37 := Tryd.sizeOf24
  v37 := Tryd.zeroValue24
  t70 := Tryd.underlying120
  a70 := Tryd.isAgg120
  z70 := Tryd.sizeOf120
  v70 := Tryd.zeroValue120
  t72 := Tryd.underlying122
  a72 := Tryd.isAgg122
  z72 := Tryd.sizeOf122
  v72 := Tryd.zeroValue122
  t75 := Tryd.underlying125
  a75 := Tryd.isAgg125
  z75 := Tryd.sizeOf125
  v75 := Tryd.zeroValue125
  t76 := Tryd.underlying126
  a76 := Tryd.isAgg126
  z76 := Tryd.sizeOf126
  v76 := Tryd.zeroValue126
  t127 := Tryd.underlying138
  a127 := Tryd.isAgg138
  z127 := Tryd.sizeOf138
  v127 := Tryd.zeroValue138
  t164 := Tryd.underlying143
  a164 := Tryd.isAgg143
  z164 := Tryd.sizeOf143
  v164 := Tryd.zeroValue143 }
theorem Tryd.Builder_Extra_156 : Builder.Extra Tryd.prog Tryd.lays156_ren := {
  sizeBuilder := by kernel_rfl
  liesBuilder := by kernel_rfl
  t5 := Tryd.underlying5
  a5 := Tryd.isAgg5
  z5 := Tryd.sizeOf5
  v5 := Tryd.zeroValue5
  infoByte := by kernel_rfl
  cellsByte := by kernel_rfl
  sizeByte := by kernel_rfl
  neB5 := by decide }
open Go.RowKit in
theorem Tryd.strings_Join_none (a : Option Addr) (c : Nat) (sep : ByteArray) (w : World) :
    Calls Tryd.prog 85 #[.slice a 0 c, .string sep] w fun e w' => e = .returned (.string ⟨#[]⟩) ∧ w' = w := Any.strings_Join_none Tryd.lays156 Tryd.Builder_Extra_156 a c sep w
open Go.RowKit in
theorem Tryd.strings_Join (bk o c : Nat) (xs : List ByteArray) (sep : ByteArray) (w : World) (hcells : ∀ (j : Nat) x, xs[j]? = some x → w.cell? ⟨bk, o + j, none⟩ = some (.string x)) (hbk : bk < w.heap.size) (hN : xs.length ≤ 140737488355328) (hcap : xs.length ≤ c) (hlen : (Lib.join (xs.map (·.data.toList)) sep.data.toList).length ≤ 140737488355328) :
    Calls Tryd.prog 85 #[.slice (some ⟨bk, o, none⟩) xs.length c, .string sep] w fun e w' => e = .returned (.string ⟨(Lib.join (xs.map (·.data.toList)) sep.data.toList).toArray⟩) ∧ Below w.heap.size w w' := Any.strings_Join Tryd.lays156 Tryd.Builder_Extra_156 bk o c xs sep w hcells hbk hN hcap hlen
def Tryd.lays160_ren : Go.Shelf.Ren := ⟨fun | 160 => 60 | 232 => 87 | 231 => 86 | 227 => 88 | 234 => 90 | 233 => 89 | 236 => 92 | 235 => 91 | 228 => 105 | 271 => 108 | 151 => 107 | 197 => 106 | 120 => 123 | 152 => 122 | 260 => 121 | 137 => 70 | 119 => 130 | 224 => 114 | 225 => 113 | 217 => 95 | 266 => 111 | n => n, fun | 9 => 9 | 4 => 4 | 3 => 3 | 5 => 5 | 117 => 112 | 116 => 111 | 0 => 0 | 124 => 115 | 21 => 21 | 105 => 130 | 46 => 104 | 119 => 146 | 139 => 149 | 138 => 148 | n => n, fun | 3 => 1 | 4 => 2 | n => n⟩
theorem Tryd.lays160 : Go.Proofs.Lays.n160 Tryd.prog Tryd.lays160_ren := {
  mixed := by kernel_rfl
  f119 := Tryd.func130.trans (congrArg some (by kernel_rfl))
  f120 := Tryd.func123.trans (congrArg some (by kernel_rfl))
  f137 := Tryd.func70.trans (congrArg some (by kernel_rfl))
  f151 := Tryd.func107.trans (congrArg some (by kernel_rfl))
  f152 := Tryd.func122.trans (congrArg some (by kernel_rfl))
  f160 := Tryd.func60.trans (congrArg some (by kernel_rfl))
  f197 := Tryd.func106.trans (congrArg some (by kernel_rfl))
  f217 := Tryd.func95.trans (congrArg some (by kernel_rfl))
  f224 := Tryd.func114.trans (congrArg some (by kernel_rfl))
  f225 := Tryd.func113.trans (congrArg some (by kernel_rfl))
  f227 := Tryd.func88.trans (congrArg some (by kernel_rfl))
  f228 := Tryd.func105.trans (congrArg some (by kernel_rfl))
  f231 := Tryd.func86.trans (congrArg some (by kernel_rfl))
  f232 := Tryd.func87.trans (congrArg some (by kernel_rfl))
  f233 := Tryd.func89.trans (congrArg some (by kernel_rfl))
  f234 := Tryd.func90.trans (congrArg some (by kernel_rfl))
  f235 := Tryd.func91.trans (congrArg some (by kernel_rfl))
  f236 := Tryd.func92.trans (congrArg some (by kernel_rfl))
  f260 := Tryd.func121.trans (congrArg some (by kernel_rfl))
  f266 := Tryd.func111.trans (congrArg some (by kernel_rfl))
  f271 := Tryd.func108.trans (congrArg some (by kernel_rfl))
  t0 := Tryd.underlying0
  a0 := Tryd.isAgg0
  z0 := Tryd.sizeOf0
  v0 := Tryd.zeroValue0
  t3 := Tryd.underlying3
  a3 := Tryd.isAgg3
  z3 := Tryd.sizeOf3
  v3 := Tryd.zeroValue3
  t4 := Tryd.underlying4
  a4 := Tryd.isAgg4
  z4 := Tryd.sizeOf4
  v4 := Tryd.zeroValue4
  t5 := Tryd.underlying5
  a5 := Tryd.isAgg5
  z5 := Tryd.sizeOf5
  v5 := Tryd.zeroValue5
  t9 := Tryd.underlying9
  a9 := Tryd.isAgg9
  z9 := Tryd.sizeOf9
  v9 := Tryd.zeroValue9
  t21 := Tryd.underlying21
  a21 := Tryd.isAgg21
  z21 := Tryd.sizeOf21
  v21 := Tryd.zeroValue21
  t46 := Tryd.underlying104
  a46 := Tryd.isAgg104
  z46 := Tryd.sizeOf104
  v46 := Tryd.zeroValue104
  t105 := Tryd.underlying130
  a105 := Tryd.isAgg130
  z105 := Tryd.sizeOf130
  v105 := Tryd.zeroValue130
  t116 := Tryd.underlying111
  a116 := Tryd.isAgg111
  z116 := Tryd.sizeOf111
  t117 := Tryd.underlying112
  a117 := Tryd.isAgg112
  z117 := Tryd.sizeOf112
  v117 := Tryd.zeroValue112
  t119 := Tryd.underlying146
  a119 := Tryd.isAgg146
  z119 := Tryd.sizeOf146
  t124 := Tryd.underlying115
  a124 := Tryd.isAgg115
  z124 := Tryd.sizeOf115
  v124 := Tryd.zeroValue115
  t138 := Tryd.underlying148
  a138 := Tryd.isAgg148
  z138 := Tryd.sizeOf148
  v138 := Tryd.zeroValue148
  t139 := Tryd.underlying149
  a139 := Tryd.isAgg149
  z139 := Tryd.sizeOf149
  v139 := Tryd.zeroValue149
  g3 := by kernel_rfl
  g4 := by kernel_rfl }
open Go.RowKit in
theorem Tryd.strings_Trim_one (s : ByteArray) (c : UInt8) (hc : c.toNat < 128) (w : World) (hs : s.size ≤ 9223372036854775807) :
    Calls Tryd.prog 60 #[.string s, .string ⟨#[c]⟩] w fun e w' => e = .returned (.string ⟨(Lib.trimB s.data.toList c).toArray⟩) ∧ (w' = w ∨ w' = w.drew) := Any.strings_Trim_one Tryd.lays160 s c hc w hs
def Tryd.lays137_ren : Go.Shelf.Ren := ⟨fun | 137 => 70 | 217 => 95 | 266 => 111 | n => n, fun | 9 => 9 | 5 => 5 | 3 => 3 | n => n, fun | n => n⟩
theorem Tryd.lays137 : Go.Proofs.Lays.n137 Tryd.prog Tryd.lays137_ren := {
  mixed := by kernel_rfl
  f137 := Tryd.func70.trans (congrArg some (by kernel_rfl))
  f217 := Tryd.func95.trans (congrArg some (by kernel_rfl))
  f266 := Tryd.func111.trans (congrArg some (by kernel_rfl))
  t3 := Tryd.underlying3
  a3 := Tryd.isAgg3
  z3 := Tryd.sizeOf3
  v3 := Tryd.zeroValue3
  t5 := Tryd.underlying5
  a5 := Tryd.isAgg5
  z5 := Tryd.sizeOf5
  v5 := Tryd.zeroValue5
  t9 := Tryd.underlying9
  a9 := Tryd.isAgg9
  z9 := Tryd.sizeOf9
  v9 := Tryd.zeroValue9 }
open Go.RowKit in
theorem Tryd.strings_IndexByte (s : ByteArray) (c : Int) (w : World) :
    Calls Tryd.prog 70 #[.string s, .int .u8 c] w fun e w' => e = .returned (.int .i64 (Lib.indexByte s.data.toList c.toNat.toUInt8)) ∧ w' = w := Any.strings_IndexByte Tryd.lays137 s c w
def Tryd.lays219_ren : Go.Shelf.Ren := ⟨fun | 219 => 100 | 217 => 95 | 225 => 113 | 224 => 114 | 267 => 115 | 266 => 111 | 314 => 125 | n => n, fun | 9 => 9 | 3 => 3 | 4 => 4 | 5 => 5 | 46 => 104 | 146 => 141 | 51 => 140 | n => n, fun | 1 => 0 | n => n⟩
theorem Tryd.lays219 : Go.Proofs.Lays.n219 Tryd.prog Tryd.lays219_ren := {
  mixed := by kernel_rfl
  f217 := Tryd.func95.trans (congrArg some (by kernel_rfl))
  f219 := Tryd.func100.trans (congrArg some (by kernel_rfl))
  f224 := Tryd.func114.trans (congrArg some (by kernel_rfl))
  f225 := Tryd.func113.trans (congrArg some (by kernel_rfl))
  f266 := Tryd.func111.trans (congrArg some (by kernel_rfl))
  f267 := Tryd.func115.trans (congrArg some (by kernel_rfl))
  f314 := Tryd.func125.trans (congrArg some (by kernel_rfl))
  t3 := Tryd.underlying3
  a3 := Tryd.isAgg3
  z3 := Tryd.sizeOf3
  v3 := Tryd.zeroValue3
  t4 := Tryd.underlying4
  a4 := Tryd.isAgg4
  z4 := Tryd.sizeOf4
  v4 := Tryd.zeroValue4
  t5 := Tryd.underlying5
  a5 := Tryd.isAgg5
  z5 := Tryd.sizeOf5
  v5 := Tryd.zeroValue5
  t9 := Tryd.underlying9
  a9 := Tryd.isAgg9
  z9 := Tryd.sizeOf9
  v9 := Tryd.zeroValue9
  t46 := Tryd.underlying104
  a46 := Tryd.isAgg104
  z46 := Tryd.sizeOf104
  v46 := Tryd.zeroValue104
  t51 := Tryd.underlying140
  a51 := Tryd.isAgg140
  z51 := Tryd.sizeOf140
  v51 := Tryd.zeroValue140
  t146 := Tryd.underlying141
  a146 := Tryd.isAgg141
  z146 := Tryd.sizeOf141
  v146 := Tryd.zeroValue141
  g1 := by kernel_rfl }
open Go.RowKit Go.Lib in
theorem Tryd.stringslite_Index_one (s : ByteArray) (c : UInt8) (w : World) :
    Calls Tryd.prog 100 #[.string s, .string ⟨#[c]⟩] w fun e w' => e = .returned (.int .i64 (Lib.indexByte s.data.toList c)) ∧ w' = w := Any.stringslite_Index_one Tryd.lays219 s c w
def Tryd.lays143_ren : Go.Shelf.Ren := ⟨fun | 143 => 118 | 219 => 100 | 217 => 95 | 225 => 113 | 224 => 114 | 267 => 115 | 266 => 111 | 314 => 125 | n => n, fun | 9 => 9 | 3 => 3 | 4 => 4 | 5 => 5 | 46 => 104 | 146 => 141 | 51 => 140 | n => n, fun | 1 => 0 | n => n⟩
theorem Tryd.lays143 : Go.Proofs.Lays.n143 Tryd.prog Tryd.lays143_ren := {
  mixed := by kernel_rfl
  f143 := Tryd.func118.trans (congrArg some (by kernel_rfl))
  f217 := Tryd.func95.trans (congrArg some (by kernel_rfl))
  f219 := Tryd.func100.trans (congrArg some (by kernel_rfl))
  f224 := Tryd.func114.trans (congrArg some (by kernel_rfl))
  f225 := Tryd.func113.trans (congrArg some (by kernel_rfl))
  f266 := Tryd.func111.trans (congrArg some (by kernel_rfl))
  f267 := Tryd.func115.trans (congrArg some (by kernel_rfl))
  f314 := Tryd.func125.trans (congrArg some (by kernel_rfl))
  t3 := Tryd.underlying3
  a3 := Tryd.isAgg3
  z3 := Tryd.sizeOf3
  v3 := Tryd.zeroValue3
  t4 := Tryd.underlying4
  a4 := Tryd.isAgg4
  z4 := Tryd.sizeOf4
  v4 := Tryd.zeroValue4
  t5 := Tryd.underlying5
  a5 := Tryd.isAgg5
  z5 := Tryd.sizeOf5
  v5 := Tryd.zeroValue5
  t9 := Tryd.underlying9
  a9 := Tryd.isAgg9
  z9 := Tryd.sizeOf9
  v9 := Tryd.zeroValue9
  t46 := Tryd.underlying104
  a46 := Tryd.isAgg104
  z46 := Tryd.sizeOf104
  v46 := Tryd.zeroValue104
  t51 := Tryd.underlying140
  a51 := Tryd.isAgg140
  z51 := Tryd.sizeOf140
  v51 := Tryd.zeroValue140
  t146 := Tryd.underlying141
  a146 := Tryd.isAgg141
  z146 := Tryd.sizeOf141
  v146 := Tryd.zeroValue141
  g1 := by kernel_rfl }
open Go.RowKit Go.Lib in
theorem Tryd.strings_Index_one (s : ByteArray) (c : UInt8) (w : World) :
    Calls Tryd.prog 118 #[.string s, .string ⟨#[c]⟩] w fun e w' => e = .returned (.int .i64 (Lib.indexByte s.data.toList c)) ∧ w' = w := Any.strings_Index_one Tryd.lays143 s c w
open Go.RowKit Go.Lib in
theorem Tryd.strings_Index (s sub : ByteArray) (m : Int) (w : World) (hs : s.size < 4294967281) (hm : w.cell? ⟨0, 0, none⟩ = some (.int .i64 m)) :
    Calls Tryd.prog 118 #[.string s, .string sub] w fun e w' => e = .returned (.int .i64 (Lib.index s.data.toList sub.data.toList)) ∧ w' = w := Any.strings_Index Tryd.lays143 s sub m w hs hm
def Tryd.lays138_ren : Go.Shelf.Ren := ⟨fun | 138 => 117 | 195 => 126 | 218 => 127 | 143 => 118 | 219 => 100 | 217 => 95 | 225 => 113 | 224 => 114 | 267 => 115 | 266 => 111 | 314 => 125 | n => n, fun | 9 => 9 | 3 => 3 | 4 => 4 | 5 => 5 | 0 => 0 | 46 => 104 | 146 => 141 | 51 => 140 | n => n, fun | 1 => 0 | n => n⟩
theorem Tryd.lays138 : Go.Proofs.Lays.n138 Tryd.prog Tryd.lays138_ren := {
  mixed := by kernel_rfl
  f138 := Tryd.func117.trans (congrArg some (by kernel_rfl))
  f143 := Tryd.func118.trans (congrArg some (by kernel_rfl))
  f195 := Tryd.func126.trans (congrArg some (by kernel_rfl))
  f217 := Tryd.func95.trans (congrArg some (by kernel_rfl))
  f218 := Tryd.func127.trans (congrArg some (by kernel_rfl))
  f219 := Tryd.func100.trans (congrArg some (by kernel_rfl))
  f224 := Tryd.func114.trans (congrArg some (by kernel_rfl))
  f225 := Tryd.func113.trans (congrArg some (by kernel_rfl))
  f266 := Tryd.func111.trans (congrArg some (by kernel_rfl))
  f267 := Tryd.func115.trans (congrArg some (by kernel_rfl))
  f314 := Tryd.func125.trans (congrArg some (by kernel_rfl))
  t0 := Tryd.underlying0
  a0 := Tryd.isAgg0
  z0 := Tryd.sizeOf0
  v0 := Tryd.zeroValue0
  t3 := Tryd.underlying3
  a3 := Tryd.isAgg3
  z3 := Tryd.sizeOf3
  v3 := Tryd.zeroValue3
  t4 := Tryd.underlying4
  a4 := Tryd.isAgg4
  z4 := Tryd.sizeOf4
  v4 := Tryd.zeroValue4
  t5 := Tryd.underlying5
  a5 := Tryd.isAgg5
  z5 := Tryd.sizeOf5
  v5 := Tryd.zeroValue5
  t9 := Tryd.underlying9
  a9 := Tryd.isAgg9
  z9 := Tryd.sizeOf9
  v9 := Tryd.zeroValue9
  t46 := Tryd.underlying104
  a46 := Tryd.isAgg104
  z46 := Tryd.sizeOf104
  v46 := Tryd.zeroValue104
  t51 := Tryd.underlying140
  a51 := Tryd.isAgg140
  z51 := Tryd.sizeOf140
  v51 := Tryd.zeroValue140
  t146 := Tryd.underlying141
  a146 := Tryd.isAgg141
  z146 := Tryd.sizeOf141
  v146 := Tryd.zeroValue141
  g1 := by kernel_rfl }
open Go.RowKit Go.Lib in
theorem Tryd.strings_Count_one (s : ByteArray) (c : UInt8) (w : World) :
    Calls Tryd.prog 117 #[.string s, .string ⟨#[c]⟩] w fun e w' => e = .returned (.int .i64 (Lib.countByte s.data.toList c)) ∧ w' = w := Any.strings_Count_one Tryd.lays138 s c w
open Go.RowKit Go.Lib in
theorem Tryd.strings_Count (s sub : ByteArray) (m : Int) (w : World) (hs : s.size < 4294967281) (hm : w.cell? ⟨0, 0, none⟩ = some (.int .i64 m)) (h2 : 2 ≤ sub.size) :
    Calls Tryd.prog 117 #[.string s, .string sub] w fun e w' => e = .returned (.int .i64 (Lib.countB s sub)) ∧ w' = w := Any.strings_Count Tryd.lays138 s sub m w hs hm h2
def Tryd.lays149_ren : Go.Shelf.Ren := ⟨fun | 149 => 65 | 222 => 93 | n => n, fun | 9 => 9 | 5 => 5 | 3 => 3 | 4 => 4 | n => n, fun | n => n⟩
theorem Tryd.lays149 : Go.Proofs.Lays.n149 Tryd.prog Tryd.lays149_ren := {
  mixed := by kernel_rfl
  f149 := Tryd.func65.trans (congrArg some (by kernel_rfl))
  f222 := Tryd.func93.trans (congrArg some (by kernel_rfl))
  t3 := Tryd.underlying3
  a3 := Tryd.isAgg3
  z3 := Tryd.sizeOf3
  v3 := Tryd.zeroValue3
  t4 := Tryd.underlying4
  a4 := Tryd.isAgg4
  z4 := Tryd.sizeOf4
  v4 := Tryd.zeroValue4
  t5 := Tryd.underlying5
  a5 := Tryd.isAgg5
  z5 := Tryd.sizeOf5
  v5 := Tryd.zeroValue5
  t9 := Tryd.underlying9
  a9 := Tryd.isAgg9
  z9 := Tryd.sizeOf9
  v9 := Tryd.zeroValue9 }
open Go.RowKit Go.Lib in
theorem Tryd.strings_LastIndexByte (s : ByteArray) (c : Int) (hs : s.size < 4611686018427387904) (w : World) :
    Calls Tryd.prog 65 #[.string s, .int .u8 c] w fun e w' => e = .returned (.int .i64 (Lib.lastIndexByte s c)) ∧ w' = w := Any.strings_LastIndexByte Tryd.lays149 s c hs w
def Tryd.lays206_ren : Go.Shelf.Ren := ⟨fun | 206 => 98 | n => n, fun | 9 => 9 | 4 => 4 | 3 => 3 | n => n, fun | n => n⟩
theorem Tryd.lays206 : Go.Proofs.Lays.n206 Tryd.prog Tryd.lays206_ren := {
  mixed := by kernel_rfl
  f206 := Tryd.func98.trans (congrArg some (by kernel_rfl))
  t3 := Tryd.underlying3
  a3 := Tryd.isAgg3
  z3 := Tryd.sizeOf3
  v3 := Tryd.zeroValue3
  t4 := Tryd.underlying4
  a4 := Tryd.isAgg4
  z4 := Tryd.sizeOf4
  v4 := Tryd.zeroValue4
  t9 := Tryd.underlying9
  a9 := Tryd.isAgg9
  z9 := Tryd.sizeOf9
  v9 := Tryd.zeroValue9 }
open Go.RowKit Go.Lib in
theorem Tryd.stringslite_HasPrefix (s p : ByteArray) (w : World) :
    Calls Tryd.prog 98 #[.string s, .string p] w fun e w' => e = .returned (.bool (Lib.hasPrefix s.data.toList p.data.toList)) ∧ w' = w := Any.stringslite_HasPrefix Tryd.lays206 s p w
def Tryd.lays99_ren : Go.Shelf.Ren := ⟨fun | 99 => 79 | 206 => 98 | n => n, fun | 9 => 9 | 4 => 4 | 3 => 3 | n => n, fun | n => n⟩
theorem Tryd.lays99 : Go.Proofs.Lays.n99 Tryd.prog Tryd.lays99_ren := {
  mixed := by kernel_rfl
  f99 := Tryd.func79.trans (congrArg some (by kernel_rfl))
  f206 := Tryd.func98.trans (congrArg some (by kernel_rfl))
  t3 := Tryd.underlying3
  a3 := Tryd.isAgg3
  z3 := Tryd.sizeOf3
  v3 := Tryd.zeroValue3
  t4 := Tryd.underlying4
  a4 := Tryd.isAgg4
  z4 := Tryd.sizeOf4
  v4 := Tryd.zeroValue4
  t9 := Tryd.underlying9
  a9 := Tryd.isAgg9
  z9 := Tryd.sizeOf9
  v9 := Tryd.zeroValue9 }
open Go.RowKit Go.Lib in
theorem Tryd.strings_HasPrefix (s p : ByteArray) (w : World) :
    Calls Tryd.prog 79 #[.string s, .string p] w fun e w' => e = .returned (.bool (Lib.hasPrefix s.data.toList p.data.toList)) ∧ w' = w := Any.strings_HasPrefix Tryd.lays99 s p w
end Go.Proofs
end

/- Plain words on paths: the pieces of a text, what is wrong with one, and laws on them. No program in sight. -/
section
namespace Go.Proofs.YthpecpkncifngaaDoor.Nm
def pc : Nat → List UInt8 → List UInt8 × List (Nat × List UInt8)
  | _, [] => ([], [])
  | pos, c :: l => if c = 47 then ([], (pos + 1, (pc (pos + 1) l).1) :: (pc (pos + 1) l).2) else (c :: (pc (pos + 1) l).1, (pc (pos + 1) l).2)
def pieces (pos : Nat) (l : List UInt8) : List (Nat × List UInt8) := (pos, (pc pos l).1) :: (pc pos l).2
def bad (l : List UInt8) : Option (Nat × Nat) :=
  if l = [] then some (0, 80) else if 120 < l.length then some (0, 2) else if l = [46] ∨ l = [46, 46] then some (0, 81)
  else if 0 ≤ Lib.indexByte l 0 then some ((Lib.indexByte l 0).toNat, 82) else none
def firstBad : List (Nat × List UInt8) → Option (Nat × Nat)
  | [] => none
  | x :: r => match bad x.2 with
    | some (n, e) => some (x.1 + n, e)
    | none => firstBad r
def check (l : List UInt8) : Nat × Nat := if 400 < l.length then (0, 2) else (firstBad (pieces 0 l)).getD (0, 0)
theorem pc_none : ∀ (l : List UInt8) (pos : Nat), Lib.indexByte l 47 = -1 → pc pos l = (l, [])
  | [], _, _ => rfl
  | c :: l, pos, h => by
    simp only [Lib.indexByte] at h
    by_cases hc : c = 47
    · subst hc; simp at h
    · have h1 : (c == 47) = false := by simpa using hc
      rw [h1] at h
      have h2 : Lib.indexByte l 47 = -1 := by
        by_cases h3 : Lib.indexByte l 47 = -1
        · exact h3
        · have h4 : (Lib.indexByte l 47 == -1) = false := by simpa using h3
          have := Lib.indexByte_ge l 47
          simp only [h4, Bool.false_eq_true, if_false] at h
          omega
      simp only [pc, hc, if_false, pc_none l (pos + 1) h2]
theorem pc_some : ∀ (l : List UInt8) (pos n : Nat), Lib.indexByte l 47 = n → n < l.length ∧ pc pos l = (l.take n, pieces (pos + n + 1) (l.drop (n + 1)))
  | [], _, n, h => by simp [Lib.indexByte] at h
  | c :: l, pos, n, h => by
    simp only [Lib.indexByte] at h
    by_cases hc : c = 47
    · subst hc
      simp at h
      obtain rfl : n = 0 := by omega
      exact ⟨by simp, by simp [pc, pieces]⟩
    · have h1 : (c == 47) = false := by simpa using hc
      rw [h1] at h
      by_cases h3 : Lib.indexByte l 47 = -1
      · simp [h3] at h
      · have h4 : (Lib.indexByte l 47 == -1) = false := by simpa using h3
        have := Lib.indexByte_ge l 47
        simp only [h4, Bool.false_eq_true, if_false] at h
        obtain ⟨m, rfl⟩ : ∃ m, n = m + 1 := ⟨n - 1, by omega⟩
        have h5 : Lib.indexByte l 47 = (m : Int) := by omega
        obtain ⟨h6, h7⟩ := pc_some l (pos + 1) m h5
        refine ⟨by simp; omega, ?_⟩
        simp only [pc, hc, if_false, h7, List.take_succ_cons, List.drop_succ_cons]
        rw [show pos + 1 + m + 1 = pos + (m + 1) + 1 from by omega]
theorem pieces_none (l : List UInt8) (pos : Nat) (h : Lib.indexByte l 47 = -1) : pieces pos l = [(pos, l)] := by
  simp [pieces, pc_none l pos h]
theorem pieces_some (l : List UInt8) (pos n : Nat) (h : Lib.indexByte l 47 = n) : pieces pos l = (pos, l.take n) :: pieces (pos + n + 1) (l.drop (n + 1)) := by
  have := (pc_some l pos n h).2
  simp only [pieces, this]
theorem pc_bound : ∀ (l : List UInt8) (pos : Nat), (pc pos l).1.length ≤ l.length ∧ ∀ x ∈ (pc pos l).2, x.1 + x.2.length ≤ pos + l.length
  | [], _ => ⟨by simp [pc], by simp [pc]⟩
  | c :: l, pos => by
    obtain ⟨h1, h2⟩ := pc_bound l (pos + 1)
    by_cases hc : c = 47
    · simp only [pc, hc, if_true]
      refine ⟨by simp, fun x hx => ?_⟩
      simp only [List.mem_cons] at hx
      rcases hx with rfl | hx
      · simp only [List.length_cons]; omega
      · have := h2 x hx; simp only [List.length_cons]; omega
    · simp only [pc, hc, if_false]
      refine ⟨by simp only [List.length_cons]; omega, fun x hx => ?_⟩
      have := h2 x hx; simp only [List.length_cons]; omega
theorem pieces_bound (l : List UInt8) (pos : Nat) : ∀ x ∈ pieces pos l, x.1 + x.2.length ≤ pos + l.length := by
  intro x hx
  obtain ⟨h1, h2⟩ := pc_bound l pos
  simp only [pieces, List.mem_cons] at hx
  rcases hx with rfl | hx
  · simp only; omega
  · exact h2 x hx
theorem pc_length : ∀ (l : List UInt8) (pos : Nat), (pc pos l).2.length ≤ l.length
  | [], _ => by simp [pc]
  | c :: l, pos => by
    have := pc_length l (pos + 1)
    by_cases hc : c = 47
    · simp only [pc, hc, if_true, List.length_cons]; omega
    · simp only [pc, hc, if_false, List.length_cons]; omega
theorem pieces_length (l : List UInt8) (pos : Nat) : (pieces pos l).length ≤ l.length + 1 := by
  have := pc_length l pos
  simp only [pieces, List.length_cons]; omega
theorem bad_some {l : List UInt8} {m e : Nat} (h : bad l = some (m, e)) : (e = 82 ∧ m < l.length) ∨ (e ≠ 82 ∧ m = 0) := by
  unfold bad at h
  split at h
  · right; simp at h; omega
  · split at h
    · right; simp at h; omega
    · split at h
      · right; simp at h; omega
      · split at h
        · rename_i h1
          left
          simp only [Option.some.injEq, Prod.mk.injEq] at h
          obtain ⟨rfl, rfl⟩ := h
          refine ⟨rfl, ?_⟩
          have h2 := (Lib.indexByte_some (l := l) (c := 0) (o := (Lib.indexByte l 0).toNat) (by omega)).1
          exact (List.getElem?_eq_some_iff.1 h2).1
        · simp at h
end Go.Proofs.YthpecpkncifngaaDoor.Nm
end

/- The contract of name.Each: the iterator over the pieces of a text, for every loop body that keeps the text's own box. -/
section
namespace Go.Proofs.YthpecpkncifngaaDoor
open Go.RowKit Go.Shelf
attribute [local go_sem] Oper.semAt_some
theorem cell_of_box_l {w : World} {b : Nat} {v : Value} {t : TypeId} (h : w.heap[b]? = some (.cells #[v] t (0, 0))) : w.cell? ⟨b, 0, none⟩ = some v ∧ w.frozen? ⟨b, 0, none⟩ = false :=
  ⟨by simp [World.cell?, h], by simp [World.frozen?, h]⟩
theorem cell_new_l (W : World) (v : Value) (t : TypeId) : (W.alloc (.cells #[v] t)).cell? ⟨W.heap.size, 0, none⟩ = some v ∧ (W.alloc (.cells #[v] t)).frozen? ⟨W.heap.size, 0, none⟩ = false :=
  cell_of_box_l (World.alloc_heap_new W _)
theorem cell_alloc_l {W : World} {a : Addr} {v : Value} (o : Obj) (h : W.cell? a = some v) : (W.alloc o).cell? a = some v := cell_kept h (World.grownBy_alloc W o none) (fun r e => by cases e)
theorem frozen_alloc_l {W : World} {a : Addr} {v : Value} (o : Obj) (h : W.cell? a = some v) (hf : W.frozen? a = false) : (W.alloc o).frozen? a = false := (frozen_kept h (World.grownBy_alloc W o none) (fun r e => by cases e)).trans hf
abbrev pEnc (x : Nat × ByteArray) : Array Value := #[.int .i64 (x.1 : Int), .string x.2]
def bytesOfL (l : List UInt8) : ByteArray := ⟨l.toArray⟩
def piecesB (at_ : Nat) (l : List UInt8) : List (Nat × ByteArray) := (Nm.pieces at_ l).map fun x => (x.1, bytesOfL x.2)
theorem piecesB_none (p : ByteArray) (a : Nat) (h : Lib.indexByte (p.data.toList.drop a) 47 = -1) : piecesB a (p.data.toList.drop a) = [(a, p.extract a p.size)] := by
  unfold piecesB
  rw [Nm.pieces_none _ _ h, Lib.extract_from]
  rfl
theorem piecesB_some (p : ByteArray) (a n : Nat) (h : Lib.indexByte (p.data.toList.drop a) 47 = n) : piecesB a (p.data.toList.drop a) = (a, p.extract a (a + n)) :: piecesB (a + n + 1) (p.data.toList.drop (a + n + 1)) := by
  unfold piecesB
  rw [Nm.pieces_some _ _ _ h, Lib.extract_eq, List.drop_drop, Nat.add_sub_cancel_left, show a + (n + 1) = a + n + 1 from by omega]
  rfl
theorem piecesB_ne (a : Nat) (l : List UInt8) : piecesB a l ≠ [] := by simp [piecesB, Nm.pieces]
theorem found_lt (p : ByteArray) (a n : Nat) (h : Lib.indexByte (p.data.toList.drop a) 47 = n) : a + n + 1 ≤ p.size := by
  have := (Nm.pc_some _ 0 n h).1
  rw [List.length_drop, Array.length_toList] at this
  have e : p.data.size = p.size := rfl
  omega
theorem slice_run (p : ByteArray) (a m : Nat) (h : a + m ≤ p.size) (wx : World) :
    (Instr.slice 9 (.string p) (some (.int .i64 a)) (some (.int .i64 ((a : Int) + (m : Int)))) none).run Tryd.prog wx = .ok (.string (p.extract a (a + m))) wx := by
  rw [run_slice_string (P := Tryd.prog) (w := wx) 9 p .i64 .i64 (a : Int) ((a : Int) + (m : Int)) Tryd.underlying9 (by omega) (by omega) (by omega)]
  rw [Int.toNat_natCast, show ((a : Int) + (m : Int)).toNat = a + m from by omega]
theorem ibyte (s : ByteArray) (c : UInt8) (w : World) :
    Calls Tryd.prog 70 #[.string s, .int .u8 (c.toNat : Int)] w fun e w' => e = .returned (.int .i64 (Lib.indexByte s.data.toList c)) ∧ w = w' := by
  refine (Tryd.strings_IndexByte s c.toNat w).mono ?_
  rintro e w' ⟨rfl, rfl⟩
  exact ⟨by simp, rfl⟩
set_option maxRecDepth 100000 in
set_option maxHeartbeats 2000000 in
theorem each1_in (n : Nat) (hn : 1 ≤ n) (l Bn : Nat) (p : ByteArray) (hp : p.size ≤ 140737488355328) (J Jx : List (Nat × ByteArray) → World → Prop)
    (hY : ∀ pre x W, J pre W → pre.length < (piecesB 0 p.data.toList).length → YieldAt Fence.wide (n - 1) Tryd.prog l (pEnc x) W fun e W' =>
      (e = .returned (.bool true) ∧ J (pre ++ [x]) W' ∧ W'.cell? ⟨Bn, 0, none⟩ = W.cell? ⟨Bn, 0, none⟩) ∨ (e = .returned (.bool false) ∧ Jx (pre ++ [x]) W'))
    (W : World) (hBn : W.cell? ⟨Bn, 0, none⟩ = some (.string p)) (h0 : J [] W) :
    CallsIn Fence.wide n Tryd.prog 97 #[.func (.yield l) #[] #[], .pointer (some ⟨Bn, 0, none⟩)] W fun e W' => (∃ v, e = .returned v) ∧
      ((∃ ys, ys = piecesB 0 p.data.toList ∧ J ys W') ∨ (∃ pre, pre <+: piecesB 0 p.data.toList ∧ Jx pre W')) := by
  refine callsIn_of_wp Tryd.func97 rfl trivial ?_ rfl
  simp only [Tryd.ntmps97, List.size_toArray, List.length_cons, List.length_nil, Nat.reduceAdd, Nat.reduceSub, Array.replicate_succ, Array.replicate_zero, List.push_toArray, List.append_toArray, List.nil_append, List.cons_append]
  gi_wp2
  gi_loopw [3] (fun v wr => ∃ (pre : List (Nat × ByteArray)) (a : Nat), v = .int .i64 a ∧ a ≤ p.size ∧ Hid (piecesB 0 p.data.toList = pre ++ piecesB a (p.data.toList.drop a)) ∧ wr.cell? ⟨Bn, 0, none⟩ = some (.string p) ∧ J pre wr)
    (fun v _ => p.size + 1 - (intOf v).toNat)
  case atStart => exact ⟨[], 0, rfl, Nat.zero_le _, Lib.hid (by simp), hBn, h0⟩
  case round =>
    obtain ⟨pre, a, rfl, ha, hpre, hc, hJ⟩ := hrel
    have hlen : pre.length < (piecesB 0 p.data.toList).length := by
      rw [hpre.out, List.length_append]
      have := List.length_pos_iff.2 (piecesB_ne a (p.data.toList.drop a))
      omega
    have hcz : a ≤ p.size := ha
    by_cases hi : Lib.indexByte (p.data.toList.drop a) 47 = -1
    · have hpn := piecesB_none p a hi
      obtain ⟨fn, tmps, assign, body, hy, hR⟩ := hY pre (a, p.extract a p.size) wr hJ hlen
      have HR := Lib.hid hR
      clear hR
      have Hpn := Lib.hid hpn
      have Hi := Lib.hid hi
      clear hpn hi
      dsimp only [pEnc] at hy
      gi_wp2_with fail
      refine ⟨trivial, ?_⟩
      refine (callsIn_wide.2 (ibyte _ 47 _)).mono ?_
      rw [Lib.extract_to_end, Hi.out]
      rintro e w' ⟨rfl, rfl⟩
      gi_wp2_with fail
      refine HR.out.mono ?_
      rintro e W' (⟨rfl, hJ', hk⟩ | ⟨rfl, hJx'⟩)
      · gi_wp2_with fail
        refine bodyPost_ret (results_none rfl _ _ _) rfl ?_
        exact ⟨⟨_, rfl⟩, .inl ⟨_, rfl, by rw [hpre.out, Hpn.out]; exact hJ'⟩⟩
      · gi_wp2_with fail
        refine bodyPost_ret (results_none rfl _ _ _) rfl ?_
        exact ⟨⟨_, rfl⟩, .inr ⟨_, by rw [hpre.out, Hpn.out]; exact List.prefix_refl _, hJx'⟩⟩
    · obtain ⟨m, hm⟩ : ∃ m : Nat, Lib.indexByte (p.data.toList.drop a) 47 = m := ⟨(Lib.indexByte (p.data.toList.drop a) 47).toNat, by have := Lib.indexByte_ge (p.data.toList.drop a) 47; omega⟩
      have hpn := piecesB_some p a m hm
      have hml := found_lt p a m hm
      obtain ⟨fn, tmps, assign, body, hy, hR⟩ := hY pre (a, p.extract a (a + m)) wr hJ hlen
      have HR := Lib.hid hR
      have Hpn := Lib.hid hpn
      have Hm := Lib.hid hm
      clear hpn hm hi hR
      dsimp only [pEnc] at hy
      have hsl := slice_run p a m (by omega)
      gi_wp2_with fail
      refine ⟨trivial, ?_⟩
      refine (callsIn_wide.2 (ibyte _ 47 _)).mono ?_
      rw [Lib.extract_to_end, Hm.out]
      rintro e w' ⟨rfl, rfl⟩
      gi_wp2_with fail
      refine HR.out.mono ?_
      rintro e W' (⟨rfl, hJ', hk⟩ | ⟨rfl, hJx'⟩)
      · gi_wp2_with fail
        go_roundw
        case rel => exact ⟨pre ++ [(a, p.extract a (a + m))], a + m + 1, by go_num, by omega, Lib.hid (by rw [hpre.out, Hpn.out]; simp), hk.trans hc, hJ'⟩
        case measure => simp [intOf]; omega
      · gi_wp2_with fail
        refine bodyPost_ret (results_none rfl _ _ _) rfl ?_
        exact ⟨⟨_, rfl⟩, .inr ⟨_, by rw [hpre.out, Hpn.out]; exact ⟨_, List.append_assoc _ _ _⟩, hJx'⟩⟩
end Go.Proofs.YthpecpkncifngaaDoor
end

/- The contract of name.Check: place and error of the first thing that is wrong with a path. -/
section
namespace Go.Proofs.YthpecpkncifngaaDoor
open Go.RowKit Go.Shelf
attribute [local go_sem] Oper.semAt_some
def Box (Bn : Nat) (A B : World) : Prop := B.cell? ⟨Bn, 0, none⟩ = A.cell? ⟨Bn, 0, none⟩
theorem each_stops (n : Nat) (hn : 1 ≤ n) (Bn : Nat) (p : ByteArray) (hp : p.size ≤ 140737488355328) (w : World) (hb : Bn < w.heap.size) (hc : w.cell? ⟨Bn, 0, none⟩ = some (.string p)) :
    SeqStopsK Fence.wide n Tryd.prog 97 #[.pointer (some ⟨Bn, 0, none⟩)] pEnc (Box Bn) (fun xs => xs = piecesB 0 p.data.toList) (fun pre => pre <+: piecesB 0 p.data.toList) (piecesB 0 p.data.toList).length w :=
  fun l J Jx W hW _ _ hY h0 => each1_in n hn l Bn p hp J Jx hY W ((hW.cell (p := ⟨Bn, 0, none⟩) hb).trans hc) h0
theorem box_t {Bn : Nat} {A B C : World} (h : Box Bn A B) (k : Box Bn B C) : Box Bn A C := Eq.trans k h
theorem box_b {Bn : Nat} {w : World} (hb : Bn < w.heap.size) (W : World) (l : Nat) (o o' : Obj) (hl : w.heap.size ≤ l) (h : W.heap[l]? = some o) (_ : o.isCells = false) (_ : o.isWalk = false) : Box Bn W (W.putObj l o') :=
  (belowK_b (w := w) (Nat.le_refl _) W l o o' hl h ‹_› ‹_›).cell (p := ⟨Bn, 0, none⟩) hb
theorem each_any (p : ByteArray) (w : World) :
    Calls Tryd.prog 73 #[.string p] w fun e w' => e = .returned (.func (.func 97) #[] #[.pointer (some ⟨w.heap.size, 0, none⟩)]) ∧ w.alloc (.cells #[.string p] 9) = w' := by
  go_enter Tryd.func73, Tryd.ntmps73
  go_wp2
  go_ret
  exact ⟨rfl, rfl⟩
def fbW : List (Nat × ByteArray) → Option (Int × Int)
  | [] => none
  | x :: r => match Nm.bad x.2.data.toList with
    | some (m, e) => some (if e = 82 then wrap64 ((x.1 : Int) + (m : Int)) else (x.1 : Int), (e : Int))
    | none => fbW r
theorem fbW_snoc_none {pre : List (Nat × ByteArray)} {x : Nat × ByteArray} (h : fbW pre = none) (hx : Nm.bad x.2.data.toList = none) : fbW (pre ++ [x]) = none := by
  induction pre with
  | nil => simp [fbW, hx]
  | cons y r ih =>
    simp only [fbW] at h
    cases hb : Nm.bad y.2.data.toList with
    | some z => rw [hb] at h; simp at h
    | none => rw [hb] at h; simp only [List.cons_append, fbW, hb]; exact ih h
theorem fbW_snoc_some {pre : List (Nat × ByteArray)} {x : Nat × ByteArray} {m e : Nat} (h : fbW pre = none) (hx : Nm.bad x.2.data.toList = some (m, e)) : fbW (pre ++ [x]) = some (if e = 82 then wrap64 ((x.1 : Int) + (m : Int)) else (x.1 : Int), (e : Int)) := by
  induction pre with
  | nil => simp [fbW, hx]
  | cons y r ih =>
    simp only [fbW] at h
    cases hb : Nm.bad y.2.data.toList with
    | some z => rw [hb] at h; simp at h
    | none => rw [hb] at h; simp only [List.cons_append, fbW, hb]; exact ih h
theorem fbW_snoc_nul {pre : List (Nat × ByteArray)} {x : Nat × ByteArray} {m : Nat} (h : fbW pre = none) (hx : Nm.bad x.2.data.toList = some (m, 82)) : fbW (pre ++ [x]) = some (wrap64 ((x.1 : Int) + (m : Int)), 82) := by
  have := fbW_snoc_some h hx
  rw [if_pos rfl] at this
  exact this
theorem fbW_prefix {pre l : List (Nat × ByteArray)} {y : Int × Int} (h : fbW pre = some y) (hp : pre <+: l) : fbW l = some y := by
  obtain ⟨r, rfl⟩ := hp
  induction pre with
  | nil => simp [fbW] at h
  | cons x s ih =>
    simp only [fbW] at h
    cases hb : Nm.bad x.2.data.toList with
    | some z => rw [hb] at h; simp only [List.cons_append, fbW, hb]; exact h
    | none => rw [hb] at h; simp only [List.cons_append, fbW, hb]; exact ih h
theorem bad_cases (l : List UInt8) :
    (l.isEmpty = true ∧ Nm.bad l = some (0, 80)) ∨
    (l.isEmpty = false ∧ decide (120 < (l.length : Int)) = true ∧ Nm.bad l = some (0, 2)) ∨
    (l.isEmpty = false ∧ decide (120 < (l.length : Int)) = false ∧ (l == [46]) = true ∧ Nm.bad l = some (0, 81)) ∨
    (l.isEmpty = false ∧ decide (120 < (l.length : Int)) = false ∧ (l == [46]) = false ∧ (l == [46, 46]) = true ∧ Nm.bad l = some (0, 81)) ∨
    (l.isEmpty = false ∧ decide (120 < (l.length : Int)) = false ∧ (l == [46]) = false ∧ (l == [46, 46]) = false ∧ (∃ m : Nat, Lib.indexByte l 0 = m ∧ Nm.bad l = some (m, 82))) ∨
    (l.isEmpty = false ∧ decide (120 < (l.length : Int)) = false ∧ (l == [46]) = false ∧ (l == [46, 46]) = false ∧ Lib.indexByte l 0 = -1 ∧ Nm.bad l = none) := by
  unfold Nm.bad
  by_cases h1 : l = []
  · left; simp [h1]
  · have e1 : l.isEmpty = false := by simpa using h1
    right
    rw [if_neg h1]
    by_cases h2 : 120 < l.length
    · left; rw [if_pos h2]; exact ⟨e1, by simp; omega, rfl⟩
    · right
      have e2 : decide (120 < (l.length : Int)) = false := by simp; omega
      rw [if_neg h2]
      by_cases h3 : l = [46]
      · left; subst h3; exact ⟨rfl, rfl, rfl, by simp⟩
      · right
        have e3 : (l == [46]) = false := by simpa using h3
        by_cases h4 : l = [46, 46]
        · left; subst h4; exact ⟨rfl, rfl, rfl, rfl, by simp⟩
        · right
          have e4 : (l == [46, 46]) = false := by simpa using h4
          rw [if_neg (by simp [h3, h4])]
          by_cases h5 : Lib.indexByte l 0 = -1
          · right; rw [h5]; exact ⟨e1, e2, e3, e4, rfl, by simp⟩
          · left
            have := Lib.indexByte_ge l 0
            refine ⟨e1, e2, e3, e4, (Lib.indexByte l 0).toNat, by omega, ?_⟩
            rw [if_pos (by omega)]
theorem two_set (W : World) (b : Nat) {v1 v2 u1 u2 : Value} (h1 : W.cell? ⟨b, 0, none⟩ = some u1) (h2 : W.cell? ⟨b + 1, 0, none⟩ = some u2) :
    ((W.setCell ⟨b, 0, none⟩ v1).setCell ⟨b + 1, 0, none⟩ v2).cell? ⟨b, 0, none⟩ = some v1 ∧ ((W.setCell ⟨b, 0, none⟩ v1).setCell ⟨b + 1, 0, none⟩ v2).cell? ⟨b + 1, 0, none⟩ = some v2 := by
  constructor
  · rw [World.cell?_setCell_other _ _ _ _ (by intro e; injection e with e; omega)]
    exact World.cell?_setCell_same _ _ _ h1
  · refine World.cell?_setCell_same' _ _ _ ?_
    rw [World.cell?_setCell_other _ _ _ _ (by intro e; injection e with e; omega), h2]
    rfl
theorem keeps_two (W : World) (b : Nat) (v1 v2 : Value) : KeepsOthers W ((W.setCell ⟨b, 0, none⟩ v1).setCell ⟨b + 1, 0, none⟩ v2) := (KeepsOthers.setCell W _ _).trans (KeepsOthers.setCell _ _ _)
theorem below_two {w : World} (W : World) (v1 v2 : Value) (hB : Below w.heap.size w W) : Below w.heap.size w ((W.setCell ⟨w.heap.size, 0, none⟩ v1).setCell ⟨w.heap.size + 1, 0, none⟩ v2) :=
  (hB.setCell (p := ⟨w.heap.size, 0, none⟩) (Nat.le_refl _) _).setCell (p := ⟨w.heap.size + 1, 0, none⟩) (by simp) _
set_option maxRecDepth 100000 in
set_option maxHeartbeats 2000000 in
theorem check_walk (p : ByteArray) (hp : p.size ≤ 400) (w : World) :
    Calls Tryd.prog 40 #[.string p] w fun e w' => e = .returned (.tuple #[.int .i64 ((fbW (piecesB 0 p.data.toList)).getD (0, 0)).1, .int .i64 ((fbW (piecesB 0 p.data.toList)).getD (0, 0)).2]) ∧ Below w.heap.size w w' := by
  refine (callsIn_wide (n := 3)).1 ?_
  refine callsIn_of_wp_marks Tryd.func40 rfl trivial ?_ rfl
  simp only [Tryd.ntmps40, List.size_toArray, List.length_cons, List.length_nil, Nat.reduceAdd, Nat.reduceSub, Array.replicate_succ, Array.replicate_zero, List.push_toArray, List.append_toArray, List.nil_append, List.cons_append]
  gi_wp2_with (refine ⟨trivial, ?_⟩; gi_at_call 73; refine (callsIn_wide.2 (each_any _ _)).mono ?_; rintro e w' ⟨rfl, rfl⟩)
  have c0 := cell_new_l w (.int .i64 0) 3
  have c1 := cell_new_l (w.alloc (.cells #[.int .i64 0] 3)) (.int .i64 0) 28
  have c2 := cell_new_l ((w.alloc (.cells #[.int .i64 0] 3)).alloc (.cells #[.int .i64 0] 28)) (.string p) 9
  simp only [World.size_alloc] at c1 c2
  have hB0 : Below w.heap.size w (((w.alloc (.cells #[.int .i64 0] 3)).alloc (.cells #[.int .i64 0] 28)).alloc (.cells #[.string p] 9)) := (((Below.refl _ w).alloc (Nat.le_refl _) _).alloc (by simp) _).alloc (by simp; omega) _
  refine wpIn_rangeFunc_ownF rfl (by omega) (gf := 97) (lb := #[.pointer (some ⟨w.heap.size + 1 + 1, 0, none⟩)]) rfl trivial (enters_of Tryd.func97 (by kernel_rfl) rfl)
    (each_stops (3 - 1) (by omega) (w.heap.size + 1 + 1) p (by omega) _ (by simp) c2.1) box_t (box_b (by simp)) (Below.refl _ _) (fun _ => rfl)
    (fun pre W => (fbW pre = none ∧ W.cell? ⟨w.heap.size, 0, none⟩ = some (.int .i64 0) ∧ W.frozen? ⟨w.heap.size, 0, none⟩ = false ∧ W.cell? ⟨w.heap.size + 1, 0, none⟩ = some (.int .i64 0) ∧ W.frozen? ⟨w.heap.size + 1, 0, none⟩ = false) ∧ Below w.heap.size w W)
    (fun c pre W => (c = .ret ∧ ∃ y : Int × Int, fbW pre = some y ∧ W.cell? ⟨w.heap.size, 0, none⟩ = some (.int .i64 y.1) ∧ W.cell? ⟨w.heap.size + 1, 0, none⟩ = some (.int .i64 y.2)) ∧ Below w.heap.size w W)
    (OwnFrom.and (Own.from (fun s A B row hs hg hr => ⟨hs.1, cell_kept hs.2.1 hg hr, (frozen_kept hs.2.1 hg hr).trans hs.2.2.1, cell_kept hs.2.2.2.1 hg hr, (frozen_kept hs.2.2.2.1 hg hr).trans hs.2.2.2.2⟩) _) (ownFrom_below (Nat.le_refl _) (by simp; omega)))
    (fun c => OwnFrom.and (Own.from (fun s A B row hs hg hr => ⟨hs.1, hs.2.choose, hs.2.choose_spec.1, cell_kept hs.2.choose_spec.2.1 hg hr, cell_kept hs.2.choose_spec.2.2 hg hr⟩) _) (ownFrom_below (Nat.le_refl _) (by simp; omega)))
    ⟨⟨rfl, cell_alloc_l _ (cell_alloc_l _ c0.1), frozen_alloc_l _ (cell_alloc_l _ c0.1) (frozen_alloc_l _ c0.1 c0.2), cell_alloc_l _ c1.1, frozen_alloc_l _ c1.1 c1.2⟩, hB0⟩
    (fun x => { tmps := #[.string p, undef, .pointer (some ⟨w.heap.size, 0, none⟩), .pointer (some ⟨w.heap.size + 1, 0, none⟩), .int .i64 (x.1 : Int), .string x.2, undef, .string p, .int .i64 (p.size : Int), .bool (decide (400 < (p.size : Int))), .string p, .func (.func 97) #[] #[.pointer (some ⟨w.heap.size + 1 + 1, 0, none⟩)], .int .i64 (x.1 : Int), .string x.2, undef, undef, undef, undef, undef, undef, undef, undef, undef, undef, undef, undef, undef, undef, undef, undef, undef, undef, undef, undef, undef, undef, undef, undef], defers := [] }) ?assign ?body ?done ?stop
  case assign =>
    intro l x W K hK
    gi_wp2
    exact hK
  case body =>
    rintro l pre x W ⟨⟨hn, hc1, hf1, hc2, hf2⟩, hB⟩ _
    have Hn := Lib.hid hn
    clear hn
    have hN : 1 ≤ 3 - 1 - 1 := by decide
    have es : x.2.toList = x.2.data.toList := Lib.toList_data x.2
    have el : x.2.data.toList.length = x.2.size := by rw [Array.length_toList]; rfl
    rcases bad_cases x.2.data.toList with ⟨q1, hb⟩ | ⟨q1, q2, hb⟩ | ⟨q1, q2, q3, hb⟩ | ⟨q1, q2, q3, q4, hb⟩ | ⟨q1, q2, q3, q4, m, hm, hb⟩ | ⟨q1, q2, q3, q4, hm, hb⟩
    · as_aux_lemma =>
      have Hb := Lib.hid hb
      rw [← es] at q1
      clear hb es el
      gi_wp2
      exact ⟨keeps_two _ _ _ _, ⟨rfl, _, fbW_snoc_some Hn.out Hb.out, (two_set W w.heap.size hc1 hc2).1, (two_set W w.heap.size hc1 hc2).2⟩, below_two W _ _ hB⟩
    · as_aux_lemma =>
      have Hb := Lib.hid hb
      rw [el] at q2
      rw [← es] at q1
      clear hb es el
      gi_wp2
      exact ⟨keeps_two _ _ _ _, ⟨rfl, _, fbW_snoc_some Hn.out Hb.out, (two_set W w.heap.size hc1 hc2).1, (two_set W w.heap.size hc1 hc2).2⟩, below_two W _ _ hB⟩
    · as_aux_lemma =>
      have Hb := Lib.hid hb
      rw [el] at q2
      rw [← es] at q1 q3
      clear hb es el
      gi_wp2
      exact ⟨keeps_two _ _ _ _, ⟨rfl, _, fbW_snoc_some Hn.out Hb.out, (two_set W w.heap.size hc1 hc2).1, (two_set W w.heap.size hc1 hc2).2⟩, below_two W _ _ hB⟩
    · as_aux_lemma =>
      have Hb := Lib.hid hb
      rw [el] at q2
      rw [← es] at q1 q3 q4
      clear hb es el
      gi_wp2
      exact ⟨keeps_two _ _ _ _, ⟨rfl, _, fbW_snoc_some Hn.out Hb.out, (two_set W w.heap.size hc1 hc2).1, (two_set W w.heap.size hc1 hc2).2⟩, below_two W _ _ hB⟩
    · as_aux_lemma =>
      have Hb := Lib.hid hb
      have Hm := Lib.hid hm
      rw [el] at q2
      rw [← es] at q1 q3 q4
      clear hb es el hm
      gi_wp2_with fail
      refine ⟨trivial, ?_⟩
      refine (CallsIn.inRound l (callsIn_wide.2 (ibyte _ 0 _))).mono ?_
      rw [Hm.out]
      rintro e w' ⟨rfl, rfl⟩
      gi_wp2
      exact ⟨keeps_two _ _ _ _, ⟨rfl, _, fbW_snoc_nul Hn.out Hb.out, (two_set W w.heap.size hc1 hc2).1, (two_set W w.heap.size hc1 hc2).2⟩, below_two W _ _ hB⟩
    · as_aux_lemma =>
      have Hb := Lib.hid hb
      have Hm := Lib.hid hm
      rw [el] at q2
      rw [← es] at q1 q3 q4
      clear hb es el hm
      gi_wp2_with fail
      refine ⟨trivial, ?_⟩
      refine (CallsIn.inRound l (callsIn_wide.2 (ibyte _ 0 _))).mono ?_
      rw [Hm.out]
      rintro e w' ⟨rfl, rfl⟩
      gi_wp2
      exact ⟨KeepsOthers.refl _, rfl, ⟨fbW_snoc_none Hn.out Hb.out, hc1, hf1, hc2, hf2⟩, hB⟩
  case done =>
    rintro D ys W hD rfl ⟨⟨hn, hc1, hf1, hc2, hf2⟩, hB⟩ hK
    gi_wp2
    have hK' := (keeps_two W w.heap.size (.int .i64 0) (.int .i64 0)).same D _ hK rfl
    have h2 := two_set W w.heap.size (v1 := .int .i64 0) (v2 := .int .i64 0) hc1 hc2
    refine ⟨by simp, .inl ⟨_, _, rfl, run_takeDeferred hK', ?_⟩⟩
    have hc5 := cell_kept h2.1 (grownBy_putObj' _ D (.deferred none)) (fun r e => by cases e; exact ⟨_, hK', rfl⟩)
    have hc6 := cell_kept h2.2 (grownBy_putObj' _ D (.deferred none)) (fun r e => by cases e; exact ⟨_, hK', rfl⟩)
    refine ⟨.tuple #[.int .i64 0, .int .i64 0], ?_, by rw [hn]; rfl, (below_two W _ _ hB).trans (belowK_b (w := w) (Nat.le_refl _) _ D _ _ (by simp at hD; omega) hK' rfl rfl)⟩
    simp [results, Tryd.f40, go_sem, hc5, hc6]
  case stop =>
    rintro D c pre W hD hpre ⟨⟨rfl, y, hy, hc1, hc2⟩, hB⟩ hK
    gi_wp2
    refine ⟨by simp, .inl ⟨_, _, rfl, run_takeDeferred hK, ?_⟩⟩
    have hc5 := cell_kept hc1 (grownBy_putObj' _ D (.deferred none)) (fun r e => by cases e; exact ⟨_, hK, rfl⟩)
    have hc6 := cell_kept hc2 (grownBy_putObj' _ D (.deferred none)) (fun r e => by cases e; exact ⟨_, hK, rfl⟩)
    refine ⟨.tuple #[.int .i64 y.1, .int .i64 y.2], ?_, by rw [fbW_prefix hy hpre]; rfl, hB.trans (belowK_b (w := w) (Nat.le_refl _) W D _ _ (by simp at hD; omega) hK rfl rfl)⟩
    simp [results, Tryd.f40, go_sem, hc5, hc6]
theorem fbW_eq : ∀ (l : List (Nat × List UInt8)), (∀ x ∈ l, x.1 + x.2.length ≤ 400) → fbW (l.map fun x => (x.1, bytesOfL x.2)) = (Nm.firstBad l).map fun y => ((y.1 : Int), (y.2 : Int))
  | [], _ => rfl
  | x :: r, h => by
    simp only [List.map_cons, fbW, Nm.firstBad]
    have e : (bytesOfL x.2).data.toList = x.2 := rfl
    rw [e]
    cases hb : Nm.bad x.2 with
    | none => exact fbW_eq r fun y hy => h y (List.mem_cons_of_mem _ hy)
    | some z =>
      obtain ⟨m, q⟩ := z
      have hx := h x (List.mem_cons_self ..)
      rcases Nm.bad_some hb with ⟨rfl, hm⟩ | ⟨hq, rfl⟩
      · simp only [if_true, Option.map_some, Option.some.injEq, Prod.mk.injEq, and_true]
        unfold wrap64; omega
      · simp only [if_neg hq, Option.map_some, Nat.add_zero]
set_option maxHeartbeats 2000000 in
set_option maxRecDepth 100000 in
theorem check_long (p : ByteArray) (hp : 400 < p.size) (w : World) :
    Calls Tryd.prog 40 #[.string p] w fun e w' => e = .returned (.tuple #[.int .i64 0, .int .i64 2]) ∧ Below w.heap.size w w' := by
  have hd : decide (400 < (p.size : Int)) = true := by simp; omega
  go_enter Tryd.func40, Tryd.ntmps40
  go_wp2
  exact bodyPost_ret (v := .tuple #[.int .i64 0, .int .i64 2]) (by simp [results, Tryd.f40, go_sem]) rfl ⟨rfl, ((Below.refl _ w).alloc (Nat.le_refl _) _).alloc (by simp) _⟩
theorem check_any (p : ByteArray) (w : World) :
    Calls Tryd.prog 40 #[.string p] w fun e w' => e = .returned (.tuple #[.int .i64 ((Nm.check p.data.toList).1 : Int), .int .i64 ((Nm.check p.data.toList).2 : Int)]) ∧ Below w.heap.size w w' := by
  have hl : p.data.toList.length = p.size := by rw [Array.length_toList]; rfl
  by_cases h : 400 < p.size
  · unfold Nm.check
    rw [if_pos (by omega)]
    exact check_long p h w
  · have hb := Nm.pieces_bound p.data.toList 0
    refine (check_walk p (by omega) w).mono ?_
    rintro e w' ⟨rfl, h2⟩
    refine ⟨?_, h2⟩
    unfold Nm.check piecesB
    rw [fbW_eq _ (fun x hx => by have := hb x hx; omega), if_neg (by omega)]
    cases Nm.firstBad (Nm.pieces 0 p.data.toList) <;> rfl
end Go.Proofs.YthpecpkncifngaaDoor
end

-- PRINTED by print.py (a twelfth state) out of the translation. Not trusted: Lean checks it.
section
namespace Go.Proofs.YthpecpkncifngaaDoor.XS
open Go.RowKit Go.Proofs.YthpecpkncifngaaDoorW.PrintWords Go.Proofs.YthpecpkncifngaaDoorW.PrintLast Go.Proofs.YthpecpkncifngaaDoorW.PrintMore
attribute [local go_sem] max2_int min2_int max_two min_two max_three min_three max_four min_four   -- for this text's walks alone
def errW : Option Int → Value
  | none => .nilIface
  | some c => .iface 0 (.int .i64 c)
theorem errW_none : errW none = .nilIface := rfl
theorem errW_some (c : Int) : errW (some c) = .iface 0 (.int .i64 c) := rfl
theorem info9 : (Tryd.prog.info? 9).map (fun i => (i.zero, i.size, i.bytes)) = some (some (.string ⟨#[]⟩), 1, 16) := by kernel_rfl
-- the values' own types
end Go.Proofs.YthpecpkncifngaaDoor.XS
end

-- PRINTED by print.py (a twelfth state) out of the translation. Not trusted: Lean checks it.
section
namespace Go.Proofs.YthpecpkncifngaaDoor.XS
open Go.RowKit Go.Proofs.YthpecpkncifngaaDoorW.PrintWords Go.Proofs.YthpecpkncifngaaDoorW.PrintLast Go.Proofs.YthpecpkncifngaaDoorW.PrintMore
attribute [local go_sem] max2_int min2_int max_two min_two max_three min_three max_four min_four   -- for this text's walks alone
theorem one_byte (a : ByteArray) (h : a.size = 1) : a = ⟨#[a.data.toList.headD 0]⟩ := by
  obtain ⟨⟨l⟩⟩ := a
  match l, h with
  | [x], _ => rfl
def strings_explode.f (_ : ByteArray) (_ : Int) : Option (List ByteArray) := none
theorem strings_explode.calls (a0 : ByteArray) (a1 : Int) (r : List ByteArray) (w : World) (h : strings_explode.f a0 a1 = some r) :
    Calls Tryd.prog 116 #[.string a0, .int .i64 a1] w fun e w' => ∃ v0_ : Value, e = .returned (v0_) ∧ Kd.R Kd.string 9 w' w.heap.size (fun _ => True) v0_ r ∧ Below w.heap.size w w' := by
  simp [strings_explode.f] at h
def strings_Count.f (a0 a1 : ByteArray) : Option Int := if a1.size = 1 then some (Lib.countByte a0.data.toList (a1.data.toList.headD 0) : Nat) else none
theorem strings_Count.calls (a0 : ByteArray) (a1 : ByteArray) (r : Int) (w : World) (h : strings_Count.f a0 a1 = some r) :
    Calls Tryd.prog 117 #[.string a0, .string a1] w fun e w' => e = .returned (.int .i64 r) ∧ Drawn0 w w' := by
  unfold strings_Count.f at h
  split at h
  · rename_i h1
    obtain rfl := Option.some.inj h
    have e := one_byte a1 h1
    rw [e]
    refine (Tryd.strings_Count_one a0 (a1.data.toList.headD 0) w).mono ?_
    rintro e w' ⟨rfl, rfl⟩
    exact ⟨rfl, Drawn0.refl _⟩
  · simp at h
def strings_Index.f (a0 a1 : ByteArray) : Option Int := if a1.size = 1 then some (Lib.indexByte a0.data.toList (a1.data.toList.headD 0)) else none
theorem strings_Index.calls (a0 : ByteArray) (a1 : ByteArray) (r : Int) (w : World) (h : strings_Index.f a0 a1 = some r) :
    Calls Tryd.prog 118 #[.string a0, .string a1] w fun e w' => e = .returned (.int .i64 r) ∧ Drawn0 w w' := by
  unfold strings_Index.f at h
  split at h
  · rename_i h1
    obtain rfl := Option.some.inj h
    have e := one_byte a1 h1
    rw [e]
    refine (Tryd.strings_Index_one a0 (a1.data.toList.headD 0) w).mono ?_
    rintro e w' ⟨rfl, rfl⟩
    exact ⟨rfl, Drawn0.refl _⟩
  · simp at h
mutual
def strings_genSplit.j0 : Nat → ByteArray → ByteArray → Int → Int → Option (List ByteArray)
  | 0, _, _, _, _ => none
  | k + 1, x0, x1, x2, x3 => if 0 ≤ (mn x3 (wrap64 ((x0.size : Int) + 1))) then (if (mn x3 (wrap64 ((x0.size : Int) + 1)) : Int).toNat ≤ 17592186044416 then (strings_genSplit.l0 k x0 x1 x2 (wrap64 ((mn x3 (wrap64 ((x0.size : Int) + 1))) - 1)) (List.replicate (mn x3 (wrap64 ((x0.size : Int) + 1)) : Int).toNat (⟨#[]⟩ : ByteArray)) 0) else (none)) else (none)
def strings_genSplit.l0 : Nat → ByteArray → ByteArray → Int → Int → List ByteArray → Int → Option (List ByteArray)
  | 0, _, _, _, _, _, _ => none
  | k + 1, x0, x1, x2, x3, x9, x10 => if x10 < x3 then ((strings_Index.f x0 x1).bind fun t108 => (if t108 < 0 then (if 0 ≤ x10 then (if x10 < (x9.length : Int) then (if 0 ≤ (wrap64 (x10 + 1)) then (if (wrap64 (x10 + 1)) ≤ (x9.length : Int) then (some ((x9.set (x10 : Int).toNat x0).take ((wrap64 (x10 + 1)) : Int).toNat)) else (none)) else (none)) else (none)) else (none)) else (if 0 ≤ (wrap64 (t108 + x2)) then (if (wrap64 (t108 + x2)) ≤ (x0.size : Int) then (if 0 ≤ x10 then (if x10 < (x9.length : Int) then (if 0 ≤ (wrap64 (t108 + (x1.size : Int))) then (if (wrap64 (t108 + (x1.size : Int))) ≤ (x0.size : Int) then (strings_genSplit.l0 k (x0.extract ((wrap64 (t108 + (x1.size : Int))) : Int).toNat x0.size) x1 x2 x3 (x9.set (x10 : Int).toNat (x0.extract 0 ((wrap64 (t108 + x2)) : Int).toNat)) (wrap64 (x10 + 1))) else (none)) else (none)) else (none)) else (none)) else (none)) else (none)))) else (if 0 ≤ x10 then (if x10 < (x9.length : Int) then (if 0 ≤ (wrap64 (x10 + 1)) then (if (wrap64 (x10 + 1)) ≤ (x9.length : Int) then (some ((x9.set (x10 : Int).toNat x0).take ((wrap64 (x10 + 1)) : Int).toNat)) else (none)) else (none)) else (none)) else (none))
end
def strings_genSplit.f (k : Nat) (a0 : ByteArray) (a1 : ByteArray) (a2 : Int) (a3 : Int) : Option (List ByteArray) := if a3 = 0 then (some ([] : List ByteArray)) else (if a1.toList = ([] : List UInt8) then ((strings_explode.f a0 a3).bind fun t101 => (some t101)) else (if a3 < 0 then ((strings_Count.f a0 a1).bind fun t104 => (strings_genSplit.j0 k a0 a1 a2 (wrap64 (t104 + 1)))) else (strings_genSplit.j0 k a0 a1 a2 a3)))
set_option maxHeartbeats 8000000 in
set_option maxRecDepth 100000 in
theorem strings_genSplit.calls (k : Nat) (a0 : ByteArray) (a1 : ByteArray) (a2 : Int) (a3 : Int) (r : List ByteArray) (w : World) (h : strings_genSplit.f k a0 a1 a2 a3 = some r) :
    Calls Tryd.prog 101 #[.string a0, .string a1, .int .i64 a2, .int .i64 a3] w fun e w' => ∃ v0_ : Value, e = .returned (v0_) ∧ Kd.R Kd.string 9 w' w.heap.size (fun _ => True) v0_ r ∧ Below w.heap.size w w' := by
  have HB := Aside0.mk (Below.refl w.heap.size w)
  have H : (if a3 = 0 then (some ([] : List ByteArray)) else (if a1.toList = ([] : List UInt8) then ((strings_explode.f a0 a3).bind fun t101 => (some t101)) else (if a3 < 0 then ((strings_Count.f a0 a1).bind fun t104 => (strings_genSplit.j0 k a0 a1 a2 (wrap64 (t104 + 1)))) else (strings_genSplit.j0 k a0 a1 a2 a3)))) = some r := h
  clear h
  by_cases c5 : a3 = 0
  · rw [if_pos c5] at H
    have c5b0 : (a3 == 0) = true := beq_iff_eq.mpr c5
    have c5b1 : (a3 != 0) = false := bne_eq_false_iff_eq.mpr c5
    clear c5
    obtain rfl := Option.some.inj H
    go_enter Tryd.func101, Tryd.ntmps101
    go_wp2
    go_ret
    exact ⟨_, by first | rfl | (simp [errW_none, errW_some] <;> rfl) | (simp [*, errW_none, errW_some] <;> rfl), by first | exact Kd.R_nil _ _ _ _ _ | exact Kd.N_nil _ _ _ _ _ | exact Kd.V_nil _ _ _ _ _ | exact Kd.Q_nil _ _ _ _ _ | exact Kd.S_nil _ _ _ _ _, by repeat (first | (with_reducible first | exact HB.out | apply below_alloc | apply pw_below_drewN | apply below_drew1) | exact HB.out)⟩
  · rw [if_neg c5] at H
    have c5b0 : (a3 == 0) = false := beq_eq_false_iff_ne.mpr c5
    have c5b1 : (a3 != 0) = true := bne_iff_ne.mpr c5
    by_cases c6 : a1.toList = ([] : List UInt8)
    · rw [if_pos c6] at H
      have c6b0 : (a1.toList == ([] : List UInt8)) = true := beq_iff_eq.mpr c6
      have c6b1 : (a1.toList != ([] : List UInt8)) = false := bne_eq_false_iff_eq.mpr c6
      clear c6
      replace H := Option.bind_eq_some_iff.mp H
      obtain ⟨t101, A70, H⟩ := H
      replace H : (some t101) = some r := H
      have A7 := Aside0.mk A70
      clear A70
      obtain rfl := Option.some.inj H
      go_enter Tryd.func101, Tryd.ntmps101
      go_wp2_with (first | ((with_reducible refine gate_callee (f := 116) rfl ?_); refine goesL_ (some 18) rfl rfl Tryd.func116 (by kernel_rfl) rfl #[.string a0, .int .i64 a3] rfl (by (try simp only [List.map_toArray, List.map_cons, List.map_nil]); first | done | rfl | (simp only [List.length_drop, List.length_take]; rfl)) ?_; (with_reducible refine (strings_explode.calls a0 a3 t101 _ A7.out).mono ?_); rintro e w8 ⟨v102, rfl, ho0, hb⟩; refine ⟨_, rfl, ?_⟩; have n0_ := Aside0.mk (Kd.R_lower ho0 (below_size (by repeat (first | (with_reducible first | exact HB.out | apply below_alloc | apply pw_below_drewN | apply below_drew1) | exact HB.out)))); have n1_ := Aside0.mk (below_step (by repeat (first | (with_reducible first | exact HB.out | apply below_alloc | apply pw_below_drewN | apply below_drew1) | exact HB.out)) hb); clear HB; have HO103 := n0_; have HB := n1_; clear n0_ n1_; (try clear hb); (try clear hb2); (try clear hk); (try clear hi); (try clear ho0)))
      go_ret
      exact ⟨_, by first | rfl | (simp [errW_none, errW_some] <;> rfl) | (simp [*, errW_none, errW_some] <;> rfl), by (with_reducible repeat (first | apply Kd.R_alloc | apply Kd.R_drewN | apply Kd.R_drew)); exact HO103.out, by repeat (first | (with_reducible first | exact HB.out | apply below_alloc | apply pw_below_drewN | apply below_drew1) | exact HB.out)⟩
    · rw [if_neg c6] at H
      have c6b0 : (a1.toList == ([] : List UInt8)) = false := beq_eq_false_iff_ne.mpr c6
      have c6b1 : (a1.toList != ([] : List UInt8)) = true := bne_iff_ne.mpr c6
      have HC9 := Aside0.mk H
      clear H
      go_enter Tryd.func101, Tryd.ntmps101
      go_upto_if 20 with (fail)
      go_cut [3] (fun v3 wc => ∃ (kq : Nat) (x3_8 : Int), v3 = .int .i64 x3_8 ∧ Aside0 (strings_genSplit.j0 kq a0 a1 a2 x3_8 = some r) ∧ Aside0 (kq ≤ k) ∧ Aside0 (Below w.heap.size w wc))
      case first =>
        have H := HC9.out
        clear HC9
        by_cases c10 : a3 < 0
        · rw [if_pos c10] at H
          have c10b0 : decide (a3 < 0) = true := decide_eq_true c10
          clear c10
          (first | rw [c10b0] | (simp only [i64_w, i32_w]; rw [c10b0]) | skip)
          replace H := Option.bind_eq_some_iff.mp H
          obtain ⟨t104, A110, H⟩ := H
          replace H : (strings_genSplit.j0 k a0 a1 a2 (wrap64 (t104 + 1))) = some r := H
          have A11 := Aside0.mk A110
          clear A110
          have H' := Aside0.mk H
          clear H
          go_wp2_with (first | ((with_reducible refine gate_callee (f := 117) rfl ?_); refine goesL_ (some 23) rfl rfl Tryd.func117 (by kernel_rfl) rfl #[.string a0, .string a1] rfl (by (try simp only [List.map_toArray, List.map_cons, List.map_nil]); first | done | rfl | (simp only [List.length_drop, List.length_take]; rfl)) ?_; (with_reducible refine (strings_Count.calls a0 a1 t104 _ A11.out).mono ?_); rintro e w' ⟨rfl, ⟨nd, rfl⟩⟩; refine ⟨_, rfl, ?_⟩))
          go_meet
          case rel => exact ⟨_, (wrap64 (t104 + 1)), (by first | rfl | (simp; done) | (simp [*]; done)), H', ⟨by first | omega | exact Nat.le_refl _⟩, ⟨by repeat (first | (with_reducible first | exact HB.out | apply below_alloc | apply pw_below_drewN | apply below_drew1) | exact HB.out)⟩⟩
        · rw [if_neg c10] at H
          have c10b0 : decide (a3 < 0) = false := decide_eq_false c10
          clear c10
          (first | rw [c10b0] | (simp only [i64_w, i32_w]; rw [c10b0]) | skip)
          have H' := Aside0.mk H
          clear H
          go_wp2
          go_meet
          case rel => exact ⟨_, (a3), (by first | rfl | (simp; done) | (simp [*]; done)), H', ⟨by first | omega | exact Nat.le_refl _⟩, ⟨by repeat (first | (with_reducible first | exact HB.out | apply below_alloc | apply pw_below_drewN | apply below_drew1) | exact HB.out)⟩⟩
      case rest =>
        clear HC9
        try clear c1
        try clear p2
        try clear c5
        try clear c5b0
        try clear c5b1
        try clear c6
        try clear c6b0
        try clear c6b1
        try clear p6
        try clear c10
        try clear c10b0
        try clear c11
        obtain ⟨kq, x3_8, rfl, HA, HJ8, HB⟩ := hcut
        cases kq with
        | zero => exact absurd HA.out (by simp [strings_genSplit.j0])
        | succ kj8 =>
          have H := HA.out
          clear HA
          simp only [strings_genSplit.j0] at H
          obtain ⟨ji12, hji12⟩ : ∃ j_ : Int, (mn x3_8 (wrap64 ((a0.size : Int) + 1))) = j_ := ⟨_, rfl⟩
          replace H : (if 0 ≤ (ji12) then (if (ji12 : Int).toNat ≤ 17592186044416 then (strings_genSplit.l0 kj8 a0 a1 a2 (wrap64 ((ji12) - 1)) (List.replicate (ji12 : Int).toNat (⟨#[]⟩ : ByteArray)) 0) else (none)) else (none)) = some r := by first | (rw [hji12] at H; exact H) | (simp only [hji12] at H ⊢; exact H)
          have hji12_ : (if (wrap64 ((a0.size : Int) + 1)) < x3_8 then (wrap64 ((a0.size : Int) + 1)) else x3_8) = ji12 := hji12
          by_cases c13 : 0 ≤ (ji12)
          · rw [if_pos c13] at H
            have c13b0 := eq_true c13
            have c13b1 : decide (0 ≤ (ji12)) = true := decide_eq_true c13
            clear c13
            by_cases c14 : (ji12 : Int).toNat ≤ 17592186044416
            · rw [if_pos c14] at H
              have c14b0 := eq_true c14
              have c14b1 : decide ((ji12 : Int).toNat ≤ 17592186044416) = true := decide_eq_true c14
              clear c14
              obtain ⟨y105, hy105⟩ : ∃ y_ : List ByteArray, y_ = (List.replicate (ji12 : Int).toNat (⟨#[]⟩ : ByteArray)) := ⟨_, rfl⟩
              replace H : (strings_genSplit.l0 kj8 a0 a1 a2 (wrap64 ((ji12) - 1)) y105 0) = some r := by first | (rw [hy105]; with_reducible exact H) | (have H2_ := (Option.bind_some _ _).symm.trans H; rw [hy105]; with_reducible exact H2_) | (have H2_ := (Option.bind_some _ _).symm.trans H; with_reducible exact H2_) | with_reducible exact H | (rw [hy105]; exact H) | exact H
              have Ny105 := Aside0.mk hy105
              clear hy105
              have H' := Aside0.mk H
              clear H
              go_wp2_with (first | ((with_reducible refine gate_dst (N := 31) rfl ?_); refine Kd.R_make Kd.string _ 9 rfl (N := 31) rfl 60 _ _ rfl ji12 rfl rfl Tryd.underlying60 (.string ⟨#[]⟩) 16 info9 rfl (by decide) (by omega) (⟨#[]⟩ : ByteArray) (ok := fun _ => True) (okp := fun _ => True) rfl (fun _ hk => hk) trivial (of_decide_eq_true (by first | (with_reducible assumption) | assumption)) (Nat.le_trans (Nat.mul_le_mul_right _ (of_decide_eq_true (by first | (with_reducible assumption) | assumption) : ji12.toNat ≤ 17592186044416)) (by omega)) (Below.refl _ _) (Nat.le_refl _) ?_; intro v106 w15 ho16 hb hg_ hnew_; clear hg_ hnew_; (first | rw [← Ny105.out] at ho16 | (simp only [Int.reduceToNat] at ho16; rw [← Ny105.out] at ho16)); have n0_ := Aside0.mk (Kd.R_lower ho16 (below_size (by repeat (first | (with_reducible first | exact HB.out | apply below_alloc | apply pw_below_drewN | apply below_drew1) | exact HB.out)))); have n1_ := Aside0.mk (below_step (by repeat (first | (with_reducible first | exact HB.out | apply below_alloc | apply pw_below_drewN | apply below_drew1) | exact HB.out)) hb); clear HB; have HO107 := n0_; have HB := n1_; clear n0_ n1_; clear hb ho16))
              go_loopg [0, 10] kj8 (fun kq v0 v10 w' => ∃ (x0_2 : ByteArray) (x9_2 : List ByteArray) (x10_2 : Int), v0 = .string x0_2 ∧ v10 = .int .i64 x10_2 ∧ Aside0 (strings_genSplit.l0 kq x0_2 a1 a2 (wrap64 ((ji12) - 1)) x9_2 x10_2 = some r) ∧ Aside0 (kq ≤ kj8) ∧ Aside0 (Kd.R Kd.string 9 w' w.heap.size (fun _ => True) v106 x9_2) ∧ Aside0 (Below w.heap.size w w'))
              case atStart => exact ⟨(a0), (y105), (0), (by first | rfl | (simp; done) | (simp [*]; done)), (by first | rfl | (simp; done) | (simp [*]; done)), H', ⟨Nat.le_refl _⟩, ⟨by (with_reducible repeat (first | apply Kd.R_alloc | apply Kd.R_drewN | apply Kd.R_drew)); exact HO107.out⟩, ⟨by repeat (first | (with_reducible first | exact HB.out | apply below_alloc | apply pw_below_drewN | apply below_drew1) | exact HB.out)⟩⟩
              case round =>
                clear H'
                try clear c1
                try clear p2
                try clear c5
                try clear c5b0
                try clear c5b1
                try clear c6
                try clear c6b0
                try clear c6b1
                try clear p6
                try clear c10
                try clear c10b0
                try clear c11
                try clear c13
                try clear c13b0
                try clear c13b1
                try clear c14
                try clear c14b0
                try clear c14b1
                try clear p2
                try clear p6
                obtain ⟨x0_2, x9_2, x10_2, rfl, rfl, HA, HK2, HO_9, HB⟩ := hrel
                cases gk with
                | zero => exact absurd HA.out (by simp [strings_genSplit.l0])
                | succ k2 =>
                  have H := HA.out
                  clear HA
                  simp only [strings_genSplit.l0] at H
                  by_cases c17 : x10_2 < (wrap64 ((ji12) - 1))
                  · rw [if_pos c17] at H
                    have c17b0 : decide (x10_2 < (wrap64 ((ji12) - 1))) = true := decide_eq_true c17
                    clear c17
                    replace H := Option.bind_eq_some_iff.mp H
                    obtain ⟨t108, A180, H⟩ := H
                    replace H : (if t108 < 0 then (if 0 ≤ x10_2 then (if x10_2 < (x9_2.length : Int) then (if 0 ≤ (wrap64 (x10_2 + 1)) then (if (wrap64 (x10_2 + 1)) ≤ (x9_2.length : Int) then (some ((x9_2.set (x10_2 : Int).toNat x0_2).take ((wrap64 (x10_2 + 1)) : Int).toNat)) else (none)) else (none)) else (none)) else (none)) else (if 0 ≤ (wrap64 (t108 + a2)) then (if (wrap64 (t108 + a2)) ≤ (x0_2.size : Int) then (if 0 ≤ x10_2 then (if x10_2 < (x9_2.length : Int) then (if 0 ≤ (wrap64 (t108 + (a1.size : Int))) then (if (wrap64 (t108 + (a1.size : Int))) ≤ (x0_2.size : Int) then (strings_genSplit.l0 k2 (x0_2.extract ((wrap64 (t108 + (a1.size : Int))) : Int).toNat x0_2.size) a1 a2 (wrap64 ((ji12) - 1)) (x9_2.set (x10_2 : Int).toNat (x0_2.extract 0 ((wrap64 (t108 + a2)) : Int).toNat)) (wrap64 (x10_2 + 1))) else (none)) else (none)) else (none)) else (none)) else (none)) else (none))) = some r := H
                    have A18 := Aside0.mk A180
                    clear A180
                    by_cases c19 : t108 < 0
                    · rw [if_pos c19] at H
                      have c19b0 : decide (t108 < 0) = true := decide_eq_true c19
                      clear c19
                      by_cases c20 : 0 ≤ x10_2
                      · rw [if_pos c20] at H
                        have c20b0 : decide (0 ≤ x10_2) = true := decide_eq_true c20
                        clear c20
                        by_cases c21 : x10_2 < (x9_2.length : Int)
                        · rw [if_pos c21] at H
                          have c21b0 : decide (x10_2 < (x9_2.length : Int)) = true := decide_eq_true c21
                          clear c21
                          obtain ⟨y109, hy109⟩ : ∃ y_ : List ByteArray, y_ = (x9_2.set (x10_2 : Int).toNat x0_2) := ⟨_, rfl⟩
                          replace H : (if 0 ≤ (wrap64 (x10_2 + 1)) then (if (wrap64 (x10_2 + 1)) ≤ (x9_2.length : Int) then (some (y109.take ((wrap64 (x10_2 + 1)) : Int).toNat)) else (none)) else (none)) = some r := by first | (rw [hy109]; with_reducible exact H) | (have H2_ := (Option.bind_some _ _).symm.trans H; rw [hy109]; with_reducible exact H2_) | (have H2_ := (Option.bind_some _ _).symm.trans H; with_reducible exact H2_) | with_reducible exact H | (rw [hy109]; exact H) | exact H
                          have Ny109 := Aside0.mk hy109
                          clear hy109
                          obtain ⟨ji23, hji23⟩ : ∃ j_ : Int, (wrap64 (x10_2 + 1)) = j_ := ⟨_, rfl⟩
                          replace H : (if 0 ≤ (ji23) then (if (ji23) ≤ (x9_2.length : Int) then (some (y109.take ((ji23) : Int).toNat)) else (none)) else (none)) = some r := by first | (rw [hji23] at H; exact H) | (simp only [hji23] at H ⊢; exact H)
                          (try rw [hji23] at A18)
                          have hji23w : (IntKind.i64.wrap (x10_2 + 1)) = ji23 := (i64_w _).trans hji23
                          by_cases c24 : 0 ≤ (ji23)
                          · rw [if_pos c24] at H
                            have c24b0 := eq_true c24
                            have c24b1 : decide (0 ≤ (ji23)) = true := decide_eq_true c24
                            clear c24
                            by_cases c25 : (ji23) ≤ (x9_2.length : Int)
                            · rw [if_pos c25] at H
                              have c25b0 := eq_true c25
                              have c25b1 : decide ((ji23) ≤ (x9_2.length : Int)) = true := decide_eq_true c25
                              clear c25
                              obtain ⟨y110, hy110⟩ : ∃ y_ : List ByteArray, y_ = (y109.take ((ji23) : Int).toNat) := ⟨_, rfl⟩
                              replace H : (some y110) = some r := by first | (rw [hy110]; with_reducible exact H) | (have H2_ := (Option.bind_some _ _).symm.trans H; rw [hy110]; with_reducible exact H2_) | (have H2_ := (Option.bind_some _ _).symm.trans H; with_reducible exact H2_) | with_reducible exact H | (rw [hy110]; exact H) | exact H
                              have Ny110 := Aside0.mk hy110
                              clear hy110
                              obtain rfl := Option.some.inj H
                              go_wp2_with (first | ((with_reducible refine gate_callee (f := 118) rfl ?_); refine goesL_ (some 39) rfl rfl Tryd.func118 (by kernel_rfl) rfl #[.string x0_2, .string a1] rfl (by (try simp only [List.map_toArray, List.map_cons, List.map_nil]); first | done | rfl | (simp only [List.length_drop, List.length_take]; rfl)) ?_; (with_reducible refine (strings_Index.calls x0_2 a1 t108 _ A18.out).mono ?_); rintro e w' ⟨rfl, ⟨nd, rfl⟩⟩; refine ⟨_, rfl, ?_⟩; (try (rw [drewN_self wr]; generalize hq_ : World.drewN wr _ = wr; have n0_ : Aside0 (Kd.R Kd.string 9 wr w.heap.size (fun _ => True) v106 x9_2) := ⟨by rw [← hq_]; exact (by (with_reducible repeat (first | apply Kd.R_alloc | apply Kd.R_drewN | apply Kd.R_drew)); exact HO_9.out)⟩; have n1_ : Aside0 (Below w.heap.size w wr) := ⟨by rw [← hq_]; exact (by repeat (first | (with_reducible first | exact HB.out | apply below_alloc | apply pw_below_drewN | apply below_drew1) | exact HB.out))⟩; clear HO_9 HB hq_; have HO_9 := n0_; have HB := n1_; clear n0_ n1_)); have p22 : 0 ≤ (x10_2 : Int) := of_decide_eq_true (by first | (with_reducible assumption) | assumption); have q22 : (x10_2 : Int) < ((x9_2.length : Int) : Int) := of_decide_eq_true (by first | (with_reducible assumption) | assumption); obtain ⟨go22, co22, eo22, gb22, gl22, cl22, HG22⟩ := Kd.R_form HO_9.out (by omega); (first | cases eo22 | (injection eo22 with ea_ en_ ec_; (first | subst ea_ | (injection ea_ with ea_; subst ea_)); subst ec_; clear en_)); have GB22 := Aside0.mk gb22; have GG22 := Aside0.mk HG22; clear gb22 gl22 HG22; obtain ⟨hx22_0, hf22_0⟩ := Kd.R_celln (⟨#[]⟩ : ByteArray) HO_9.out (x10_2 : Int) p22 q22; replace p22 := eq_true p22; replace q22 := eq_true q22; obtain ⟨hy26_, hz26_⟩ := Kd.R_celln (⟨#[]⟩ : ByteArray) HO_9.out (x10_2 : Int) (of_decide_eq_true (by first | (with_reducible assumption) | assumption)) (of_decide_eq_true (by first | (with_reducible assumption) | assumption)); have HP26 := Kd.R_putg HO_9.out (x10_2 : Int) x0_2; have hl_ : y109.length = x9_2.length := (by rw [Ny109.out, List.length_set]); have hp_ : Kd.R Kd.string 9 (wr.setCell ⟨go22, (x10_2 : Int).toNat, none⟩ (.string x0_2)) w.heap.size (fun _ => True) (.slice (some ⟨go22, 0, none⟩) x9_2.length co22) y109 := (by rw [Ny109.out]; exact HP26.1); clear HP26; have n0_ := Aside0.mk hp_; have n1_ := Aside0.mk (below_set (HB.out) GB22.out : Below w.heap.size w (wr.setCell ⟨go22, (x10_2 : Int).toNat, none⟩ (.string x0_2))); clear HO_9; clear HB; have HO_9 := n0_; have HB := n1_; clear n0_ n1_ hp_; have q28 : ((ji23) : Int) ≤ ((x9_2.length : Int) : Int) := of_decide_eq_true (by first | (with_reducible assumption) | assumption); obtain ⟨i028, hi028, _, hsz28, _⟩ := info_parts info9; have hcut28 := cut_to (P := Tryd.prog) 60 9 .i64 Tryd.underlying60 hi028 (some ⟨go22, 0, none⟩) x9_2.length co22 (ji23) (of_decide_eq_true (by first | (with_reducible assumption) | assumption)) q28 (Kd.R_reads' HO_9.out).2.1; have hr28 := Kd.R_take (m := ((ji23) : Int).toNat) HO_9.out (by omega); have hy28 : y110.length = ((ji23) : Int).toNat := (by rw [Ny110.out, List.length_take]; omega); rw [← Ny110.out] at hr28; rw [← hy28] at hr28 hcut28; clear hy28 hi028 hsz28 HO_9; have HO112 := Aside0.mk hr28; clear hr28; replace q28 := eq_true q28))
                              (refine bodyPost_ret (v := .slice (some ⟨go22, 0, none⟩) y110.length co22) ?_ ?_ ?_; exact (by exact results_tmp (fn := Tryd.f101) (t := 8) rfl _ _ _); rfl)
                              exact ⟨_, by first | rfl | (simp [errW_none, errW_some] <;> rfl) | (simp only [← hji12, ← hji23]; first | rfl | (simp [errW_none, errW_some] <;> rfl)) | (simp [*, errW_none, errW_some] <;> rfl), by (with_reducible repeat (first | apply Kd.R_alloc | apply Kd.R_drewN | apply Kd.R_drew)); exact HO112.out, by repeat (first | (with_reducible first | exact HB.out | apply below_alloc | apply pw_below_drewN | apply below_drew1) | exact HB.out)⟩
                            · rw [if_neg c25] at H
                              exact absurd H (by simp)
                          · rw [if_neg c24] at H
                            exact absurd H (by simp)
                        · rw [if_neg c21] at H
                          exact absurd H (by simp)
                      · rw [if_neg c20] at H
                        exact absurd H (by simp)
                    · rw [if_neg c19] at H
                      have c19b0 : decide (t108 < 0) = false := decide_eq_false c19
                      clear c19
                      obtain ⟨ji29, hji29⟩ : ∃ j_ : Int, (wrap64 (t108 + a2)) = j_ := ⟨_, rfl⟩
                      replace H : (if 0 ≤ (ji29) then (if (ji29) ≤ (x0_2.size : Int) then (if 0 ≤ x10_2 then (if x10_2 < (x9_2.length : Int) then (if 0 ≤ (wrap64 (t108 + (a1.size : Int))) then (if (wrap64 (t108 + (a1.size : Int))) ≤ (x0_2.size : Int) then (strings_genSplit.l0 k2 (x0_2.extract ((wrap64 (t108 + (a1.size : Int))) : Int).toNat x0_2.size) a1 a2 (wrap64 ((ji12) - 1)) (x9_2.set (x10_2 : Int).toNat (x0_2.extract 0 ((ji29) : Int).toNat)) (wrap64 (x10_2 + 1))) else (none)) else (none)) else (none)) else (none)) else (none)) else (none)) = some r := by first | (rw [hji29] at H; exact H) | (simp only [hji29] at H ⊢; exact H)
                      (try rw [hji29] at A18)
                      have hji29w : (IntKind.i64.wrap (t108 + a2)) = ji29 := (i64_w _).trans hji29
                      by_cases c30 : 0 ≤ (ji29)
                      · rw [if_pos c30] at H
                        have c30b0 := eq_true c30
                        have c30b1 : decide (0 ≤ (ji29)) = true := decide_eq_true c30
                        clear c30
                        by_cases c31 : (ji29) ≤ (x0_2.size : Int)
                        · rw [if_pos c31] at H
                          have c31b0 := eq_true c31
                          have c31b1 : decide ((ji29) ≤ (x0_2.size : Int)) = true := decide_eq_true c31
                          clear c31
                          by_cases c32 : 0 ≤ x10_2
                          · rw [if_pos c32] at H
                            have c32b0 : decide (0 ≤ x10_2) = true := decide_eq_true c32
                            clear c32
                            by_cases c33 : x10_2 < (x9_2.length : Int)
                            · rw [if_pos c33] at H
                              have c33b0 : decide (x10_2 < (x9_2.length : Int)) = true := decide_eq_true c33
                              clear c33
                              obtain ⟨y113, hy113⟩ : ∃ y_ : List ByteArray, y_ = (x9_2.set (x10_2 : Int).toNat (x0_2.extract 0 ((ji29) : Int).toNat)) := ⟨_, rfl⟩
                              replace H : (if 0 ≤ (wrap64 (t108 + (a1.size : Int))) then (if (wrap64 (t108 + (a1.size : Int))) ≤ (x0_2.size : Int) then (strings_genSplit.l0 k2 (x0_2.extract ((wrap64 (t108 + (a1.size : Int))) : Int).toNat x0_2.size) a1 a2 (wrap64 ((ji12) - 1)) y113 (wrap64 (x10_2 + 1))) else (none)) else (none)) = some r := by first | (rw [hy113]; with_reducible exact H) | (have H2_ := (Option.bind_some _ _).symm.trans H; rw [hy113]; with_reducible exact H2_) | (have H2_ := (Option.bind_some _ _).symm.trans H; with_reducible exact H2_) | with_reducible exact H | (rw [hy113]; exact H) | exact H
                              have Ny113 := Aside0.mk hy113
                              clear hy113
                              obtain ⟨ji35, hji35⟩ : ∃ j_ : Int, (wrap64 (t108 + (a1.size : Int))) = j_ := ⟨_, rfl⟩
                              replace H : (if 0 ≤ (ji35) then (if (ji35) ≤ (x0_2.size : Int) then (strings_genSplit.l0 k2 (x0_2.extract ((ji35) : Int).toNat x0_2.size) a1 a2 (wrap64 ((ji12) - 1)) y113 (wrap64 (x10_2 + 1))) else (none)) else (none)) = some r := by first | (rw [hji35] at H; exact H) | (simp only [hji35] at H ⊢; exact H)
                              (try rw [hji35] at A18)
                              have hji35w : (IntKind.i64.wrap (t108 + (a1.size : Int))) = ji35 := (i64_w _).trans hji35
                              by_cases c36 : 0 ≤ (ji35)
                              · rw [if_pos c36] at H
                                have c36b0 := eq_true c36
                                have c36b1 : decide (0 ≤ (ji35)) = true := decide_eq_true c36
                                clear c36
                                by_cases c37 : (ji35) ≤ (x0_2.size : Int)
                                · rw [if_pos c37] at H
                                  have c37b0 := eq_true c37
                                  have c37b1 : decide ((ji35) ≤ (x0_2.size : Int)) = true := decide_eq_true c37
                                  clear c37
                                  have H' := Aside0.mk H
                                  clear H
                                  go_wp2_with (first | ((with_reducible refine gate_callee (f := 118) rfl ?_); refine goesL_ (some 39) rfl rfl Tryd.func118 (by kernel_rfl) rfl #[.string x0_2, .string a1] rfl (by (try simp only [List.map_toArray, List.map_cons, List.map_nil]); first | done | rfl | (simp only [List.length_drop, List.length_take]; rfl)) ?_; (with_reducible refine (strings_Index.calls x0_2 a1 t108 _ A18.out).mono ?_); rintro e w' ⟨rfl, ⟨nd, rfl⟩⟩; refine ⟨_, rfl, ?_⟩; (try (rw [drewN_self wr]; generalize hq_ : World.drewN wr _ = wr; have n0_ : Aside0 (Kd.R Kd.string 9 wr w.heap.size (fun _ => True) v106 x9_2) := ⟨by rw [← hq_]; exact (by (with_reducible repeat (first | apply Kd.R_alloc | apply Kd.R_drewN | apply Kd.R_drew)); exact HO_9.out)⟩; have n1_ : Aside0 (Below w.heap.size w wr) := ⟨by rw [← hq_]; exact (by repeat (first | (with_reducible first | exact HB.out | apply below_alloc | apply pw_below_drewN | apply below_drew1) | exact HB.out))⟩; clear HO_9 HB hq_; have HO_9 := n0_; have HB := n1_; clear n0_ n1_)); have p34 : 0 ≤ (x10_2 : Int) := of_decide_eq_true (by first | (with_reducible assumption) | assumption); have q34 : (x10_2 : Int) < ((x9_2.length : Int) : Int) := of_decide_eq_true (by first | (with_reducible assumption) | assumption); obtain ⟨go34, co34, eo34, gb34, gl34, cl34, HG34⟩ := Kd.R_form HO_9.out (by omega); (first | cases eo34 | (injection eo34 with ea_ en_ ec_; (first | subst ea_ | (injection ea_ with ea_; subst ea_)); subst ec_; clear en_)); have GB34 := Aside0.mk gb34; have GG34 := Aside0.mk HG34; clear gb34 gl34 HG34; obtain ⟨hx34_0, hf34_0⟩ := Kd.R_celln (⟨#[]⟩ : ByteArray) HO_9.out (x10_2 : Int) p34 q34; replace p34 := eq_true p34; replace q34 := eq_true q34; obtain ⟨hy38_, hz38_⟩ := Kd.R_celln (⟨#[]⟩ : ByteArray) HO_9.out (x10_2 : Int) (of_decide_eq_true (by first | (with_reducible assumption) | assumption)) (of_decide_eq_true (by first | (with_reducible assumption) | assumption)); have HP38 := Kd.R_putg HO_9.out (x10_2 : Int) (x0_2.extract 0 ((ji29) : Int).toNat)) | ((with_reducible refine gate_store (t := 9) (p := 49) rfl ?_); refine store_event (t := 9) (p := 49) (v := ?vo_w39) (w1 := (wr.setCell ⟨go34, (x10_2 : Int).toNat, none⟩ (.string (x0_2.extract 0 ((ji29) : Int).toNat)))) ?hg ?ho ?hn ?hr ?_; (case ho => rfl); (case hg => rfl); (case hn => rfl); (case hr => first | (go_simp; done) | (go_simp; rfl)); intro w39 hw; have hg : wr.grownBy w39 (some go34) := (by rw [hw]; exact HP38.2); have hp_ : Kd.R Kd.string 9 w39 w.heap.size (fun _ => True) (.slice (some ⟨go34, 0, none⟩) x9_2.length co34) y113 := (by rw [hw, Ny113.out]; exact HP38.1); clear HP38; have n0_ := Aside0.mk (hp_); have n1_ := Aside0.mk ((by rw [hw]; exact below_set (HB.out) GB34.out : Below w.heap.size w w39)); clear HO_9; clear HB; have HO_9 := n0_; have HB := n1_; clear n0_ n1_; clear hg hw hp_))
                                  go_roundg k2
                                  case measure => have := HJ8.out; have := HK2.out; omega
                                  case rel => exact ⟨(x0_2.extract ((ji35) : Int).toNat x0_2.size), (y113), (wrap64 (x10_2 + 1)), (by first | rfl | (simp; done) | (simp only [← hji35] <;> (first | rfl | simp)) | (simp [*]; done)), (by first | rfl | (simp; done) | (simp [*]; done)), H', ⟨by have := HJ8.out; have := HK2.out; omega⟩, ⟨by (with_reducible repeat (first | apply Kd.R_alloc | apply Kd.R_drewN | apply Kd.R_drew)); exact HO_9.out⟩, ⟨by repeat (first | (with_reducible first | exact HB.out | apply below_alloc | apply pw_below_drewN | apply below_drew1) | exact HB.out)⟩⟩
                                · rw [if_neg c37] at H
                                  exact absurd H (by simp)
                              · rw [if_neg c36] at H
                                exact absurd H (by simp)
                            · rw [if_neg c33] at H
                              exact absurd H (by simp)
                          · rw [if_neg c32] at H
                            exact absurd H (by simp)
                        · rw [if_neg c31] at H
                          exact absurd H (by simp)
                      · rw [if_neg c30] at H
                        exact absurd H (by simp)
                  · rw [if_neg c17] at H
                    have c17b0 : decide (x10_2 < (wrap64 ((ji12) - 1))) = false := decide_eq_false c17
                    clear c17
                    by_cases c40 : 0 ≤ x10_2
                    · rw [if_pos c40] at H
                      have c40b0 : decide (0 ≤ x10_2) = true := decide_eq_true c40
                      clear c40
                      by_cases c41 : x10_2 < (x9_2.length : Int)
                      · rw [if_pos c41] at H
                        have c41b0 : decide (x10_2 < (x9_2.length : Int)) = true := decide_eq_true c41
                        clear c41
                        obtain ⟨y114, hy114⟩ : ∃ y_ : List ByteArray, y_ = (x9_2.set (x10_2 : Int).toNat x0_2) := ⟨_, rfl⟩
                        replace H : (if 0 ≤ (wrap64 (x10_2 + 1)) then (if (wrap64 (x10_2 + 1)) ≤ (x9_2.length : Int) then (some (y114.take ((wrap64 (x10_2 + 1)) : Int).toNat)) else (none)) else (none)) = some r := by first | (rw [hy114]; with_reducible exact H) | (have H2_ := (Option.bind_some _ _).symm.trans H; rw [hy114]; with_reducible exact H2_) | (have H2_ := (Option.bind_some _ _).symm.trans H; with_reducible exact H2_) | with_reducible exact H | (rw [hy114]; exact H) | exact H
                        have Ny114 := Aside0.mk hy114
                        clear hy114
                        obtain ⟨ji43, hji43⟩ : ∃ j_ : Int, (wrap64 (x10_2 + 1)) = j_ := ⟨_, rfl⟩
                        replace H : (if 0 ≤ (ji43) then (if (ji43) ≤ (x9_2.length : Int) then (some (y114.take ((ji43) : Int).toNat)) else (none)) else (none)) = some r := by first | (rw [hji43] at H; exact H) | (simp only [hji43] at H ⊢; exact H)
                        have hji43w : (IntKind.i64.wrap (x10_2 + 1)) = ji43 := (i64_w _).trans hji43
                        by_cases c44 : 0 ≤ (ji43)
                        · rw [if_pos c44] at H
                          have c44b0 := eq_true c44
                          have c44b1 : decide (0 ≤ (ji43)) = true := decide_eq_true c44
                          clear c44
                          by_cases c45 : (ji43) ≤ (x9_2.length : Int)
                          · rw [if_pos c45] at H
                            have c45b0 := eq_true c45
                            have c45b1 : decide ((ji43) ≤ (x9_2.length : Int)) = true := decide_eq_true c45
                            clear c45
                            obtain ⟨y115, hy115⟩ : ∃ y_ : List ByteArray, y_ = (y114.take ((ji43) : Int).toNat) := ⟨_, rfl⟩
                            replace H : (some y115) = some r := by first | (rw [hy115]; with_reducible exact H) | (have H2_ := (Option.bind_some _ _).symm.trans H; rw [hy115]; with_reducible exact H2_) | (have H2_ := (Option.bind_some _ _).symm.trans H; with_reducible exact H2_) | with_reducible exact H | (rw [hy115]; exact H) | exact H
                            have Ny115 := Aside0.mk hy115
                            clear hy115
                            obtain rfl := Option.some.inj H
                            have p42 : 0 ≤ (x10_2 : Int) := of_decide_eq_true (by first | (with_reducible assumption) | assumption)
                            have q42 : (x10_2 : Int) < ((x9_2.length : Int) : Int) := of_decide_eq_true (by first | (with_reducible assumption) | assumption)
                            obtain ⟨go42, co42, eo42, gb42, gl42, cl42, HG42⟩ := Kd.R_form HO_9.out (by omega)
                            (first | cases eo42 | (injection eo42 with ea_ en_ ec_; (first | subst ea_ | (injection ea_ with ea_; subst ea_)); subst ec_; clear en_))
                            have GB42 := Aside0.mk gb42
                            have GG42 := Aside0.mk HG42
                            clear gb42 gl42 HG42
                            obtain ⟨hx42_0, hf42_0⟩ := Kd.R_celln (⟨#[]⟩ : ByteArray) HO_9.out (x10_2 : Int) p42 q42
                            replace p42 := eq_true p42
                            replace q42 := eq_true q42
                            have HP46 := Kd.R_putg HO_9.out (x10_2 : Int) x0_2
                            (have hl_ : y114.length = x9_2.length := (by rw [Ny114.out, List.length_set]); have hp_ : Kd.R Kd.string 9 (wr.setCell ⟨go42, (x10_2 : Int).toNat, none⟩ (.string x0_2)) w.heap.size (fun _ => True) (.slice (some ⟨go42, 0, none⟩) x9_2.length co42) y114 := (by rw [Ny114.out]; exact HP46.1); clear HP46; have n0_ := Aside0.mk hp_; have n1_ := Aside0.mk (below_set (HB.out) GB42.out : Below w.heap.size w (wr.setCell ⟨go42, (x10_2 : Int).toNat, none⟩ (.string x0_2))); clear HO_9; clear HB; have HO_9 := n0_; have HB := n1_; clear n0_ n1_ hp_; have q48 : ((ji43) : Int) ≤ ((x9_2.length : Int) : Int) := of_decide_eq_true (by first | (with_reducible assumption) | assumption); obtain ⟨i048, hi048, _, hsz48, _⟩ := info_parts info9; have hcut48 := cut_to (P := Tryd.prog) 60 9 .i64 Tryd.underlying60 hi048 (some ⟨go42, 0, none⟩) x9_2.length co42 (ji43) (of_decide_eq_true (by first | (with_reducible assumption) | assumption)) q48 (Kd.R_reads' HO_9.out).2.1; have hr48 := Kd.R_take (m := ((ji43) : Int).toNat) HO_9.out (by omega); have hy48 : y115.length = ((ji43) : Int).toNat := (by rw [Ny115.out, List.length_take]; omega); rw [← Ny115.out] at hr48; rw [← hy48] at hr48 hcut48; clear hy48 hi048 hsz48 HO_9; have HO117 := Aside0.mk hr48; clear hr48; replace q48 := eq_true q48)
                            go_wp2_with (fail)
                            go_ret
                            exact ⟨_, by first | rfl | (simp [errW_none, errW_some] <;> rfl) | (simp only [← hji12, ← hji43]; first | rfl | (simp [errW_none, errW_some] <;> rfl)) | (simp [*, errW_none, errW_some] <;> rfl), by (with_reducible repeat (first | apply Kd.R_alloc | apply Kd.R_drewN | apply Kd.R_drew)); exact HO117.out, by repeat (first | (with_reducible first | exact HB.out | apply below_alloc | apply pw_below_drewN | apply below_drew1) | exact HB.out)⟩
                          · rw [if_neg c45] at H
                            exact absurd H (by simp)
                        · rw [if_neg c44] at H
                          exact absurd H (by simp)
                      · rw [if_neg c41] at H
                        exact absurd H (by simp)
                    · rw [if_neg c40] at H
                      exact absurd H (by simp)
            · rw [if_neg c14] at H
              exact absurd H (by simp)
          · rw [if_neg c13] at H
            exact absurd H (by simp)
def strings_Split.f (k : Nat) (a0 : ByteArray) (a1 : ByteArray) : Option (List ByteArray) := (strings_genSplit.f k a0 a1 0 (-1)).bind fun t118 => (some t118)
set_option maxHeartbeats 8000000 in
set_option maxRecDepth 100000 in
theorem strings_Split.calls (k : Nat) (a0 : ByteArray) (a1 : ByteArray) (r : List ByteArray) (w : World) (h : strings_Split.f k a0 a1 = some r) :
    Calls Tryd.prog 84 #[.string a0, .string a1] w fun e w' => ∃ v0_ : Value, e = .returned (v0_) ∧ Kd.R Kd.string 9 w' w.heap.size (fun _ => True) v0_ r ∧ Below w.heap.size w w' := by
  have HB := Aside0.mk (Below.refl w.heap.size w)
  have H : ((strings_genSplit.f k a0 a1 0 (-1)).bind fun t118 => (some t118)) = some r := h
  clear h
  replace H := Option.bind_eq_some_iff.mp H
  obtain ⟨t118, A30, H⟩ := H
  replace H : (some t118) = some r := H
  have A3 := Aside0.mk A30
  clear A30
  obtain rfl := Option.some.inj H
  go_enter Tryd.func84, Tryd.ntmps84
  go_wp2_with (first | ((with_reducible refine gate_callee (f := 101) rfl ?_); refine goesL_ (some 7) rfl rfl Tryd.func101 (by kernel_rfl) rfl #[.string a0, .string a1, .int .i64 0, .int .i64 (-1)] rfl (by (try simp only [List.map_toArray, List.map_cons, List.map_nil]); first | done | rfl | (simp only [List.length_drop, List.length_take]; rfl)) ?_; (with_reducible refine (strings_genSplit.calls k a0 a1 0 (-1) t118 _ A3.out).mono ?_); rintro e w4 ⟨v119, rfl, ho0, hb⟩; refine ⟨_, rfl, ?_⟩; have n0_ := Aside0.mk (Kd.R_lower ho0 (below_size (by repeat (first | (with_reducible first | exact HB.out | apply below_alloc | apply pw_below_drewN | apply below_drew1) | exact HB.out)))); have n1_ := Aside0.mk (below_step (by repeat (first | (with_reducible first | exact HB.out | apply below_alloc | apply pw_below_drewN | apply below_drew1) | exact HB.out)) hb); clear HB; have HO120 := n0_; have HB := n1_; clear n0_ n1_; (try clear hb); (try clear hb2); (try clear hk); (try clear hi); (try clear ho0)))
  go_ret
  exact ⟨_, by first | rfl | (simp [errW_none, errW_some] <;> rfl) | (simp [*, errW_none, errW_some] <;> rfl), by (with_reducible repeat (first | apply Kd.R_alloc | apply Kd.R_drewN | apply Kd.R_drew)); exact HO120.out, by repeat (first | (with_reducible first | exact HB.out | apply below_alloc | apply pw_below_drewN | apply below_drew1) | exact HB.out)⟩
end Go.Proofs.YthpecpkncifngaaDoor.XS
end

/- More plain words on paths: the last place of a byte. -/
section
namespace Go.Proofs.YthpecpkncifngaaDoor.Nm
def lastIdx (c : UInt8) : List UInt8 → Int
  | [] => -1
  | x :: l => if 0 ≤ lastIdx c l then lastIdx c l + 1 else if x = c then 0 else -1
theorem lastIdx_ge (c : UInt8) : ∀ l, -1 ≤ lastIdx c l
  | [] => by simp [lastIdx]
  | x :: l => by
    have := lastIdx_ge c l
    simp only [lastIdx]
    split
    · omega
    · split <;> omega
theorem lastIdx_lt (c : UInt8) : ∀ l, lastIdx c l < l.length
  | [] => by simp [lastIdx]
  | x :: l => by
    have := lastIdx_lt c l
    simp only [lastIdx, List.length_cons]
    split
    · omega
    · split <;> omega
theorem lastIdx_snoc (c x : UInt8) : ∀ l, lastIdx c (l ++ [x]) = if x = c then (l.length : Int) else lastIdx c l
  | [] => by simp [lastIdx]
  | y :: l => by
    simp only [List.cons_append, lastIdx, lastIdx_snoc c x l, List.length_cons]
    by_cases h : x = c
    · simp only [h, if_true]
      rw [if_pos (by omega)]
      omega
    · simp only [h, if_false]
end Go.Proofs.YthpecpkncifngaaDoor.Nm
end

/- More plain words on paths: texts of pieces, put together again; the order; what is beneath. -/
section
namespace Go.Proofs.YthpecpkncifngaaDoor.Nm
def texts (l : List UInt8) : List (List UInt8) := (pieces 0 l).map (·.2)
def joinT : List (List UInt8) → List UInt8
  | [] => []
  | [x] => x
  | x :: y :: r => x ++ 47 :: joinT (y :: r)
theorem pc_texts : ∀ (l : List UInt8) (p q : Nat), (pc p l).1 = (pc q l).1 ∧ (pc p l).2.map (·.2) = (pc q l).2.map (·.2)
  | [], _, _ => ⟨rfl, rfl⟩
  | c :: l, p, q => by
    obtain ⟨h1, h2⟩ := pc_texts l (p + 1) (q + 1)
    by_cases hc : c = 47
    · simp only [pc, hc, if_true, List.map_cons, h1, h2, and_self]
    · simp only [pc, hc, if_false, h1, h2, and_self]
theorem pieces_texts (l : List UInt8) (p : Nat) : (pieces p l).map (·.2) = texts l := by
  obtain ⟨h1, h2⟩ := pc_texts l p 0
  simp only [texts, pieces, List.map_cons, h1, h2]
theorem pc_append : ∀ (a b : List UInt8) (p : Nat), pc p (a ++ 47 :: b) = ((pc p a).1, (pc p a).2 ++ pieces (p + a.length + 1) b)
  | [], b, p => by simp [pc, pieces]
  | c :: a, b, p => by
    have h := pc_append a b (p + 1)
    have e : p + 1 + a.length + 1 = p + (c :: a).length + 1 := by simp only [List.length_cons]; omega
    by_cases hc : c = 47
    · simp only [List.cons_append, pc, hc, if_true, h, e, List.length_cons]
    · simp only [List.cons_append, pc, hc, if_false, h, e]
theorem pieces_append (a b : List UInt8) (p : Nat) : pieces p (a ++ 47 :: b) = pieces p a ++ pieces (p + a.length + 1) b := by
  simp only [pieces, pc_append, List.cons_append]
theorem texts_append (a b : List UInt8) : texts (a ++ 47 :: b) = texts a ++ texts b := by
  simp only [texts, pieces_append, List.map_append]
  rw [pieces_texts b (0 + a.length + 1)]
  rfl
theorem texts_ne (l : List UInt8) : texts l ≠ [] := by simp [texts, pieces]
theorem joinT_pc : ∀ (l : List UInt8) (p : Nat), joinT ((pc p l).1 :: (pc p l).2.map (·.2)) = l
  | [], _ => rfl
  | c :: l, p => by
    have h := joinT_pc l (p + 1)
    by_cases hc : c = 47
    · subst hc
      simp only [pc, if_true, List.map_cons, joinT, List.nil_append, h]
    · simp only [pc, hc, if_false]
      cases hs : (pc (p + 1) l).2 with
      | nil => rw [hs] at h; simp only [List.map_nil, joinT] at h ⊢; rw [h]
      | cons x r => rw [hs] at h; simp only [List.map_cons, joinT] at h ⊢; rw [List.cons_append, h]
theorem joinT_texts (l : List UInt8) : joinT (texts l) = l := joinT_pc l 0
theorem joinT_append : ∀ (x : List (List UInt8)) (y : List (List UInt8)), x ≠ [] → y ≠ [] → joinT (x ++ y) = joinT x ++ 47 :: joinT y
  | [a], y, _, hy => by
    cases y with
    | nil => exact absurd rfl hy
    | cons b r => rfl
  | a :: b :: r, y, _, hy => by
    have := joinT_append (b :: r) y (by simp) hy
    simp only [List.cons_append, joinT] at this ⊢
    rw [this]; simp
theorem beneath_iff (a p : List UInt8) : (∃ b, p = a ++ 47 :: b) ↔ ∃ r, r ≠ [] ∧ texts p = texts a ++ r := by
  constructor
  · rintro ⟨b, rfl⟩
    exact ⟨texts b, texts_ne b, texts_append a b⟩
  · rintro ⟨r, hr, h⟩
    refine ⟨joinT r, ?_⟩
    have := congrArg joinT h
    rw [joinT_texts, joinT_append _ _ (texts_ne a) hr, joinT_texts] at this
    exact this
theorem bad_ne {l : List UInt8} {m e : Nat} (h : bad l = some (m, e)) : e ≠ 0 := by
  rintro rfl
  unfold bad at h
  repeat' split at h
  all_goals simp at h
theorem firstBad_ne {l : List (Nat × List UInt8)} {y : Nat × Nat} (h : firstBad l = some y) : y.2 ≠ 0 := by
  induction l with
  | nil => simp [firstBad] at h
  | cons x r ih =>
    simp only [firstBad] at h
    cases hb : bad x.2 with
    | none => rw [hb] at h; exact ih h
    | some z =>
      rw [hb] at h
      obtain ⟨m, e⟩ := z
      simp only [Option.some.injEq] at h
      subst h
      exact bad_ne hb
theorem firstBad_none {l : List (Nat × List UInt8)} : firstBad l = none ↔ ∀ t ∈ l.map (·.2), bad t = none := by
  induction l with
  | nil => simp [firstBad]
  | cons x r ih =>
    simp only [firstBad, List.map_cons, List.mem_cons, forall_eq_or_imp]
    cases hb : bad x.2 with
    | none => simp only [true_and]; exact ih
    | some z => simp
theorem check_ok (l : List UInt8) : (check l).2 = 0 ↔ l.length ≤ 400 ∧ ∀ t ∈ texts l, bad t = none := by
  unfold check
  by_cases h : 400 < l.length
  · rw [if_pos h]
    constructor
    · intro e; simp at e
    · rintro ⟨h1, _⟩; omega
  · rw [if_neg h]
    have e : (firstBad (pieces 0 l) = none) ↔ ∀ t ∈ texts l, bad t = none := firstBad_none
    cases hf : firstBad (pieces 0 l) with
    | none => simp only [Option.getD_none, true_iff]; exact ⟨by omega, e.1 hf⟩
    | some y =>
      have := firstBad_ne hf
      simp only [Option.getD_some]
      constructor
      · intro h0; exact absurd h0 this
      · rintro ⟨_, h2⟩; rw [e.2 h2] at hf; simp at hf
def cmpL : List (List UInt8) → List (List UInt8) → Int
  | [], [] => 0
  | [], _ :: _ => -1
  | _ :: _, [] => 1
  | x :: a, y :: b => if Op.bytesLess x y = true then -1 else if Op.bytesLess y x = true then 1 else cmpL a b
end Go.Proofs.YthpecpkncifngaaDoor.Nm
end

/- strings.Split at a stroke: the texts between the strokes, in a row of its own. -/
section
namespace Go.Proofs.YthpecpkncifngaaDoor.Sp
open Go.RowKit Go.Proofs.YthpecpkncifngaaDoor Go.Proofs.YthpecpkncifngaaDoor.XS Go.Proofs.YthpecpkncifngaaDoorW.PrintWords Go.Proofs.YthpecpkncifngaaDoorW.PrintLast Go.Proofs.YthpecpkncifngaaDoorW.PrintMore
theorem len_eq (p : ByteArray) : p.data.toList.length = p.size := by rw [Array.length_toList]; rfl
theorem pc_count : ∀ (l : List UInt8) (pos : Nat), (Nm.pc pos l).2.length = Lib.countByte l 47
  | [], _ => rfl
  | c :: l, pos => by
    have := pc_count l (pos + 1)
    by_cases hc : c = 47
    · subst hc; simp only [Nm.pc, if_true, List.length_cons, this, Lib.countByte, List.count_cons_self]
    · simp only [Nm.pc, hc, if_false, this, Lib.countByte]
      rw [List.count_cons_of_ne (by simpa using hc)]
theorem texts_count (l : List UInt8) : (Nm.texts l).length = Lib.countByte l 47 + 1 := by
  simp [Nm.texts, Nm.pieces, pc_count]
theorem texts_none {l : List UInt8} (h : Lib.indexByte l 47 = -1) : Nm.texts l = [l] := by rw [Nm.texts, Nm.pieces_none l 0 h]; rfl
theorem texts_some {l : List UInt8} {n : Nat} (h : Lib.indexByte l 47 = n) : Nm.texts l = l.take n :: Nm.texts (l.drop (n + 1)) := by
  rw [Nm.texts, Nm.pieces_some l 0 n h, List.map_cons, Nm.pieces_texts]
def textsB (p : ByteArray) : List ByteArray := (Nm.texts p.data.toList).map bytesOfL
def sl : ByteArray := ⟨#[47]⟩
theorem sl_size : ((sl.size : Nat) : Int) = 1 := rfl
theorem sl_ne : ¬ sl.toList = [] := by rw [Lib.toList_data]; simp [sl]
theorem idx47 (p : ByteArray) : strings_Index.f p sl = some (Lib.indexByte p.data.toList 47) := rfl
theorem ext_to (p : ByteArray) (m : Nat) : (p.extract 0 m).data.toList = p.data.toList.take m := by simp [ByteArray.data_extract]
theorem ext_from (p : ByteArray) (m : Nat) : (p.extract m p.size).data.toList = p.data.toList.drop m := by
  rw [ByteArray.data_extract, Array.toList_extract]
  simp only [List.extract]
  rw [List.take_of_length_le]
  rw [List.length_drop, len_eq]
  exact Nat.le_refl _
theorem l0_end (k : Nat) (x0 : ByteArray) (x9 : List ByteArray) (i : Nat) (hl : x9.length = i + 1) (hi : i ≤ 2199023255552) :
    strings_genSplit.l0 (k + 1) x0 sl 0 (i : Int) x9 (i : Int) = some (x9.take i ++ [x0]) := by
  have hw : wrap64 ((i : Int) + 1) = ((i + 1 : Nat) : Int) := by unfold wrap64; omega
  simp only [strings_genSplit.l0]
  rw [if_neg (by omega), if_pos (by omega), if_pos (by omega), hw, if_pos (by omega), if_pos (by omega), Int.toNat_natCast, Int.toNat_natCast]
  congr 1
  rw [List.take_add_one, List.take_set_of_le (Nat.le_refl _), List.getElem?_set_self (by omega)]
  rfl
theorem l0_step (k : Nat) (x0 : ByteArray) (x9 : List ByteArray) (i n m : Nat) (hm : Lib.indexByte x0.data.toList 47 = m) (hlt : m < x0.size) (hs : x0.size ≤ 1099511627776) (hin : i < n) (hl : x9.length = n + 1) (hn : n ≤ 2199023255552) :
    strings_genSplit.l0 (k + 1) x0 sl 0 (n : Int) x9 (i : Int) = strings_genSplit.l0 k (x0.extract (m + 1) x0.size) sl 0 (n : Int) (x9.set i (x0.extract 0 m)) ((i + 1 : Nat) : Int) := by
  have hw : wrap64 ((i : Int) + 1) = ((i + 1 : Nat) : Int) := by unfold wrap64; omega
  have hw2 : wrap64 ((m : Int) + 0) = ((m : Nat) : Int) := by unfold wrap64; omega
  have hw3 : wrap64 ((m : Int) + 1) = ((m + 1 : Nat) : Int) := by unfold wrap64; omega
  simp only [strings_genSplit.l0]
  rw [if_pos (by omega), idx47, hm, Option.bind_some, if_neg (by omega), hw2, if_pos (by omega), if_pos (by omega), if_pos (by omega), if_pos (by omega), sl_size, hw3, if_pos (by omega), if_pos (by omega), hw,
    Int.toNat_natCast, Int.toNat_natCast, Int.toNat_natCast]
theorem split_l0 : ∀ (d : Nat) (x0 : ByteArray) (x9 : List ByteArray) (i n : Nat), x0.size ≤ d → x0.size ≤ 1099511627776 → x9.length = n + 1 → n + 1 = i + (Nm.texts x0.data.toList).length → n ≤ 2199023255552 →
    Ev (fun k => strings_genSplit.l0 k x0 sl 0 (n : Int) x9 (i : Int)) (x9.take i ++ textsB x0) := by
  intro d
  induction d with
  | zero =>
    intro x0 x9 i n hd hs hl hn hi
    have e0 : x0.data.toList = [] := List.eq_nil_of_length_eq_zero (by rw [len_eq]; omega)
    have et : Nm.texts x0.data.toList = [x0.data.toList] := texts_none (by rw [e0]; rfl)
    rw [et] at hn
    obtain rfl : n = i := by simpa using hn
    refine Ev.step (fun k => l0_end k x0 x9 n hl hi) ?_
    rw [textsB, et]
    exact Ev.now _
  | succ d ih =>
    intro x0 x9 i n hd hs hl hn hi
    by_cases h : Lib.indexByte x0.data.toList 47 = -1
    · have et : Nm.texts x0.data.toList = [x0.data.toList] := texts_none h
      rw [et] at hn
      obtain rfl : n = i := by simpa using hn
      refine Ev.step (fun k => l0_end k x0 x9 n hl hi) ?_
      rw [textsB, et]
      exact Ev.now _
    · obtain ⟨m, hm⟩ : ∃ m : Nat, Lib.indexByte x0.data.toList 47 = m := ⟨(Lib.indexByte x0.data.toList 47).toNat, by have := Lib.indexByte_ge x0.data.toList 47; omega⟩
      have et := texts_some hm
      have hlt : m < x0.size := by have := (Nm.pc_some _ 0 m hm).1; rwa [len_eq] at this
      have h1 : 0 < (Nm.texts (x0.data.toList.drop (m + 1))).length := List.length_pos_iff.2 (Nm.texts_ne _)
      have hsz : (x0.extract (m + 1) x0.size).size = x0.size - (m + 1) := by simp [ByteArray.size_extract]
      rw [et, List.length_cons] at hn
      have e3 : bytesOfL (x0.data.toList.take m) = x0.extract 0 m := by rw [← ext_to]; rfl
      refine Ev.step (fun k => l0_step k x0 x9 i n m hm hlt hs (by omega) hl hi) ?_
      have := ih (x0.extract (m + 1) x0.size) (x9.set i (x0.extract 0 m)) (i + 1) n (by rw [hsz]; omega) (by rw [hsz]; omega) (by rw [List.length_set]; exact hl) (by rw [ext_from]; omega) hi
      have e2 : (x9.set i (x0.extract 0 m)).take (i + 1) ++ textsB (x0.extract (m + 1) x0.size) = x9.take i ++ textsB x0 := by
        rw [List.take_add_one, List.take_set_of_le (Nat.le_refl _), List.getElem?_set_self (by omega), textsB, textsB, et, ext_from, List.map_cons, e3]
        simp
      rw [← e2]
      exact this
theorem split_ev (p : ByteArray) (hp : p.size ≤ 1048576) : Ev (fun k => strings_Split.f k p sl) (textsB p) := by
  have hc := texts_count p.data.toList
  have hl := Nm.pieces_length p.data.toList 0
  have hl2 : (Nm.texts p.data.toList).length ≤ p.size + 1 := by rw [← len_eq]; simpa [Nm.texts] using hl
  obtain ⟨n, hn⟩ : ∃ n, (Nm.texts p.data.toList).length = n + 1 := ⟨(Nm.texts p.data.toList).length - 1, by omega⟩
  have h0 : Ev (fun k => strings_genSplit.j0 k p sl 0 ((n + 1 : Nat) : Int)) (textsB p) := by
    have hw : wrap64 ((p.size : Int) + 1) = ((p.size + 1 : Nat) : Int) := by unfold wrap64; omega
    have hm : mn ((n + 1 : Nat) : Int) ((p.size + 1 : Nat) : Int) = ((n + 1 : Nat) : Int) := by
      unfold mn; split <;> omega
    have e1 : wrap64 (((n + 1 : Nat) : Int) - 1) = (n : Int) := by unfold wrap64; omega
    have := split_l0 p.size p (List.replicate (n + 1) ⟨#[]⟩) 0 n (Nat.le_refl _) (by omega) (by simp) (by omega) (by omega)
    rw [List.take_zero, List.nil_append] at this
    refine Ev.step (fun k => ?_) this
    simp only [strings_genSplit.j0]
    rw [hw, hm, if_pos (by omega), Int.toNat_natCast, if_pos (by omega), e1]
    rfl
  unfold strings_Split.f strings_genSplit.f
  refine Ev.congr (fun k => ?_) h0
  have e : strings_Count.f p sl = some ((Lib.countByte p.data.toList 47 : Nat) : Int) := rfl
  have hw : wrap64 (((Lib.countByte p.data.toList 47 : Nat) : Int) + 1) = ((n + 1 : Nat) : Int) := by rw [← hn, hc]; unfold wrap64; omega
  rw [if_neg (by decide), if_neg sl_ne, if_pos (by decide), e, Option.bind_some, hw]
  cases strings_genSplit.j0 k p sl 0 ((n + 1 : Nat) : Int) <;> rfl
theorem split_calls (p : ByteArray) (hp : p.size ≤ 1048576) (w : World) :
    Calls Tryd.prog 84 #[.string p, .string sl] w fun e w' => ∃ v, e = .returned v ∧ Kd.R Kd.string 9 w' w.heap.size (fun _ => True) v (textsB p) ∧ Below w.heap.size w w' := by
  obtain ⟨k, h⟩ := (split_ev p hp).rounds
  exact strings_Split.calls k p sl _ w h
end Go.Proofs.YthpecpkncifngaaDoor.Sp
end

/- Plain words on paths: where a link leads. -/
section
namespace Go.Proofs.YthpecpkncifngaaDoor.Nm
def way : List (List UInt8) → List (List UInt8) → Option (List (List UInt8))
  | ps, [] => some ps
  | ps, x :: r => if x = [] ∨ x = [46] then way ps r else if x = [46, 46] then (if ps = [] then none else way ps.dropLast r) else way (ps ++ [x]) r
def led : Option (List (List UInt8)) → List UInt8 × Nat
  | none => ([], 83)
  | some L => (joinT L, 0)
def lead (a t : List UInt8) : List UInt8 × Nat :=
  if (check a).2 ≠ 0 then ([], (check a).2)
  else if t = [] then ([], 80)
  else if 400 < t.length then ([], 2)
  else if 0 ≤ Lib.indexByte t 0 then ([], 82)
  else if t.head? = some 47 then ([], 83)
  else led (way (texts a).dropLast (texts t))
theorem way_append : ∀ (b ps c : List (List UInt8)), way ps (b ++ c) = (way ps b).bind fun q => way q c
  | [], ps, c => rfl
  | x :: r, ps, c => by
    simp only [List.cons_append, way]
    split
    · exact way_append r ps c
    · split
      · split
        · rfl
        · exact way_append r _ c
      · exact way_append r _ c
theorem way_snoc {ps b q : List (List UInt8)} (h : way ps b = some q) (x : List UInt8) : way ps (b ++ [x]) = way q [x] := by rw [way_append, h]; rfl
theorem way_len : ∀ (b ps q : List (List UInt8)), way ps b = some q → q.length ≤ ps.length + b.length
  | [], ps, q, h => by simp only [way, Option.some.injEq] at h; subst h; simp
  | x :: r, ps, q, h => by
    simp only [way] at h
    split at h
    · have := way_len r ps q h; simp; omega
    · split at h
      · split at h
        · simp at h
        · have := way_len r _ q h; simp at this ⊢; omega
      · have := way_len r _ q h; simp at this ⊢; omega
theorem way_empty (q : List (List UInt8)) {x : List UInt8} (h : x.isEmpty = true) : way q [x] = some q := by
  have : x = [] := by simpa using h
  subst this; rfl
theorem way_dot (q : List (List UInt8)) {x : List UInt8} (h : (x == [46]) = true) : way q [x] = some q := by
  have : x = [46] := by simpa using h
  subst this; rfl
theorem way_up (q : List (List UInt8)) {x : List UInt8} (h : (x == [46, 46]) = true) : way q [x] = if q = [] then none else some q.dropLast := by
  have : x = [46, 46] := by simpa using h
  subst this
  simp [way]
theorem way_part (q : List (List UInt8)) {x : List UInt8} (h1 : x.isEmpty = false) (h2 : (x == [46]) = false) (h3 : (x == [46, 46]) = false) : way q [x] = some (q ++ [x]) := by
  have e1 : x ≠ [] := by simpa using h1
  have e2 : x ≠ [46] := by simpa using h2
  have e3 : x ≠ [46, 46] := by simpa using h3
  simp [way, e1, e2, e3]
theorem way_none_prefix {ps b c : List (List UInt8)} (h : way ps b = none) : way ps (b ++ c) = none := by rw [way_append, h]; rfl
def totL (l : List (List UInt8)) : Nat := (l.map (fun x => x.length + 1)).sum
theorem totL_append (a b : List (List UInt8)) : totL (a ++ b) = totL a + totL b := by simp [totL]
theorem totL_dropLast : ∀ (l : List (List UInt8)), totL l.dropLast ≤ totL l
  | [] => Nat.le_refl _
  | [x] => by simp [totL]
  | x :: y :: r => by
    have := totL_dropLast (y :: r)
    simp only [List.dropLast_cons_cons, totL, List.map_cons, List.sum_cons] at this ⊢
    omega
theorem joinT_totL : ∀ (l : List (List UInt8)), (joinT l).length ≤ totL l
  | [] => Nat.le_refl _
  | [x] => by simp [joinT, totL]
  | x :: y :: r => by
    have := joinT_totL (y :: r)
    simp only [joinT, totL, List.map_cons, List.sum_cons, List.length_append, List.length_cons] at this ⊢
    omega
theorem totL_pc : ∀ (l : List UInt8) (p : Nat), (pc p l).1.length + totL ((pc p l).2.map (·.2)) = l.length
  | [], _ => rfl
  | c :: l, p => by
    have := totL_pc l (p + 1)
    by_cases hc : c = 47
    · simp only [pc, hc, if_true, List.map_cons, totL, List.map_cons, List.sum_cons, List.length_cons, List.length_nil] at this ⊢
      omega
    · simp only [pc, hc, if_false, List.length_cons] at this ⊢
      omega
theorem totL_texts (l : List UInt8) : totL (texts l) = l.length + 1 := by
  have := totL_pc l 0
  simp only [texts, pieces, List.map_cons, totL, List.sum_cons] at this ⊢
  omega
theorem way_tot : ∀ (b ps q : List (List UInt8)), way ps b = some q → totL q ≤ totL ps + totL b
  | [], ps, q, h => by simp only [way, Option.some.injEq] at h; subst h; simp
  | x :: r, ps, q, h => by
    have hx : totL (x :: r) = x.length + 1 + totL r := by simp [totL]
    simp only [way] at h
    split at h
    · have := way_tot r ps q h; omega
    · split at h
      · split at h
        · simp at h
        · have := way_tot r _ q h; have := totL_dropLast ps; omega
      · have := way_tot r _ q h
        rw [totL_append] at this
        have e : totL [x] = x.length + 1 := by simp [totL]
        omega
end Go.Proofs.YthpecpkncifngaaDoor.Nm
end

/- strings.Join of a row that is read. -/
section
namespace Go.Proofs.YthpecpkncifngaaDoor.Jn
open Go.RowKit Go.Proofs.YthpecpkncifngaaDoor Go.Proofs.YthpecpkncifngaaDoorW.PrintWords Go.Proofs.YthpecpkncifngaaDoorW.PrintLast Go.Proofs.YthpecpkncifngaaDoorW.PrintMore
theorem spot_of {w : World} {a : Addr} {v : Value} (h : w.cell? a = some v) : a = ⟨a.block, a.off, none⟩ := by
  obtain ⟨b, o, s⟩ := a
  cases s with
  | none => rfl
  | some s =>
    unfold World.cell? at h
    split at h <;> simp at h
theorem add_at (b o j : Nat) : (⟨b, o, none⟩ : Addr).add j = ⟨b, o + j, none⟩ := by unfold Addr.add; split <;> simp_all
theorem join_C (A0 : Option Addr) (c0 : Nat) (l0 : List ByteArray) (a1 : ByteArray) (w : World) (hr0 : Kd.C Kd.string w A0 l0.length l0) (hc0 : l0.length ≤ c0)
    (hb : l0.length ≤ 140737488355328 ∧ (Lib.join (l0.map (·.data.toList)) a1.data.toList).length ≤ 140737488355328) :
    Calls Tryd.prog 85 #[.slice A0 l0.length c0, .string a1] w fun e w' => e = .returned (.string ⟨(Lib.join (l0.map (·.data.toList)) a1.data.toList).toArray⟩) ∧ Below w.heap.size w w' := by
  rcases Nat.eq_zero_or_pos l0.length with h0 | h0
  · obtain rfl := List.eq_nil_of_length_eq_zero h0
    refine (Tryd.strings_Join_none A0 c0 a1 w).mono ?_
    rintro e w' ⟨rfl, rfl⟩
    exact ⟨by simp [Lib.join, List.intercalate], Below.refl _ _⟩
  · obtain ⟨ad, cs, rfl, _, hk, hcell⟩ := Kd.C_get hr0 ByteArray.empty 0 (by omega) (by omega)
    have hK : cs = [.string (l0.getD (0 : Int).toNat ByteArray.empty)] := hk
    subst hK
    have h1 := hcell 0 _ rfl
    rw [show (0 : Int).toNat * Kd.string.sz + 0 = 0 from rfl, show ad.add 0 = ad from rfl] at h1
    have hs := spot_of h1
    have hblk := World.block_lt_of_cell? w ad h1
    rw [hs]
    refine Tryd.strings_Join ad.block ad.off c0 l0 a1 w (fun j x hx => ?_) hblk hb.1 hc0 hb.2
    have hj : j < l0.length := (List.getElem?_eq_some_iff.1 hx).1
    obtain ⟨ad2, cs2, e2, _, hk2, hcell2⟩ := Kd.C_get hr0 ByteArray.empty (j : Int) (by omega) (by omega)
    obtain rfl := Option.some.inj e2
    have hK2 : cs2 = [.string (l0.getD (j : Int).toNat ByteArray.empty)] := hk2
    subst hK2
    have h2 := hcell2 0 _ rfl
    rw [show (j : Int).toNat * Kd.string.sz + 0 = j from by show (j : Int).toNat * 1 + 0 = j; omega, hs, add_at, List.getD_eq_getElem?_getD, Int.toNat_natCast, hx] at h2
    exact h2
def rowV (L : List (List UInt8)) : List Value := L.map fun x => .string (bytesOfL x)
theorem rowV_encs (L : List (List UInt8)) : encs Value.string (L.map bytesOfL) = rowV L := by simp [encs, rowV]
theorem join_eq (l : List (List UInt8)) : Lib.join l [47] = Nm.joinT l := by
  induction l with
  | nil => rfl
  | cons x r ih =>
    cases r with
    | nil => simp [Lib.join, List.intercalate, Nm.joinT]
    | cons y s =>
      have : Lib.join (x :: y :: s) [47] = x ++ 47 :: Lib.join (y :: s) [47] := by simp [Lib.join, List.intercalate]
      rw [this, ih]; rfl
theorem join_own {W : World} {base n c : Nat} {A : Option Addr} {L : List (List UInt8)} (h : W.ownsRow base 9 1 (.slice A n c) L.length (rowV L)) (hl : L.length ≤ 4294967296) (ht : Nm.totL L ≤ 4294967296) :
    Calls Tryd.prog 85 #[.slice A n c, .string ⟨#[47]⟩] W fun e w' => e = .returned (.string (bytesOfL (Nm.joinT L))) ∧ Below W.heap.size W w' := by
  have hR : (Kd.string).R 9 W base (fun _ => True) (.slice A n c) (L.map bytesOfL) := Kd.R_of_own (by rw [List.length_map, rowV_encs]; exact h) (fun _ _ => trivial)
  obtain ⟨rfl, h2, h3⟩ := Kd.R_reads' hR
  have hm : (L.map bytesOfL).map (·.data.toList) = L := by
    rw [List.map_map]
    have : ((fun x : ByteArray => x.data.toList) ∘ bytesOfL) = id := rfl
    rw [this, List.map_id]
  have := join_C A c (L.map bytesOfL) ⟨#[47]⟩ W h3 h2 (by
    rw [hm, List.length_map]
    have e : (⟨#[47]⟩ : ByteArray).data.toList = [47] := rfl
    rw [e, join_eq]
    have := Nm.joinT_totL L
    omega)
  rw [hm, show (⟨#[47]⟩ : ByteArray).data.toList = [47] from rfl, join_eq] at this
  exact this
theorem own_last {W : World} {base n c : Nat} {A : Option Addr} {L : List (List UInt8)} (h : W.ownsRow base 9 1 (.slice A n c) L.length (rowV L)) (m : Nat) (hm : m = L.length - 1) : W.ownsRow base 9 1 (.slice A m c) L.dropLast.length (rowV L.dropLast) := by
  have hR : (Kd.string).R 9 W base (fun _ => True) (.slice A n c) (L.map bytesOfL) := Kd.R_of_own (by rw [List.length_map, rowV_encs]; exact h) (fun _ _ => trivial)
  have := Kd.own_of_R (Kd.R_take (m := m) hR (by rw [List.length_map]; omega))
  rw [← List.map_take, List.length_map, rowV_encs] at this
  subst hm
  rw [List.dropLast_eq_take]
  exact this
theorem own_slice {W : World} {base : Nat} {v : Value} {L : List (List UInt8)} (h : W.ownsRow base 9 1 v L.length (rowV L)) : ∃ A c, v = .slice A L.length c ∧ L.length ≤ c := by
  rcases h.2 with ⟨rfl, h0⟩ | ⟨g, cap, cur, rfl, _, _, h1, _⟩
  · exact ⟨none, 0, by rw [h0], by omega⟩
  · exact ⟨_, _, rfl, h1⟩
end Go.Proofs.YthpecpkncifngaaDoor.Jn
end

/- The contract of name.Lead. -/
section
namespace Go.Proofs.YthpecpkncifngaaDoor.LeadW
open Go.RowKit Go.Shelf Go.Proofs.YthpecpkncifngaaDoor Go.Proofs.YthpecpkncifngaaDoor.Jn
open Go.Proofs.YthpecpkncifngaaDoorW.PrintWords Go.Proofs.YthpecpkncifngaaDoorW.PrintLast Go.Proofs.YthpecpkncifngaaDoorW.PrintMore
attribute [local go_sem] Oper.semAt_some
theorem boxed_own {β : Type} (B : Nat) (t : TypeId) (v : Value) : Own (fun (_ : β) W => Boxed W B t v) := fun s A C row hs hg hr => hs.kept hg (fun e => by
  obtain ⟨o, ho, hc⟩ := hr B e.symm
  rw [show A.heap[B]? = _ from hs] at ho; cases ho; cases hc)
theorem box_below {w W : World} {B : Nat} {t : TypeId} {v : Value} (h : Boxed w B t v) (hb : Below w.heap.size w W) : Boxed W B t v := (hb.block B h.lt).trans h
theorem box_far {W : World} {B C : Nat} {t : TypeId} {v u : Value} (h : Boxed W B t v) (hc : C ≠ B) : Boxed (W.setCell ⟨C, 0, none⟩ u) B t v := (Below.heap_setCell W ⟨C, 0, none⟩ u B (Ne.symm hc)).trans h
theorem info_str : (Tryd.prog.info? 9).map (fun i => (i.zero, i.size, i.bytes)) = some (some (.string ⟨#[]⟩), 1, 16) := by kernel_rfl
theorem append_at {F : Fence} {n : Nat} {P : Program} (w : World) {ops : Array Oper} {rest : List Oper} {o : Oper} {a : Act} {Q : Exit → Act → World → Prop}
    (hg : o.guard = none) (s x : Operand) (t : TypeId) (hop : o.op = Op.call { callee := Callee.builtin Builtin.append, args := #[s, x], argTypes := #[t, t] })
    (base : Nat) (e : TypeId) (i : TypeInfo) (z : Value) (size bytes : Nat) (h1 : P.underlying t = some (.slice e)) (h2 : P.info? e = some i) (h3 : i.zero = some z) (h4 : i.size = size) (h5 : i.bytes = bytes) (h6 : z.cells.size = size) (h7 : 0 < size)
    (v : Value) (k : Nat) (xs : List Value) (hs : a.eval s = v) (hown : w.ownsRow base e size v k xs) (ad : Addr) (m c : Nat) (news : List Value) (hx : a.eval x = .slice (some ad) m c) (hn : news.length = m * size)
    (hc : ∀ j u, news[j]? = some u → w.cell? (ad.add j) = some u) (h1c : ∀ u ∈ news, u.oneCell' = true) (b1 : k + m ≤ maxLen) (b2 : (k + m) * bytes ≤ 140737488355328) (b3 : base ≤ w.heap.size)
    (hK : ∀ v' w', w'.ownsRow base e size v' (k + m) (xs ++ news) → w.grownBy w' v.ownBlock → (v'.ownBlock = v.ownBlock ∨ v'.ownBlock = some w.heap.size) → wpListIn F n P ops Q rest (a.put o.dst v') w') :
    wpListIn F n P ops Q (o :: rest) a w := by
  refine wpListIn_plain hg fun K hK' => ?_
  obtain ⟨v', w', hrun, r1, r2, _, r3⟩ := run_append_own_at (P := P) w base t o.type e i z size bytes h1 h2 h3 h4 h5 h6 h7 v k xs hown ad m c news hn hc h1c b1 b2 b3
  unfold Oper.wpIn
  refine ⟨?_, ?_⟩
  · simp [Oper.about, hop, resolve, Target.leads, Sem.run_pure]
  · rw [Oper.semAt_plain F _ _ (by rw [hop]; intro c hc'; cases hc')]
    simp [execOp, hop, resolve, invoke, builtin, hs, hx, hrun, Result.andThen]
    exact hK' _ _ (hK v' w' r1 r2 r3)
def txt (pre : List (Nat × ByteArray)) : List (List UInt8) := pre.map fun x => x.2.data.toList
theorem txt_snoc (pre : List (Nat × ByteArray)) (x : Nat × ByteArray) : txt (pre ++ [x]) = txt pre ++ [x.2.data.toList] := by simp [txt]
theorem txt_all (l : List UInt8) : txt (piecesB 0 l) = Nm.texts l := by
  simp only [txt, piecesB, List.map_map, Nm.texts]
  rfl
def wl (P0 : List (List UInt8)) (pre : List (Nat × ByteArray)) : List (List UInt8) := (Nm.way P0 (txt pre)).getD []
theorem wl_of {P0 : List (List UInt8)} {pre : List (Nat × ByteArray)} {L : List (List UInt8)} (h : Nm.way P0 (txt pre) = some L) : wl P0 pre = L := by rw [wl, h]; rfl
theorem wrap_last (N n : Nat) (h1 : N = n + 1) (h : n ≤ 1048576) : wrap64 ((N : Int) - 1) = (n : Int) := by unfold wrap64; omega
theorem split_form (p : ByteArray) (hp : p.size ≤ 400) {w2 : World} {base : Nat} {v : Value} (hR : Kd.R Kd.string 9 w2 base (fun _ => True) v (Sp.textsB p)) :
    ∃ g N n cap, v = .slice (some ⟨g, 0, none⟩) N cap ∧ N = n + 1 ∧ g < w2.heap.size ∧ base ≤ g ∧ N ≤ cap ∧ n ≤ 400 ∧
      w2.ownsRow base 9 1 (.slice (some ⟨g, 0, none⟩) n cap) (Nm.texts p.data.toList).dropLast.length (rowV (Nm.texts p.data.toList).dropLast) := by
  obtain ⟨n, hn⟩ : ∃ n, (Nm.texts p.data.toList).length = n + 1 := ⟨(Nm.texts p.data.toList).length - 1, by have := List.length_pos_iff.2 (Nm.texts_ne p.data.toList); omega⟩
  have hrow0 : w2.ownsRow base 9 1 v (Nm.texts p.data.toList).length (rowV (Nm.texts p.data.toList)) := by
    have := Kd.own_of_R hR
    rw [Sp.textsB, List.length_map, rowV_encs] at this
    exact this
  rw [hn] at hrow0
  obtain ⟨g, cap, rfl⟩ := ownsRow_succ hrow0
  have hnl : n ≤ 400 := by
    have := Nm.pieces_length p.data.toList 0
    have h2 := Sp.len_eq p
    have h3 : (Nm.texts p.data.toList).length = (Nm.pieces 0 p.data.toList).length := by simp [Nm.texts]
    omega
  exact ⟨g, n + 1, n, cap, rfl, rfl, Kd.R_lt hR g rfl, Kd.R_base hR g rfl, (Kd.R_reads' hR).2.1, hnl, own_last (n := n + 1) (by rw [hn]; exact hrow0) n (by rw [hn]; rfl)⟩
theorem len_tot (L : List (List UInt8)) : L.length ≤ Nm.totL L := by
  induction L with
  | nil => exact Nat.le_refl _
  | cons x r ih => simp only [Nm.totL, List.map_cons, List.sum_cons, List.length_cons] at ih ⊢; omega
theorem len_zero {α : Type} {l : List α} (h : ((l.length : Int) == 0) = true) : l = [] := by
  have : (l.length : Int) = 0 := by simpa using h
  exact List.eq_nil_of_length_eq_zero (by omega)
theorem own_any (A : Option Addr) (n m c : Nat) : (Value.slice A n c).ownBlock = (Value.slice A m c).ownBlock := by cases A <;> rfl
theorem rowV_snoc (L : List (List UInt8)) (x : ByteArray) : rowV (L ++ [x.data.toList]) = rowV L ++ [.string x] := by simp [rowV]; rfl
theorem wl_len {P0 : List (List UInt8)} {pre : List (Nat × ByteArray)} {q : ByteArray} (h : Nm.way P0 (txt pre) = some (wl P0 pre)) (h0 : P0.length ≤ 400) (hq : q.size ≤ 400) (hl : pre.length < (piecesB 0 q.data.toList).length) : (wl P0 pre).length ≤ 1048576 := by
  have h1 := Nm.way_len _ _ _ h
  have h2 : (txt pre).length = pre.length := by simp [txt]
  have h3 : (piecesB 0 q.data.toList).length = (Nm.pieces 0 q.data.toList).length := by simp [piecesB]
  have h4 := Nm.pieces_length q.data.toList 0
  have h5 := Sp.len_eq q
  omega
theorem two_box (W : World) (b : Nat) {v1 v2 u1 u2 : Value} {t1 t2 : TypeId} (h1 : Boxed W b t1 u1) (h2 : Boxed W (b + 1) t2 u2) :
    Boxed ((W.setCell ⟨b, 0, none⟩ v1).setCell ⟨b + 1, 0, none⟩ v2) b t1 v1 ∧ Boxed ((W.setCell ⟨b, 0, none⟩ v1).setCell ⟨b + 1, 0, none⟩ v2) (b + 1) t2 v2 :=
  ⟨box_far (Boxed.set v1 h1) (by omega), Boxed.set v2 (box_far h2 (by omega))⟩
set_option maxRecDepth 100000 in
set_option maxHeartbeats 4000000 in
theorem lead_bad (p q : ByteArray) (e : Nat) (he : (Nm.check p.data.toList).2 = e) (h0 : e ≠ 0) (w : World) :
    Calls Tryd.prog 59 #[.string p, .string q] w fun e_ w' => e_ = .returned (.tuple #[.string ⟨#[]⟩, .int .i64 e]) ∧ Below w.heap.size w w' := by
  have b1 := Boxed.new w 9 (.string ⟨#[]⟩)
  have b2 := Boxed.new (w.alloc (.cells #[.string ⟨#[]⟩] 9)) 28 (.int .i64 0)
  rw [World.size_alloc] at b2
  have hB0 : Below w.heap.size w ((w.alloc (.cells #[.string ⟨#[]⟩] 9)).alloc (.cells #[.int .i64 0] 28)) := ((Below.refl _ w).alloc (Nat.le_refl _) _).alloc (by simp) _
  have hne : ((e : Int) != 0) = true := by simp; omega
  refine (callsIn_wide (n := 3)).1 ?_
  refine callsIn_of_wp_marks Tryd.func59 rfl trivial ?_ rfl
  simp only [Tryd.ntmps59, List.size_toArray, List.length_cons, List.length_nil, Nat.reduceAdd, Nat.reduceSub, Array.replicate_succ, Array.replicate_zero, List.push_toArray, List.append_toArray, List.nil_append, List.cons_append]
  gi_wp2_with fail
  refine ⟨trivial, ?_⟩
  refine (callsIn_wide.2 (check_any _ _)).mono ?_
  rintro e w1 ⟨rfl, hB1⟩
  rw [he]
  have hb1 := box_below (b1.alloc (.cells #[.int .i64 0] 28)) hB1
  have hb2 := box_below b2 hB1
  have c1 := hb1.cell
  have c2 := hb2.cell
  have f1 := hb1.frozen
  have f2 := hb2.frozen
  gi_wp2_with fail
  obtain ⟨r1, r2⟩ := two_box w1 w.heap.size (v1 := .string ⟨#[]⟩) (v2 := .int .i64 e) hb1 hb2
  have r1' := r1.cell
  have r2' := r2.cell
  refine ⟨.tuple #[.string ⟨#[]⟩, .int .i64 e], ?_, rfl, below_two w1 _ _ (hB0.trans (hB1.mono (by simp; omega)))⟩
  simp [results, Tryd.f59, go_sem, r1', r2']
set_option maxRecDepth 100000 in
set_option maxHeartbeats 4000000 in
theorem lead_walk (p q : ByteArray) (he : (Nm.check p.data.toList).2 = 0) (w : World) :
    Calls Tryd.prog 59 #[.string p, .string q] w fun e_ w' => e_ = .returned (.tuple #[.string (bytesOfL (Nm.lead p.data.toList q.data.toList).1), .int .i64 ((Nm.lead p.data.toList q.data.toList).2 : Int)]) ∧ Below w.heap.size w w' := by
  have b1 := Boxed.new w 9 (.string ⟨#[]⟩)
  have b2 := Boxed.new (w.alloc (.cells #[.string ⟨#[]⟩] 9)) 28 (.int .i64 0)
  rw [World.size_alloc] at b2
  have hB0 : Below w.heap.size w ((w.alloc (.cells #[.string ⟨#[]⟩] 9)).alloc (.cells #[.int .i64 0] 28)) := ((Below.refl _ w).alloc (Nat.le_refl _) _).alloc (by simp) _
  have hne : (((0 : Nat) : Int) != 0) = false := rfl
  refine (callsIn_wide (n := 3)).1 ?_
  refine callsIn_of_wp_marks Tryd.func59 rfl trivial ?_ rfl
  simp only [Tryd.ntmps59, List.size_toArray, List.length_cons, List.length_nil, Nat.reduceAdd, Nat.reduceSub, Array.replicate_succ, Array.replicate_zero, List.push_toArray, List.append_toArray, List.nil_append, List.cons_append]
  gi_wp2_with fail
  refine ⟨trivial, ?_⟩
  refine (callsIn_wide.2 (check_any _ _)).mono ?_
  rintro e w1 ⟨rfl, hB1⟩
  rw [he]
  have hb1 := box_below (b1.alloc (.cells #[.int .i64 0] 28)) hB1
  have hb2 := box_below b2 hB1
  have c1 := hb1.cell
  have c2 := hb2.cell
  have f1 := hb1.frozen
  have f2 := hb2.frozen
  have hBw : Below w.heap.size w w1 := hB0.trans (hB1.mono (by simp; omega))
  have hlq : q.data.toList.length = q.size := Sp.len_eq q
  by_cases q1 : q.toList.isEmpty = true
  · have lead_80_ : Nm.lead p.data.toList q.data.toList = ([], 80) := by
      have : q.data.toList = [] := by rw [← Lib.toList_data]; simpa using q1
      simp [Nm.lead, he, this]
    gi_wp2_with fail
    obtain ⟨r1, r2⟩ := two_box w1 w.heap.size (v1 := .string ⟨#[]⟩) (v2 := .int .i64 80) hb1 hb2
    have r1' := r1.cell
    have r2' := r2.cell
    have hlead : Nm.lead p.data.toList q.data.toList = ([], 80) := lead_80_
    rw [hlead]
    refine ⟨.tuple #[.string ⟨#[]⟩, .int .i64 80], ?_, rfl, below_two w1 _ _ hBw⟩
    simp [results, Tryd.f59, go_sem, r1', r2']
  replace q1 : q.toList.isEmpty = false := by simpa using q1
  have hq1 : q.data.toList ≠ [] := by rw [← Lib.toList_data]; simpa using q1
  by_cases q2 : decide (400 < (q.size : Int)) = true
  · have lead_2_ : Nm.lead p.data.toList q.data.toList = ([], 2) := by
      have : 400 < q.data.toList.length := by rw [hlq]; have := of_decide_eq_true q2; omega
      simp only [Nm.lead, he, hq1, this, if_true, if_false, ne_eq, not_true_eq_false]
    gi_wp2_with fail
    obtain ⟨r1, r2⟩ := two_box w1 w.heap.size (v1 := .string ⟨#[]⟩) (v2 := .int .i64 2) hb1 hb2
    have r1' := r1.cell
    have r2' := r2.cell
    have hlead : Nm.lead p.data.toList q.data.toList = ([], 2) := lead_2_
    rw [hlead]
    refine ⟨.tuple #[.string ⟨#[]⟩, .int .i64 2], ?_, rfl, below_two w1 _ _ hBw⟩
    simp [results, Tryd.f59, go_sem, r1', r2']
  replace q2 : decide (400 < (q.size : Int)) = false := by simpa using q2
  have hq2 : ¬ 400 < q.data.toList.length := by rw [hlq]; have := of_decide_eq_false q2; omega
  have qs : 0 < q.size := by have := List.length_pos_iff.2 hq1; omega
  gi_wp2_with fail
  refine ⟨trivial, ?_⟩
  refine (callsIn_wide.2 (ibyte _ 0 _)).mono ?_
  rintro e w' ⟨rfl, rfl⟩
  by_cases q3 : decide (0 ≤ Lib.indexByte q.data.toList 0) = true
  · have lead_82_ : Nm.lead p.data.toList q.data.toList = ([], 82) := by
      have := of_decide_eq_true q3
      simp only [Nm.lead, he, hq1, hq2, this, if_true, if_false, ne_eq, not_true_eq_false]
    gi_wp2_with fail
    obtain ⟨r1, r2⟩ := two_box w1 w.heap.size (v1 := .string ⟨#[]⟩) (v2 := .int .i64 82) hb1 hb2
    have r1' := r1.cell
    have r2' := r2.cell
    have hlead : Nm.lead p.data.toList q.data.toList = ([], 82) := lead_82_
    rw [hlead]
    refine ⟨.tuple #[.string ⟨#[]⟩, .int .i64 82], ?_, rfl, below_two w1 _ _ hBw⟩
    simp [results, Tryd.f59, go_sem, r1', r2']
  replace q3 : decide (0 ≤ Lib.indexByte q.data.toList 0) = false := by simpa using q3
  have hq3 := of_decide_eq_false q3
  have hq4 : q.data.toList.head? = some q[0] := by
    rw [List.head?_eq_getElem?, Array.getElem?_toList]
    exact Array.getElem?_eq_getElem qs
  by_cases q4 : (((q[0]'qs).toNat : Int) == 47) = true
  · have lead_83_ : Nm.lead p.data.toList q.data.toList = ([], 83) := by
      have h47 : q[0] = 47 := by
        have : ((q[0]'qs).toNat : Int) = 47 := by simpa using q4
        exact UInt8.toNat_inj.1 (by show (q[0]'qs).toNat = 47; omega)
      have : q.data.toList.head? = some 47 := by rw [hq4, h47]
      simp only [Nm.lead, he, hq1, hq2, hq3, this, if_true, if_false, ne_eq, not_true_eq_false]
    gi_wp2_with fail
    obtain ⟨r1, r2⟩ := two_box w1 w.heap.size (v1 := .string ⟨#[]⟩) (v2 := .int .i64 83) hb1 hb2
    have r1' := r1.cell
    have r2' := r2.cell
    have hlead : Nm.lead p.data.toList q.data.toList = ([], 83) := lead_83_
    rw [hlead]
    refine ⟨.tuple #[.string ⟨#[]⟩, .int .i64 83], ?_, rfl, below_two w1 _ _ hBw⟩
    simp [results, Tryd.f59, go_sem, r1', r2']
  have hlead : Nm.lead p.data.toList q.data.toList = Nm.led (Nm.way (Nm.texts p.data.toList).dropLast (Nm.texts q.data.toList)) := by
    have h47 : ¬ q.data.toList.head? = some 47 := by
      rw [hq4]
      intro e
      injection e with e
      rw [e] at q4
      exact q4 rfl
    simp only [Nm.lead, he, hq1, hq2, hq3, h47, if_false, ne_eq, not_true_eq_false]
  replace q4 : (((q[0]'qs).toNat : Int) == 47) = false := by simpa using q4
  have Hlead := Lib.hid hlead
  have hq400 : q.size ≤ 400 := by omega
  clear hlead hq4 hq3 hq1 hq2
  have hp4 : p.size ≤ 400 := by
    unfold Nm.check at he
    by_cases h : 400 < p.data.toList.length
    · rw [if_pos h] at he; simp at he
    · rw [Sp.len_eq] at h; omega
  gi_wp2_with fail
  refine ⟨trivial, ?_⟩
  refine (callsIn_wide.2 (Sp.split_calls p (by omega) _)).mono ?_
  rintro e w2 ⟨v, rfl, hR, hB2⟩
  obtain ⟨g, N, n, cap, rfl, hNn, hg, hgb, hncap, hnl, hrow1⟩ := split_form p (by omega) hR
  obtain ⟨i0, hi0, hz0, hz1, hz2⟩ := info_parts info_str
  have hcut := cut_to (P := Tryd.prog) 60 9 .i64 Tryd.underlying60 hi0 (some ⟨g, 0, none⟩) N cap (n : Int) (Int.natCast_nonneg n) (by rw [hNn]; exact Int.ofNat_le.2 (Nat.le_succ n)) hncap
  rw [Int.toNat_natCast] at hcut
  have hb1 := box_below hb1 hB2
  have hb2 := box_below hb2 hB2
  have hB3 : Below w.heap.size w w2 := hBw.trans (hB2.mono hBw.size)
  have hw : wrap64 ((N : Int) - 1) = (n : Int) := wrap_last N n hNn (by omega)
  have HNn := Lib.hid hNn
  clear hNn hR
  gi_wp2_with fail
  refine ⟨trivial, ?_⟩
  refine (callsIn_wide.2 (each_any _ _)).mono ?_
  rintro e w3 ⟨rfl, rfl⟩
  gi_wp2_with fail
  have hP0 : (Nm.texts p.data.toList).dropLast.length ≤ 400 := by
    have h3 := hrow1.1
    have := Nm.pieces_length p.data.toList 0
    have h4 : (Nm.texts p.data.toList).length = (Nm.pieces 0 p.data.toList).length := by simp [Nm.texts]
    have h2 := Sp.len_eq p
    rw [List.length_dropLast]
    omega
  obtain ⟨P0, hP⟩ : ∃ P0, (Nm.texts p.data.toList).dropLast = P0 := ⟨_, rfl⟩
  have HP := Lib.hid hP
  rw [hP] at hrow1 hP0
  clear hP
  have hWa : Below w2.heap.size w2 ((w2.alloc (.cells #[.slice (some ⟨g, 0, none⟩) n cap] 60)).alloc (.cells #[.string q] 9)) := ((Below.refl _ w2).alloc (Nat.le_refl _) _).alloc (by simp) _
  have d1 := Boxed.new w2 60 (.slice (some ⟨g, 0, none⟩) n cap)
  have d2 := Boxed.new (w2.alloc (.cells #[.slice (some ⟨g, 0, none⟩) n cap] 60)) 9 (.string q)
  rw [World.size_alloc] at d2
  have d3 := d1.alloc (.cells #[.string q] 9)
  have hb1 := box_below hb1 hWa
  have hb2 := box_below hb2 hWa
  have hB4 := hB3.trans (hWa.mono hB3.size)
  have hrow2 := (hrow1.alloc (.cells #[.slice (some ⟨g, 0, none⟩) n cap] 60)).alloc (.cells #[.string q] 9)
  have hsz : ((w2.alloc (.cells #[.slice (some ⟨g, 0, none⟩) n cap] 60)).alloc (.cells #[.string q] 9)).heap.size = w2.heap.size + 2 := by simp
  have h02 : w.heap.size + 2 ≤ w1.heap.size := by have := hB1.size; simpa using this
  have h12 : w1.heap.size ≤ w2.heap.size := hB2.size
  clear d1 hcut hw hrow1 hB0 hB1 hB2 hBw hB3 hWa hncap hnl HNn c1 c2 f1 f2 b1 b2
  generalize ((w2.alloc (.cells #[.slice (some ⟨g, 0, none⟩) n cap] 60)).alloc (.cells #[.string q] 9)) = w3 at *
  refine wpIn_rangeFunc_ownF rfl (by omega) (gf := 97) (lb := #[.pointer (some ⟨w2.heap.size + 1, 0, none⟩)]) rfl trivial (enters_of Tryd.func97 (by kernel_rfl) rfl)
    (each_stops (3 - 1) (by omega) (w2.heap.size + 1) q (by omega) w3 (by omega) d2.cell) box_t (box_b (by omega)) (Below.refl _ _) (fun _ => rfl)
    (fun pre W => (∃ v, Boxed W w2.heap.size 60 v ∧ W.ownsRow w1.heap.size 9 1 v (wl P0 pre).length (rowV (wl P0 pre)) ∧ (Nm.way P0 (txt pre) = some (wl P0 pre) ∧ v.ownBlock ≠ some (w2.heap.size + 1))) ∧ (Boxed W w.heap.size 9 (.string ⟨#[]⟩) ∧ (Boxed W (w.heap.size + 1) 28 (.int .i64 0) ∧ (Boxed W (w2.heap.size + 1) 9 (.string q) ∧ Below w.heap.size w W))))
    (fun c pre W => (c = .ret ∧ Nm.way P0 (txt pre) = none) ∧ (Boxed W w.heap.size 9 (.string ⟨#[]⟩) ∧ (Boxed W (w.heap.size + 1) 28 (.int .i64 83) ∧ Below w.heap.size w W)))
    (OwnFrom.and (Own.from (holdsRow_own w1.heap.size w2.heap.size 60 9 1 (fun pre => (wl P0 pre).length) (fun pre => rowV (wl P0 pre)) (fun pre v => Nm.way P0 (txt pre) = some (wl P0 pre) ∧ v.ownBlock ≠ some (w2.heap.size + 1))) _)
      (OwnFrom.and (Own.from (boxed_own _ _ _) _) (OwnFrom.and (Own.from (boxed_own _ _ _) _) (OwnFrom.and (Own.from (boxed_own _ _ _) _) (ownFrom_below (Nat.le_refl _) (by omega))))))
    (fun c => OwnFrom.and (fun s A B row hs hg hr => hs) (OwnFrom.and (Own.from (boxed_own _ _ _) _) (OwnFrom.and (Own.from (boxed_own _ _ _) _) (ownFrom_below (Nat.le_refl _) (by omega)))))
    ⟨⟨_, d3, hrow2, rfl, by simp [Value.ownBlock]; omega⟩, hb1, hb2, d2, hB4⟩ ?a1 ?assign ?body ?done ?stop
  case assign =>
    intro l x W K hK
    gi_wp2
    exact hK
  case body =>
    rintro l pre x W ⟨⟨v, hv, hrow, hway, hvo⟩, hr1, hr2, hbe, hB⟩ hlen
    obtain ⟨A, c, rfl, hAc⟩ := Jn.own_slice hrow
    have hc1 := hv.cell
    have hf1 := hv.frozen
    have es := Lib.hid (Lib.toList_data x.2)
    have hwl : (wl P0 pre).length ≤ 1048576 := wl_len hway hP0 (by omega) hlen
    by_cases q5 : x.2.toList.isEmpty = true
    · have hw2 : Nm.way P0 (txt (pre ++ [x])) = some (wl P0 pre) := by rw [txt_snoc, Nm.way_snoc hway]; exact Nm.way_empty _ (by rw [← es.out]; exact q5)
      as_aux_lemma =>
      have Hw2 := Lib.hid hw2
      clear hw2
      gi_wp2
      exact ⟨KeepsOthers.refl _, rfl, ⟨_, hv, by rw [wl_of Hw2.out]; exact hrow, by rw [wl_of Hw2.out]; exact Hw2.out, hvo⟩, hr1, hr2, hbe, hB⟩
    replace q5 : x.2.toList.isEmpty = false := by simpa using q5
    by_cases q6 : (x.2.toList == [46]) = true
    · have hw2 : Nm.way P0 (txt (pre ++ [x])) = some (wl P0 pre) := by rw [txt_snoc, Nm.way_snoc hway]; exact Nm.way_dot _ (by rw [← es.out]; exact q6)
      as_aux_lemma =>
      have Hw2 := Lib.hid hw2
      clear hw2
      gi_wp2
      exact ⟨KeepsOthers.refl _, rfl, ⟨_, hv, by rw [wl_of Hw2.out]; exact hrow, by rw [wl_of Hw2.out]; exact Hw2.out, hvo⟩, hr1, hr2, hbe, hB⟩
    replace q6 : (x.2.toList == [46]) = false := by simpa using q6
    by_cases q7 : (x.2.toList == [46, 46]) = true
    · have hw2 : Nm.way P0 (txt (pre ++ [x])) = if wl P0 pre = [] then none else some (wl P0 pre).dropLast := by rw [txt_snoc, Nm.way_snoc hway]; exact Nm.way_up _ (by rw [← es.out]; exact q7)
      by_cases q8 : (((wl P0 pre).length : Int) == 0) = true
      · have hnil : wl P0 pre = [] := len_zero q8
        rw [if_pos hnil] at hw2
        as_aux_lemma =>
        have Hw2 := Lib.hid hw2
        clear hw2 hnil
        have c1 := hr1.cell
        have f1 := hr1.frozen
        have c2 := hr2.cell
        have f2 := hr2.frozen
        obtain ⟨r1, r2⟩ := two_box W w.heap.size (v1 := .string ⟨#[]⟩) (v2 := .int .i64 83) hr1 hr2
        have R1 := Lib.hid r1
        have R2 := Lib.hid r2
        clear r1 r2
        gi_wp2
        exact ⟨keeps_two _ _ _ _, ⟨rfl, Hw2.out⟩, R1.out, R2.out, below_two W _ _ hB⟩
      · have hnil : wl P0 pre ≠ [] := fun e => by rw [e] at q8; exact q8 rfl
        rw [if_neg hnil] at hw2
        replace q8 : (((wl P0 pre).length : Int) == 0) = false := by simpa using q8
        obtain ⟨m, hm⟩ : ∃ m, (wl P0 pre).length = m + 1 := ⟨(wl P0 pre).length - 1, by have := List.length_pos_iff.2 hnil; omega⟩
        as_aux_lemma =>
        have hcut := cut_to (P := Tryd.prog) 60 9 .i64 Tryd.underlying60 hi0 A (wl P0 pre).length c (((wl P0 pre).length : Int) - 1) (by omega) (by omega) hAc
        have hjt : (((wl P0 pre).length : Int) - 1).toNat = (wl P0 pre).length - 1 := by omega
        rw [hjt] at hcut
        clear hjt
        have hr := own_last hrow _ rfl
        have Hw2 := Lib.hid hw2
        have Hr := Lib.hid hr
        clear hw2 hnil hm hr
        gi_wp2
        refine ⟨KeepsOthers.setCell _ _ _, World.cell?_setCell_far _ _ _ _ (by simp), ⟨.slice A ((wl P0 pre).length - 1) c, Boxed.set _ hv, ?_, by rw [wl_of Hw2.out]; exact Hw2.out, by rw [own_any A _ (wl P0 pre).length c]; exact hvo⟩, box_far hr1 (by omega), box_far hr2 (by omega), box_far hbe (by omega), hB.setCell (p := ⟨w2.heap.size, 0, none⟩) (by show w.heap.size ≤ w2.heap.size; omega) _⟩
        rw [wl_of Hw2.out]
        exact Hr.out.kept (grownBy_setCell' W w2.heap.size _) (.inr (hv.not_row (by decide) Hr.out).symm)
    replace q7 : (x.2.toList == [46, 46]) = false := by simpa using q7
    have hw2 : Nm.way P0 (txt (pre ++ [x])) = some (wl P0 pre ++ [x.2.data.toList]) := by
      rw [txt_snoc, Nm.way_snoc hway]
      exact Nm.way_part _ (by rw [← es.out]; exact q5) (by rw [← es.out]; exact q6) (by rw [← es.out]; exact q7)
    as_aux_lemma =>
    have Hw2 := Lib.hid hw2
    clear hw2
    have k1 : (wl P0 pre).length + 1 ≤ maxLen := by simp only [maxLen]; omega
    have k2 : ((wl P0 pre).length + 1) * 16 ≤ 140737488355328 := by omega
    have k3 : w1.heap.size ≤ W.heap.size := by have := hbe.lt; omega
    have k4 : w1.heap.size ≤ (W.alloc (.cells #[.string x.2] 9)).heap.size := by simp; omega
    have K1 := Lib.hid k1
    have K2 := Lib.hid k2
    clear k1 k2
    gi_wp2_with (gi_at_builtin; refine append_at _ rfl _ _ 60 rfl w1.heap.size 9 i0 (.string ⟨#[]⟩) 1 16 Tryd.underlying60 hi0 hz0 hz1 hz2 rfl (by decide) _ _ _ rfl (hrow.alloc _) ⟨W.heap.size, 0, none⟩ 1 1 [.string x.2] rfl rfl (cell_one_new _ _ _) (by simp [Value.oneCell']) K1.out K2.out k4 ?_; intro v' w1' hown' hgrow hat; obtain ⟨g', cap', rfl⟩ := ownsRow_succ hown'; obtain ⟨hv1, hv2, hr2', hk2, hb2'⟩ := hv.appended (by decide) hrow k3 h12 hown' hgrow; have hc1' := hv1.cell; have hf1' := hv1.frozen)
    have e1 : wl P0 (pre ++ [x]) = wl P0 pre ++ [x.2.data.toList] := wl_of Hw2.out
    have g1 := ((hr1.alloc (.cells #[.string x.2] 9)).kept hgrow (fun e => by have := own_base hrow _ e.symm; omega))
    have g2 := ((hr2.alloc (.cells #[.string x.2] 9)).kept hgrow (fun e => by have := own_base hrow _ e.symm; omega))
    have g3 := ((hbe.alloc (.cells #[.string x.2] 9)).kept hgrow (Ne.symm hvo))
    refine ⟨hk2, ((box_far g3 (by omega)).cell).trans hbe.cell.symm, ⟨_, hv2, ?_, by rw [e1]; exact Hw2.out, ?_⟩, box_far g1 (by omega), box_far g2 (by omega), box_far g3 (by omega), hB.trans (hb2'.mono (by omega))⟩
    · rw [e1, rowV_snoc, List.length_append]
      exact hr2'
    · have hlt := hbe.lt
      rcases hat with hat | hat
      · rw [hat]; exact hvo
      · rw [hat, World.size_alloc]
        intro e
        injection e with e
        omega
  case done =>
    rintro D ys W hD rfl ⟨⟨v, hv, hrow, hway, hvo⟩, hr1, hr2, hbe, hB⟩ hK
    obtain ⟨A, c, rfl, hAc⟩ := Jn.own_slice hrow
    have hc1 := hv.cell
    rw [txt_all] at hway
    have hld : Nm.lead p.data.toList q.data.toList = (Nm.joinT (wl P0 (piecesB 0 q.data.toList)), 0) := by
      rw [Hlead.out, HP.out, hway]
      rfl
    have hlw : Nm.totL (wl P0 (piecesB 0 q.data.toList)) ≤ 1048576 := by
      have h1 := Nm.way_tot _ _ _ hway
      have h2 : Nm.totL P0 ≤ p.data.toList.length + 1 := by rw [← HP.out, ← Nm.totL_texts]; exact Nm.totL_dropLast _
      rw [Nm.totL_texts] at h1
      have h3 := Sp.len_eq p
      omega
    have hll : (wl P0 (piecesB 0 q.data.toList)).length ≤ 1048576 := Nat.le_trans (len_tot _) hlw
    generalize wl P0 (piecesB 0 q.data.toList) = L at *
    gi_wp2_with fail
    refine ⟨trivial, ?_⟩
    refine (callsIn_wide.2 (join_own hrow (by omega) (by omega))).mono ?_
    rintro e w4 ⟨rfl, hBj⟩
    have hr1 := box_below hr1 hBj
    have hr2 := box_below hr2 hBj
    have hK4 : w4.heap[D]? = some (.deferred (some [])) := (hBj.block D (Array.getElem?_eq_some_iff.1 hK).1).trans hK
    have c1 := hr1.cell
    have f1 := hr1.frozen
    have c2 := hr2.cell
    have f2 := hr2.frozen
    have hB5 := hB.trans (hBj.mono hB.size)
    gi_wp2_with fail
    have hK' := (keeps_two w4 w.heap.size (.string (bytesOfL (Nm.joinT L))) (.int .i64 0)).same D _ hK4 rfl
    obtain ⟨r1, r2⟩ := two_box w4 w.heap.size (v1 := .string (bytesOfL (Nm.joinT L))) (v2 := .int .i64 0) hr1 hr2
    refine ⟨by simp, .inl ⟨_, _, rfl, run_takeDeferred hK', ?_⟩⟩
    have hc5 := cell_kept r1.cell (grownBy_putObj' _ D (.deferred none)) (fun r e => by cases e; exact ⟨_, hK', rfl⟩)
    have hc6 := cell_kept r2.cell (grownBy_putObj' _ D (.deferred none)) (fun r e => by cases e; exact ⟨_, hK', rfl⟩)
    refine ⟨.tuple #[.string (bytesOfL (Nm.joinT L)), .int .i64 0], ?_, by rw [hld]; rfl, (below_two w4 _ _ hB5).trans (belowK_b (w := w) (Nat.le_refl _) _ D _ _ (by omega) hK' rfl rfl)⟩
    simp [results, Tryd.f59, go_sem, hc5, hc6]
  case stop =>
    rintro D c pre W hD hpre ⟨⟨rfl, hway⟩, hr1, hr2, hB⟩ hK
    have hld : Nm.lead p.data.toList q.data.toList = ([], 83) := by
      obtain ⟨r, hr⟩ := hpre
      have : Nm.way P0 (Nm.texts q.data.toList) = none := by
        rw [← txt_all, ← hr]
        have e : txt (pre ++ r) = txt pre ++ txt r := by simp [txt]
        rw [e]
        exact Nm.way_none_prefix hway
      rw [Hlead.out, HP.out, this]
      rfl
    gi_wp2_with fail
    refine ⟨by simp, .inl ⟨_, _, rfl, run_takeDeferred hK, ?_⟩⟩
    have hc5 := cell_kept hr1.cell (grownBy_putObj' _ D (.deferred none)) (fun r e => by cases e; exact ⟨_, hK, rfl⟩)
    have hc6 := cell_kept hr2.cell (grownBy_putObj' _ D (.deferred none)) (fun r e => by cases e; exact ⟨_, hK, rfl⟩)
    refine ⟨.tuple #[.string ⟨#[]⟩, .int .i64 83], ?_, by rw [hld]; rfl, hB.trans (belowK_b (w := w) (Nat.le_refl _) W D _ _ (by omega) hK rfl rfl)⟩
    simp [results, Tryd.f59, go_sem, hc5, hc6]
theorem lead_any (p q : ByteArray) (w : World) :
    Calls Tryd.prog 59 #[.string p, .string q] w fun e_ w' => e_ = .returned (.tuple #[.string (bytesOfL (Nm.lead p.data.toList q.data.toList).1), .int .i64 ((Nm.lead p.data.toList q.data.toList).2 : Int)]) ∧ Below w.heap.size w w' := by
  by_cases h : (Nm.check p.data.toList).2 = 0
  · exact lead_walk p q h w
  · have e : Nm.lead p.data.toList q.data.toList = ([], (Nm.check p.data.toList).2) := by simp only [Nm.lead, h, ne_eq, not_false_eq_true, if_true]
    rw [e]
    exact lead_bad p q _ rfl h w
end Go.Proofs.YthpecpkncifngaaDoor.LeadW
end

-- PRINTED by print.py (a twelfth state) out of the translation. Not trusted: Lean checks it.
section
namespace Go.Proofs.YthpecpkncifngaaDoor.X
open Go.RowKit Go.Proofs.YthpecpkncifngaaDoorW.PrintWords Go.Proofs.YthpecpkncifngaaDoorW.PrintLast Go.Proofs.YthpecpkncifngaaDoorW.PrintMore
attribute [local go_sem] max2_int min2_int max_two min_two max_three min_three max_four min_four   -- for this text's walks alone
def errW : Option Int → Value
  | none => .nilIface
  | some c => .iface 0 (.int .i64 c)
theorem errW_none : errW none = .nilIface := rfl
theorem errW_some (c : Int) : errW (some c) = .iface 0 (.int .i64 c) := rfl
theorem info5 : (Tryd.prog.info? 5).map (fun i => (i.zero, i.size, i.bytes)) = some (some (.int .u8 0), 1, 1) := by kernel_rfl
theorem info9 : (Tryd.prog.info? 9).map (fun i => (i.zero, i.size, i.bytes)) = some (some (.string ⟨#[]⟩), 1, 16) := by kernel_rfl
theorem info26 : (Tryd.prog.info? 26).map (fun i => (i.zero, i.size, i.bytes)) = some (some (.agg #[(.string ⟨#[]⟩), (.int .u8 0), (.int .i64 0), (.int .i64 0), (.slice none 0 0), (.string ⟨#[]⟩)]), 6, 80) := by kernel_rfl
-- the values' own types
structure S26 where
  f0 : ByteArray
  f1 : Int
  f2 : Int
  f3 : Int
  f4 : (List Int)
  f5 : ByteArray
def z26 : S26 := ⟨(⟨#[]⟩ : ByteArray), (0 : Int), (0 : Int), (0 : Int), ([] : List Int), (⟨#[]⟩ : ByteArray)⟩
def k26 : Kd S26 := Kd.iso (Kd.pair Kd.string (Kd.pair (Kd.int .u8) (Kd.pair (Kd.int .i64) (Kd.pair (Kd.int .i64) (Kd.pair (Kd.slice 5 (Kd.int .u8)) Kd.string))))) (fun x : S26 => (x.f0, x.f1, x.f2, x.f3, x.f4, x.f5))
theorem k26_open {w : World} {x : S26} {cs : List Value} (h : k26.K w x cs) : ∃ A4 c4, cs = [.string x.f0, .int .u8 x.f1, .int .i64 x.f2, .int .i64 x.f3, .slice A4 x.f4.length c4, .string x.f5] ∧ x.f4.length ≤ c4 ∧ (Kd.int .u8).C w A4 x.f4.length x.f4 := by
  obtain ⟨_, _, rfl, rfl, ⟨_, _, rfl, rfl, ⟨_, _, rfl, rfl, ⟨_, _, rfl, rfl, ⟨_, _, rfl, ⟨A4, c4, rfl, l4, g4⟩, rfl⟩⟩⟩⟩⟩ := h
  exact ⟨A4, c4, rfl, l4, g4⟩
theorem k26_mk (w : World) (x : S26) {A4 : Option Addr} {c4 : Nat} (l4 : x.f4.length ≤ c4) (g4 : (Kd.int .u8).C w A4 x.f4.length x.f4) : k26.K w x [.string x.f0, .int .u8 x.f1, .int .i64 x.f2, .int .i64 x.f3, .slice A4 x.f4.length c4, .string x.f5] := ⟨[.string x.f0], [.int .u8 x.f1, .int .i64 x.f2, .int .i64 x.f3, .slice A4 x.f4.length c4, .string x.f5], rfl, rfl, ⟨[.int .u8 x.f1], [.int .i64 x.f2, .int .i64 x.f3, .slice A4 x.f4.length c4, .string x.f5], rfl, rfl, ⟨[.int .i64 x.f2], [.int .i64 x.f3, .slice A4 x.f4.length c4, .string x.f5], rfl, rfl, ⟨[.int .i64 x.f3], [.slice A4 x.f4.length c4, .string x.f5], rfl, rfl, ⟨[.slice A4 x.f4.length c4], [.string x.f5], rfl, ⟨A4, c4, rfl, l4, g4⟩, rfl⟩⟩⟩⟩⟩
theorem k26_openF {W : World} {ok : Nat → Prop} {x : S26} {cs : List Value} (h : Kd.FK k26 W ok x cs) : ∃ A4 c4, cs = [.string x.f0, .int .u8 x.f1, .int .i64 x.f2, .int .i64 x.f3, .slice A4 x.f4.length c4, .string x.f5] ∧ x.f4.length ≤ c4 ∧ Kd.F (Kd.int .u8) W ok A4 x.f4.length x.f4 := by
  obtain ⟨A4, c4, rfl, l4, _⟩ := k26_open (Kd.FK_now h)
  exact ⟨A4, c4, rfl, l4, (fun W' hW => by obtain ⟨A4_, c4_, he, l4_, g4_⟩ := k26_open (h W' hW); injection (Option.some.inj (show some (Value.slice A4 x.f4.length c4) = some (Value.slice A4_ x.f4.length c4_) from congrArg (fun l => l[4]?) he)) with ha_ _ _; rw [ha_]; exact g4_)⟩
theorem k26_mkF (W : World) (ok : Nat → Prop) (x : S26) {A4 : Option Addr} {c4 : Nat} (l4 : x.f4.length ≤ c4) (g4 : Kd.F (Kd.int .u8) W ok A4 x.f4.length x.f4) : Kd.FK k26 W ok x [.string x.f0, .int .u8 x.f1, .int .i64 x.f2, .int .i64 x.f3, .slice A4 x.f4.length c4, .string x.f5] := fun W2 hW => k26_mk W2 x l4 (g4 W2 hW)
def rd_T26 (xs : List S26) (i : Int) : S26 := xs.getD i.toNat z26
theorem at_T26 {w : World} {A : Option Addr} {n : Nat} {xs : List S26} (h : Kd.C k26 w A n xs) (i : Int) (h0 : 0 ≤ i) (h1 : i < n) : ∃ ad A4 c4, A = some ad ∧ w.cell? (ad.add (i.toNat * 6)) = some (.string (rd_T26 xs i).f0) ∧ w.cell? ⟨(ad.add (i.toNat * 6)).block, (ad.add (i.toNat * 6)).off + 1, none⟩ = some (.int .u8 (rd_T26 xs i).f1) ∧ w.cell? ⟨(ad.add (i.toNat * 6)).block, (ad.add (i.toNat * 6)).off + 2, none⟩ = some (.int .i64 (rd_T26 xs i).f2) ∧ w.cell? ⟨(ad.add (i.toNat * 6)).block, (ad.add (i.toNat * 6)).off + 3, none⟩ = some (.int .i64 (rd_T26 xs i).f3) ∧ w.cell? ⟨(ad.add (i.toNat * 6)).block, (ad.add (i.toNat * 6)).off + 4, none⟩ = some (.slice A4 (rd_T26 xs i).f4.length c4) ∧ w.cell? ⟨(ad.add (i.toNat * 6)).block, (ad.add (i.toNat * 6)).off + 5, none⟩ = some (.string (rd_T26 xs i).f5) ∧ (rd_T26 xs i).f4.length ≤ c4 ∧ (Kd.int .u8).C w A4 (rd_T26 xs i).f4.length (rd_T26 xs i).f4 := by
  obtain ⟨ad, c, e, _, hK, hc0⟩ := Kd.C_get h z26 i h0 h1
  have hc : ∀ j u, c[j]? = some u → w.cell? (ad.add (i.toNat * 6 + j)) = some u := hc0
  obtain ⟨A4, c4, rfl, l4, g4⟩ := k26_open hK
  exact ⟨ad, A4, c4, e, hc 0 _ rfl, by rw [← add_field _ _ 1 (by omega)]; exact hc 1 _ rfl, by rw [← add_field _ _ 2 (by omega)]; exact hc 2 _ rfl, by rw [← add_field _ _ 3 (by omega)]; exact hc 3 _ rfl, by rw [← add_field _ _ 4 (by omega)]; exact hc 4 _ rfl, by rw [← add_field _ _ 5 (by omega)]; exact hc 5 _ rfl, l4, g4⟩
end Go.Proofs.YthpecpkncifngaaDoor.X
end

/- The contracts of slices.IndexFunc at items, and of tree.Find. -/
section
namespace Go.Proofs.YthpecpkncifngaaDoor.X
open Go.RowKit Go.Shelf Go.Proofs.YthpecpkncifngaaDoor Go.Proofs.YthpecpkncifngaaDoorW.PrintWords Go.Proofs.YthpecpkncifngaaDoorW.PrintLast Go.Proofs.YthpecpkncifngaaDoorW.PrintMore
def cellsIt (x : S26) (A4 : Option Addr) (c4 : Nat) : Array Value := #[.string x.f0, .int .u8 x.f1, .int .i64 x.f2, .int .i64 x.f3, .slice A4 x.f4.length c4, .string x.f5]
theorem at_it {w W : World} {A : Option Addr} {n : Nat} {xs : List S26} (h : Kd.C k26 w A n xs) (hb : Below w.heap.size w W) (i : Nat) (h1 : i < n) :
    ∃ ad A4 c4, A = some ad ∧ W.cell? (ad.add (i * 6)) = some (.string (rd_T26 xs i).f0) ∧ W.cell? ⟨(ad.add (i * 6)).block, (ad.add (i * 6)).off + 1, none⟩ = some (.int .u8 (rd_T26 xs i).f1) ∧ W.cell? ⟨(ad.add (i * 6)).block, (ad.add (i * 6)).off + 2, none⟩ = some (.int .i64 (rd_T26 xs i).f2) ∧ W.cell? ⟨(ad.add (i * 6)).block, (ad.add (i * 6)).off + 3, none⟩ = some (.int .i64 (rd_T26 xs i).f3) ∧ W.cell? ⟨(ad.add (i * 6)).block, (ad.add (i * 6)).off + 4, none⟩ = some (.slice A4 (rd_T26 xs i).f4.length c4) ∧ W.cell? ⟨(ad.add (i * 6)).block, (ad.add (i * 6)).off + 5, none⟩ = some (.string (rd_T26 xs i).f5) ∧ (rd_T26 xs i).f4.length ≤ c4 ∧ (Kd.int .u8).C W A4 (rd_T26 xs i).f4.length (rd_T26 xs i).f4 := by
  obtain ⟨ad, A4, c4, e, h0, h1', h2, h3, h4, h5, hl, hr⟩ := at_T26 h (i : Int) (by omega) (by omega)
  rw [Int.toNat_natCast] at h0 h1' h2 h3 h4 h5
  have st : ∀ {a : Addr} {v : Value}, w.cell? a = some v → W.cell? a = some v := fun {a v} hv => (hb.cell (World.block_lt_of_cell? w _ hv)).trans hv
  exact ⟨ad, A4, c4, e, st h0, st h1', st h2, st h3, st h4, st h5, hl, Kd.C_below hr hb⟩
def idxP (p : S26 → Bool) (xs : List S26) : Nat → Int
  | k => if h : k < xs.length then (if p (rd_T26 xs k) then (k : Int) else idxP p xs (k + 1)) else -1
termination_by k => xs.length - k
theorem idxP_yes {p : S26 → Bool} {xs : List S26} {k : Nat} (h : k < xs.length) (hp : p (rd_T26 xs k) = true) : idxP p xs k = (k : Int) := by rw [idxP, dif_pos h, if_pos hp]
theorem idxP_no {p : S26 → Bool} {xs : List S26} {k : Nat} (h : k < xs.length) (hp : p (rd_T26 xs k) = false) : idxP p xs k = idxP p xs (k + 1) := by rw [idxP, dif_pos h, if_neg (by simp [hp])]
theorem idxP_end {p : S26 → Bool} {xs : List S26} {k : Nat} (h : xs.length ≤ k) : idxP p xs k = -1 := by rw [idxP, dif_neg (by omega)]
def Tells (g : Nat) (cap : Array Value) (p : S26 → Bool) (w : World) : Prop :=
  ∀ (W : World) (x : S26) (A4 : Option Addr) (c4 : Nat), Below w.heap.size w W → x.f4.length ≤ c4 → (Kd.int .u8).C W A4 x.f4.length x.f4 →
    Calls Tryd.prog g (#[.agg (cellsIt x A4 c4)] ++ cap) W fun e w' => e = .returned (.bool (p x)) ∧ Below W.heap.size W w'
set_option maxRecDepth 100000 in
set_option maxHeartbeats 1000000 in
theorem indexFunc_any (cap : Array Value) (p : S26 → Bool) (A : Option Addr) (c : Nat) (xs : List S26) (w : World) (hr : Kd.C k26 w A xs.length xs) (hm : xs.length ≤ 140737488355328) (hp : Tells 64 cap p w) :
    Calls Tryd.prog 63 #[.slice A xs.length c, .func (.func 64) #[] cap] w fun e w' => e = .returned (.int .i64 (idxP p xs 0)) ∧ Below w.heap.size w w' := by
  have HR := Aside0.mk hr
  have HP := Aside0.mk hp
  clear hr hp
  go_enter Tryd.func63, Tryd.ntmps63
  go_wp2
  go_loopw [8] (fun i wr => ∃ k : Nat, k ≤ xs.length ∧ i = .int .i64 k ∧ Hid (idxP p xs 0 = idxP p xs k) ∧ Aside0 (Below w.heap.size w wr)) (fun i _ => xs.length - (intOf i).toNat)
  case atStart => exact ⟨0, Nat.zero_le _, rfl, Lib.hid rfl, ⟨Below.refl _ _⟩⟩
  case round =>
    obtain ⟨k, hk, rfl, hi, hB⟩ := hrel
    by_cases hlt : k < xs.length
    · obtain ⟨ad, A4, c4, rfl, h0, h1, h2, h3, h4, h5, hl, hr4⟩ := at_it HR.out hB.out k hlt
      have HR4 := Aside0.mk hr4
      clear hr4
      have hB' := hB.out
      by_cases hpk : p (rd_T26 xs k) = true
      · have HI := Lib.hid (hi.out.trans (idxP_yes hlt hpk))
        have HK := Lib.hid hpk
        clear hi hpk
        go_wp2_with fail
        refine (HP.out wr _ A4 c4 hB.out hl HR4.out).mono ?_
        rw [HK.out]
        rintro e w1 ⟨rfl, hb⟩
        go_wp2
        go_ret
        exact ⟨by rw [HI.out]; rfl, hB'.trans (hb.mono hB'.size)⟩
      · have hpk' : p (rd_T26 xs k) = false := by simpa using hpk
        have HI := Lib.hid (hi.out.trans (idxP_no hlt hpk'))
        have HK := Lib.hid hpk'
        clear hi hpk hpk'
        go_wp2_with fail
        refine (HP.out wr _ A4 c4 hB.out hl HR4.out).mono ?_
        rw [HK.out]
        rintro e w1 ⟨rfl, hb⟩
        go_wp2
        go_roundw
        case rel => exact ⟨k + 1, by omega, by go_num, HI, ⟨hB'.trans (hb.mono hB'.size)⟩⟩
        case measure => simp [intOf]; omega
    · have HI := Lib.hid (hi.out.trans (idxP_end (by omega)))
      clear hi
      have hB' := hB.out
      go_wp2
      go_ret
      exact ⟨by rw [HI.out]; rfl, hB'⟩
theorem find1_tells (path : ByteArray) (B : Nat) (w : World) (hc : w.cell? ⟨B, 0, none⟩ = some (.string path)) : Tells 64 #[.pointer (some ⟨B, 0, none⟩)] (fun x => x.f0.toList == path.toList) w := by
  intro W x A4 c4 hB hl hr
  have hb := World.block_lt_of_cell? w _ hc
  have hc' := (hB.cell hb).trans hc
  have hbW : B < W.heap.size := Nat.lt_of_lt_of_le hb hB.size
  clear hc
  unfold cellsIt
  go_enter Tryd.func64, Tryd.ntmps64
  go_wp2
  go_ret
  exact ⟨rfl, (Below.refl _ _).alloc (Nat.le_refl _) _⟩
def findP (xs : List S26) (path : ByteArray) : Int × Int := if idxP (fun x => x.f0.toList == path.toList) xs 0 < 0 then (0, 4) else (idxP (fun x => x.f0.toList == path.toList) xs 0, 0)
theorem find_any (A : Option Addr) (c : Nat) (xs : List S26) (path : ByteArray) (w : World) (hr : Kd.C k26 w A xs.length xs) (hm : xs.length ≤ 140737488355328) :
    Calls Tryd.prog 26 #[.slice A xs.length c, .string path] w fun e w' => e = .returned (.tuple #[.int .i64 (findP xs path).1, .int .i64 (findP xs path).2]) ∧ Below w.heap.size w w' := by
  have HR := Aside0.mk hr
  clear hr
  have hB0 : Below w.heap.size w (w.alloc (.cells #[.string path] 9)) := (Below.refl _ w).alloc (Nat.le_refl _) _
  have hcell : (w.alloc (.cells #[.string path] 9)).cell? ⟨w.heap.size, 0, none⟩ = some (.string path) := (cell_new_l w (.string path) 9).1
  have HT := Aside0.mk (find1_tells path w.heap.size _ hcell)
  clear hcell
  go_enter Tryd.func26, Tryd.ntmps26
  go_wp2_with fail
  refine (indexFunc_any _ _ A c xs _ (Kd.C_below HR.out hB0) hm HT.out).mono ?_
  rintro e w1 ⟨rfl, hb⟩
  by_cases hn : idxP (fun x => x.f0.toList == path.toList) xs 0 < 0
  · have hd := decide_eq_true hn
    have HN := Lib.hid hn
    clear hn
    go_wp2
    go_ret2
    exact ⟨by unfold findP; rw [if_pos (by have := HN.out; omega)]; rfl, hB0.trans (hb.mono hB0.size)⟩
  · have hd := decide_eq_false hn
    have HN := Lib.hid hn
    clear hn
    go_wp2
    go_ret2
    exact ⟨by unfold findP; rw [if_neg (by have := HN.out; omega)]; rfl, hB0.trans (hb.mono hB0.size)⟩
end Go.Proofs.YthpecpkncifngaaDoor.X
end
