/- The row of the law tabulary/tabularylaw11.TreeSorts, where what it reads is of bulk at most 1048576: for every input of that bulk the call returns true, and each argument reads behind the call as it read before. -/
import Derived.Test.YthpecpkncifngaaZTreeSorts2
import Derived.Sort.Lot0
import Derived.Test.YthpecpkncifngaaProg
import Derived.Shelf.SlSortCmp.KitK
import Derived.Sort.WalkB2
import Derived.Sort.WalkB12
import Derived.Deep.LoopGhost
import Derived.Deep.DeepCutAuto
import Derived.Test.YthpecpkncifngaaZTreeSorts1
import Derived.Laws.EntriesVeiled
import Derived.Outline
import Derived.Test.YthpecpkncifngaaRows
import Derived.WalkKit
import Derived.ProofKit
import Derived.OpenShut
import Derived.ShutString
import Derived.ChangeOld
import Derived.Below
import Derived.SizedLaws
import Derived.JoinedCond
import Derived.Deep.CondSized
set_option linter.unusedVariables false
set_option linter.unusedSimpArgs false
/- Stable sorting: what an exchange in a row makes of its list; insertion sort of a piece (no program). -/
section
namespace Go.Proofs.Ythpecpkncifngaa.So
open Go.Sort
section
variable {α : Type} [Inhabited α] {lt : α → α → Bool}
theorem get_mid {d : Array α} {A B : List α} {x : α} (h : d.toList = A ++ x :: B) {i : Nat} (hi : i = A.length) : d[i]! = x := by
  subst hi
  have hl : A.length < d.size := by rw [← Array.length_toList, h]; simp
  rw [getElem!_pos d _ hl, ← Array.getElem_toList (by simpa using hl)]
  simp [h]
theorem swp_list {d : Array α} {A M B : List α} {x y : α} (h : d.toList = A ++ x :: (M ++ y :: B)) {i j : Nat} (hi : i = A.length) (hj : j = A.length + 1 + M.length) :
    (swp d i j).toList = A ++ y :: (M ++ x :: B) := by
  have e1 : d[i]! = x := get_mid h hi
  have e2 : d[j]! = y := get_mid (A := A ++ x :: M) (B := B) (by rw [h]; simp) (by rw [hj]; simp; omega)
  unfold swp
  rw [e1, e2, Array.toList_setIfInBounds, Array.toList_setIfInBounds, h, hi, hj]
  rw [List.set_append_right _ _ (Nat.le_refl _), Nat.sub_self, List.set_cons_zero, List.set_append_right _ _ (by omega), show A.length + 1 + M.length - A.length = M.length + 1 by omega, List.set_cons_succ, List.set_append_right _ _ (Nat.le_refl _), Nat.sub_self, List.set_cons_zero]
theorem swp_flip (d : Array α) {i j : Nat} (h : i ≠ j) : swp d i j = swp d j i := by
  unfold swp
  rw [Array.setIfInBounds_comm _ _ h]
theorem swp_next {d : Array α} {A B : List α} {x y : α} (h : d.toList = A ++ x :: y :: B) {i : Nat} (hi : i = A.length) : (swp d i (i + 1)).toList = A ++ y :: x :: B := by
  have := swp_list (M := []) (d := d) (by simpa using h) hi (j := i + 1) (by rw [hi]; simp)
  simpa using this
theorem swp_prev {d : Array α} {A B : List α} {x y : α} (h : d.toList = A ++ x :: y :: B) {i : Nat} (hi : i = A.length) : (swp d (i + 1) i).toList = A ++ y :: x :: B := by
  rw [swp_flip d (by omega)]; exact swp_next h hi
theorem insInner_list (H : Wo lt) (a : Nat) : ∀ (j : Nat) (d : Array α) (A X B : List α) (y : α), A.length = a → j = a + X.length → d.toList = A ++ X ++ y :: B → Sorted lt X → (insInner lt a j d).toList = A ++ isort lt (X ++ [y]) ++ B
  | 0, d, A, X, B, y, ha, hj, hd, hs => by
    obtain rfl : X = [] := List.length_eq_zero_iff.1 (by omega)
    rw [insInner, hd]
    simp [isort, insF]
  | j + 1, d, A, X, B, y, ha, hj, hd, hs => by
    rcases List.eq_nil_or_concat X with rfl | ⟨X', x, rfl⟩
    · rw [insInner, if_neg (by simp at hj ⊢; omega), hd]
      simp [isort, insF]
    · have hjl : j = a + X'.length := by simp at hj; omega
      have hd' : d.toList = (A ++ X') ++ x :: y :: B := by rw [hd]; simp
      have e1 : d[j]! = x := get_mid hd' (by simp; omega)
      have e2 : d[j + 1]! = y := get_mid (A := A ++ X' ++ [x]) (B := B) (by rw [hd]; simp) (by simp; omega)
      have hs' := sorted_app.1 (show Sorted lt (X' ++ [x]) by simpa using hs)
      rw [insInner, e1, e2]
      by_cases hl : lt y x = true
      · rw [if_pos (by simp [hl]; omega)]
        have h1 : (swp d (j + 1) j).toList = (A ++ X') ++ y :: x :: B := swp_prev hd' (by simp; omega)
        rw [insInner_list H a j _ A X' (x :: B) y ha hjl h1 hs'.1]
        have h2 : isort lt ((X' ++ [x]) ++ [y]) = isort lt (X' ++ [y]) ++ [x] := by
          have := isort_cut H (x1 := X') (x2 := [x]) (y1 := [y]) (y2 := []) (lt := lt) (by simpa using hs) (by simp [Sorted]) (by simp) (by simpa using hl)
          simpa [isort, insF] using this
        simp only [List.concat_eq_append]
        rw [h2]
        simp
      · rw [if_neg (by simp [hl]), hd]
        have h2 : isort lt ((X' ++ [x]) ++ [y]) = (X' ++ [x]) ++ [y] := isort_self H (sorted_app.2 ⟨by simpa using hs, by simp [Sorted], fun z hz v hv => by
          rw [List.mem_singleton.1 hv]
          have hl' : lt y x = false := by simpa using hl
          rcases List.mem_append.1 hz with h | h
          · exact H.nt _ _ _ hl' (hs'.2.2 z h x (by simp))
          · rw [List.mem_singleton.1 h]; exact hl'⟩)
        simp only [List.concat_eq_append]
        rw [h2]
        simp
theorem insOuter_list (H : Wo lt) (a b : Nat) (A B : List α) (ha : A.length = a) : ∀ (n : Nat) (i : Nat) (d : Array α) (X Y : List α), Y.length = n → i = a + X.length → b = i + Y.length → d.toList = A ++ isort lt X ++ Y ++ B → (insOuter lt a b i d).toList = A ++ isort lt (X ++ Y) ++ B
  | 0, i, d, X, Y, hn, hi, hb, hd => by
    obtain rfl : Y = [] := List.length_eq_zero_iff.1 hn
    rw [insOuter, if_neg (by simp at hb; omega), hd]
    simp
  | n + 1, i, d, X, Y, hn, hi, hb, hd => by
    obtain ⟨y, Y, rfl⟩ : ∃ y Y', Y = y :: Y' := by cases Y with
      | nil => simp at hn
      | cons y Y' => exact ⟨y, Y', rfl⟩
    rw [insOuter, if_pos (by simp at hb; omega)]
    have h1 := insInner_list H a i d A (isort lt X) (Y ++ B) y ha (by rw [isort_len]; exact hi) (by rw [hd]; simp) (isort_sorted H X)
    have h2 : isort lt (isort lt X ++ [y]) = isort lt (X ++ [y]) := (isort_of H ((isort_stab H X).append (Stab.refl [y]))).symm
    rw [h2] at h1
    have h3 := insOuter_list H a b A B ha n (i + 1) _ (X ++ [y]) Y (by simpa using hn) (by simp; omega) (by simp at hb; omega) (by rw [h1]; simp)
    rw [h3]
    simp
theorem insertion_list (H : Wo lt) {d : Array α} {A X B : List α} {a b : Nat} (hd : d.toList = A ++ X ++ B) (ha : a = A.length) (hb : b = A.length + X.length) : (insertionSort lt d a b).toList = A ++ isort lt X ++ B := by
  unfold insertionSort
  cases X with
  | nil =>
    rw [insOuter, if_neg (by simp at hb; omega), hd]
    simp [isort]
  | cons x X =>
    have := insOuter_list H a b A B ha.symm X.length (a + 1) d [x] X rfl (by simp) (by simp at hb; omega) (by rw [hd]; simp [isort, insF])
    rw [this]
    simp
theorem range_step {d : Array α} {A U M V B : List α} {n i a b : Nat} (hd : d.toList = A ++ (V.take i ++ U.drop i) ++ M ++ (U.take i ++ V.drop i) ++ B) (ha : a = A.length) (hU : U.length = n) (hV : V.length = n) (hb : b = a + n + M.length) (hi : i < n) :
    (swp d (a + i) (b + i)).toList = A ++ (V.take (i + 1) ++ U.drop (i + 1)) ++ M ++ (U.take (i + 1) ++ V.drop (i + 1)) ++ B := by
  have hu : i < U.length := by omega
  have hv : i < V.length := by omega
  have e : d.toList = (A ++ V.take i) ++ U[i] :: ((U.drop (i + 1) ++ M ++ U.take i) ++ V[i] :: (V.drop (i + 1) ++ B)) := by
    rw [hd, List.drop_eq_getElem_cons hu, List.drop_eq_getElem_cons hv]; simp only [List.append_assoc, List.cons_append, List.nil_append]
  rw [swp_list e (by rw [List.length_append, List.length_take]; omega) (by simp only [List.length_append, List.length_take, List.length_drop]; omega), show V.take (i + 1) = V.take i ++ [V[i]] from (List.take_append_getElem hv).symm, show U.take (i + 1) = U.take i ++ [U[i]] from (List.take_append_getElem hu).symm]
  simp only [List.append_assoc, List.cons_append, List.nil_append]
theorem sym_first (H : Wo lt) {Y : List α} {x : α} (hY : Sorted lt Y) (t : Nat) (ht : t ≤ Y.length) (h1 : t = 0 ∨ lt Y[t - 1]! x = true) (h2 : t = Y.length ∨ lt Y[t]! x = false) : isort lt ([x] ++ Y) = Y.take t ++ x :: Y.drop t := by
  have hY' : Sorted lt (Y.take t ++ Y.drop t) := by rw [List.take_append_drop]; exact hY
  have hs := sorted_app.1 hY'
  have c := isort_cut' H (x1 := []) (x2 := [x]) (y1 := Y.take t) (y2 := Y.drop t) (lt := lt) (by simp [Sorted]) hY' (by simp) (fun z hz y hy => by
    obtain rfl : x = z := by simpa using hz
    rcases h1 with h | h
    · subst h; simp at hy
    · have hlt : t - 1 < Y.length := by
        rcases Nat.eq_zero_or_pos t with e | e
        · subst e; simp at hy
        · omega
      have e0 : 0 < t := by
        rcases Nat.eq_zero_or_pos t with e | e
        · subst e; simp at hy
        · exact e
      rw [getElem!_pos Y _ hlt] at h
      have : (Y.take t).getLast? = some Y[t - 1] := by
        rw [List.getLast?_eq_getElem?, List.length_take, Nat.min_eq_left ht, List.getElem?_take, if_pos (by omega), List.getElem?_eq_getElem hlt]
      rw [this] at hy
      obtain rfl : Y[t - 1] = y := by simpa using hy
      exact h)
  rw [List.nil_append, List.take_append_drop, List.nil_append, isort_self H hs.1] at c
  rw [c]
  congr 1
  refine isort_self H ?_
  refine List.pairwise_cons.2 ⟨fun z hz => ?_, hs.2.1⟩
  rcases h2 with h | h
  · subst h; simp at hz
  · rcases Nat.lt_or_ge t Y.length with hlt | hge
    · rw [List.drop_eq_getElem_cons hlt] at hz
      rw [getElem!_pos Y _ hlt] at h
      rcases List.mem_cons.1 hz with rfl | hz
      · exact h
      · have := hs.2.1
        rw [List.drop_eq_getElem_cons hlt] at this
        exact H.nt _ _ _ ((List.pairwise_cons.1 this).1 z hz) h
    · rw [List.drop_of_length_le hge] at hz; cases hz
theorem sym_last (H : Wo lt) {X : List α} {y : α} (hX : Sorted lt X) (t : Nat) (ht : t ≤ X.length) (h1 : t = 0 ∨ lt y X[t - 1]! = false) (h2 : t = X.length ∨ lt y X[t]! = true) : isort lt (X ++ [y]) = X.take t ++ y :: X.drop t := by
  have hX' : Sorted lt (X.take t ++ X.drop t) := by rw [List.take_append_drop]; exact hX
  have hs := sorted_app.1 hX'
  have c := isort_cut' H (x1 := X.take t) (x2 := X.drop t) (y1 := [y]) (y2 := []) (lt := lt) hX' (by simp [Sorted]) (by simp) (fun z hz v hv => by
    obtain rfl : y = v := by simpa using hv
    rcases h2 with h | h
    · subst h; simp at hz
    · rcases Nat.lt_or_ge t X.length with hlt | hge
      · rw [getElem!_pos X _ hlt] at h
        rw [List.drop_eq_getElem_cons hlt, List.head?_cons] at hz
        obtain rfl : X[t] = z := Option.some.inj hz
        exact h
      · rw [List.drop_of_length_le hge] at hz; simp at hz)
  rw [List.append_nil, List.append_nil, List.take_append_drop, isort_self H hs.2.1] at c
  rw [c, isort_self H, List.append_assoc]
  · rfl
  · refine sorted_app.2 ⟨hs.1, by simp [Sorted], fun z hz v hv => ?_⟩
    obtain rfl : v = y := by simpa using hv
    rcases h1 with h | h
    · subst h; simp at hz
    · rcases Nat.eq_zero_or_pos t with e | e
      · subst e; simp at hz
      · have hlt : t - 1 < X.length := by omega
        rw [getElem!_pos X _ hlt] at h
        rw [show X.take t = X.take (t - 1) ++ [X[t - 1]] by rw [List.take_append_getElem hlt, show t - 1 + 1 = t by omega]] at hz
        have hs1 := hs.1
        rw [show X.take t = X.take (t - 1) ++ [X[t - 1]] by rw [List.take_append_getElem hlt, show t - 1 + 1 = t by omega]] at hs1
        rcases List.mem_append.1 hz with hz | hz
        · exact H.nt _ _ _ h ((sorted_app.1 hs1).2.2 z hz _ (by simp))
        · obtain rfl : z = X[t - 1] := by simpa using hz
          exact h
theorem sym_cut (H : Wo lt) {X Y : List α} (hX : Sorted lt X) (hY : Sorted lt Y) (s t : Nat) (h1 : s = 0 ∨ Y.length ≤ t ∨ lt Y[t]! X[s - 1]! = false) (h2 : X.length ≤ s ∨ t = 0 ∨ lt Y[t - 1]! X[s]! = true) (hs : s ≤ X.length) (ht : t ≤ Y.length) :
    isort lt (X ++ Y) = isort lt (X.take s ++ Y.take t) ++ isort lt (X.drop s ++ Y.drop t) := by
  have last : ∀ {Z : List α} {q : Nat} {z : α}, q ≤ Z.length → z ∈ (Z.take q).getLast? → 0 < q ∧ Z[q - 1]! = z := by
    intro Z q z hq hz
    rcases Nat.eq_zero_or_pos q with e | e
    · subst e; simp at hz
    · have hlt : q - 1 < Z.length := by omega
      rw [List.getLast?_eq_getElem?, List.length_take, Nat.min_eq_left hq, List.getElem?_take, if_pos (by omega), List.getElem?_eq_getElem hlt] at hz
      exact ⟨e, by rw [getElem!_pos Z _ hlt]; exact Option.some.inj hz⟩
  have head : ∀ {Z : List α} {q : Nat} {z : α}, z ∈ (Z.drop q).head? → q < Z.length ∧ Z[q]! = z := by
    intro Z q z hz
    rcases Nat.lt_or_ge q Z.length with hlt | hge
    · rw [List.drop_eq_getElem_cons hlt, List.head?_cons] at hz
      exact ⟨hlt, by rw [getElem!_pos Z _ hlt]; exact Option.some.inj hz⟩
    · rw [List.drop_of_length_le hge] at hz; simp at hz
  have c := isort_cut' H (x1 := X.take s) (x2 := X.drop s) (y1 := Y.take t) (y2 := Y.drop t) (lt := lt) (by rw [List.take_append_drop]; exact hX) (by rw [List.take_append_drop]; exact hY) (fun x hx y hy => by
    obtain ⟨p, rfl⟩ := last hs hx
    obtain ⟨q, rfl⟩ := head hy
    rcases h1 with h | h | h
    · omega
    · omega
    · exact h) (fun x hx y hy => by
    obtain ⟨p, rfl⟩ := head hx
    obtain ⟨q, rfl⟩ := last ht hy
    rcases h2 with h | h | h
    · omega
    · omega
    · exact h)
  rw [List.take_append_drop, List.take_append_drop] at c
  exact c
theorem get_at {d : Array α} {A X B : List α} (hd : d.toList = A ++ X ++ B) {i : Nat} (t : Nat) (ht : t < X.length) (hi : i = A.length + t) : d[i]! = X[t]! := by
  have : d.toList = (A ++ X.take t) ++ X[t] :: (X.drop (t + 1) ++ B) := by
    rw [hd]
    have : X = X.take t ++ X[t] :: X.drop (t + 1) := by rw [← List.drop_eq_getElem_cons ht, List.take_append_drop]
    conv => lhs; rw [this]
    simp only [List.append_assoc, List.cons_append, List.nil_append]
  rw [get_mid this (by rw [List.length_append, List.length_take]; omega)]
  simp [ht]
omit [Inhabited α] in
theorem isort_none (H : Wo lt) {X Y : List α} (hX : Sorted lt X) (hY : Sorted lt Y) (h : X.length = 0 ∨ Y.length = 0) : isort lt (X ++ Y) = X ++ Y := by
  rcases h with h | h
  · obtain rfl := List.length_eq_zero_iff.1 h
    exact isort_self H hY
  · obtain rfl := List.length_eq_zero_iff.1 h
    rw [List.append_nil]; exact isort_self H hX
end
end Go.Proofs.Ythpecpkncifngaa.So
end

/- The contracts of slices.SortStableFunc's family at elements of k cells: what is asked of the program; swapRangeCmpFunc; rotateCmpFunc. -/
section
namespace Go.Proofs.Ythpecpkncifngaa.So
open Go Go.Proofs Go.Shelf Go.RowKit Go.Lib Go.Sort
structure Lays (P : Program) (k : Nat) : Prop where
  mixed : P.follows .mixedOrders = true
  fswap : P.funcs[47]? = some Try.f47
  frot : P.funcs[42]? = some Try.f42
  fsym : P.funcs[36]? = some Try.f36
  fst : P.funcs[28]? = some Try.f28
  fins : Enters P 35
  t0 : P.underlying 0 = some (TypeDesc.tuple #[])
  a0 : ∀ w, (isAgg 0).run P w = .ok false w
  z0 : ∀ w, (Go.sizeOf 0).run P w = .ok 1 w
  v0 : ∀ w, (zeroValue 0).run P w = .ok (Value.tuple #[]) w
  t3 : P.underlying 3 = some (TypeDesc.int IntKind.i64)
  a3 : ∀ w, (isAgg 3).run P w = .ok false w
  z3 : ∀ w, (Go.sizeOf 3).run P w = .ok 1 w
  v3 : ∀ w, (zeroValue 3).run P w = .ok (Value.int IntKind.i64 0) w
  t104 : P.underlying 60 = some (TypeDesc.int IntKind.u64)
  t4 : P.underlying 4 = some (TypeDesc.bool)
  a4 : ∀ w, (isAgg 4).run P w = .ok false w
  z4 : ∀ w, (Go.sizeOf 4).run P w = .ok 1 w
  v4 : ∀ w, (zeroValue 4).run P w = .ok (Value.bool false) w
  t22 : P.underlying 22 = some (TypeDesc.slice 35)
  a22 : ∀ w, (isAgg 22).run P w = .ok false w
  z22 : ∀ w, (Go.sizeOf 22).run P w = .ok 1 w
  v22 : ∀ w, (zeroValue 22).run P w = .ok (Value.slice none 0 0) w
  aE : ∀ w, (isAgg 35).run P w = .ok true w
  zE : ∀ w, (Go.sizeOf 35).run P w = .ok k w
variable {P : Program} {α : Type} [Inhabited α]
set_option maxHeartbeats 4000000 in
set_option maxRecDepth 1000000 in
theorem swapRange_any {k : Nat} (L : Lays P k) (enc : α → List Value) (g : Nat) (cb : Array Value) (blk off cap a b n : Nat) (d0 d : Array α) (w0 w : World)
    (R : RowK enc k w0 blk off d0) (hs : d0.size = d.size) (S : SWK enc k w0 blk off d w) (hsz : d.size < 4611686018427387904) (A U M V B : List α) (hd : d.toList = A ++ U ++ M ++ V ++ B) (ha : a = A.length) (hU : U.length = n) (hV : V.length = n) (hb : b = a + n + M.length) :
    Calls P 47 #[.slice (some ⟨blk, off, none⟩) d.size cap, .int .i64 a, .int .i64 b, .int .i64 n, .func (.func g) #[] cb] w fun e w' =>
      e = .returned (.tuple #[]) ∧ ∃ dk : Array α, dk.size = d.size ∧ dk.toList = A ++ V ++ M ++ U ++ B ∧ SWK enc k w0 blk off dk w' := by
  have mixed := L.mixed; have t0 := L.t0; have a0 := L.a0; have z0 := L.z0; have v0 := L.v0; have t3 := L.t3; have a3 := L.a3; have z3 := L.z3; have v3 := L.v3; have t4 := L.t4; have a4 := L.a4; have z4 := L.z4; have v4 := L.v4; have t22 := L.t22; have a22 := L.a22; have z22 := L.z22; have v22 := L.v22; have aE := L.aE; have zE := L.zE
  have FG := L.fswap
  have S0 : Aside (SWK enc k w0 blk off d w) := S
  have hdl : A.length + n + M.length + n + B.length ≤ d.size := by rw [← Array.length_toList, hd]; simp; omega
  have HD : Aside (d.toList = A ++ U ++ M ++ V ++ B) := hd
  have QS : Aside (a = A.length ∧ U.length = n ∧ V.length = n ∧ b = a + n + M.length) := ⟨ha, hU, hV, hb⟩
  have hb1 : b + n ≤ d.size := by omega
  have ha1 : a + n ≤ d.size := by omega
  clear S hd ha hU hV hb hdl
  go_enter FG, Try.ntmps47
  go_wp2
  go_loopg [10] n (fun kx s10 wr => ∃ (i : Nat) (dk : Array α), s10 = .int .i64 i ∧ i ≤ n ∧ n - i ≤ kx ∧ dk.size = d.size ∧ Aside (SWK enc k w0 blk off dk wr) ∧ Aside (dk.toList = A ++ (V.take i ++ U.drop i) ++ M ++ (U.take i ++ V.drop i) ++ B))
  case atStart => exact ⟨0, d, rfl, Nat.zero_le _, Nat.le_refl _, rfl, S0, by show _ = _; rw [HD.out]; simp⟩
  case round =>
    clear S0 HD
    obtain ⟨i, dk, rfl, hin, hkx, hds, S1, HE⟩ := hrel
    by_cases hlt : i < n
    · have hltz : (i : Int) < (n : Int) := by omega
      have HE2 : Aside ((swp dk (a + i) (b + i)).toList = A ++ (V.take (i + 1) ++ U.drop (i + 1)) ++ M ++ (U.take (i + 1) ++ V.drop (i + 1)) ++ B) := by
        exact range_step HE.out QS.out.1 QS.out.2.1 QS.out.2.2.1 QS.out.2.2.2 hlt
      clear HE
      go_wp2_with fail
      have ea29 : ((a : Int) + (i : Int)).toNat = a + i := by omega
      have pa29 : (0 : Int) ≤ (a : Int) + (i : Int) := by omega
      have ba29 : (a : Int) + (i : Int) < (d.size : Int) := by omega
      have ra29 : IntKind.i64.wrap ((a : Int) + (i : Int)) = (a : Int) + (i : Int) := by rw [IntKind.wrap_i64]; omega
      have ec29 : ((b : Int) + (i : Int)).toNat = b + i := by omega
      have pc29 : (0 : Int) ≤ (b : Int) + (i : Int) := by omega
      have bc29 : (b : Int) + (i : Int) < (d.size : Int) := by omega
      have rc29 : IntKind.i64.wrap ((b : Int) + (i : Int)) = (b : Int) + (i : Int) := by rw [IntKind.wrap_i64]; omega
      have S2 : Aside (SWK enc k w0 blk off (swp dk (a + i) (b + i)) ((wr.drew.setCells blk (off + (a + i) * k) (enc dk[b + i]!)).setCells blk (off + (b + i) * k) (enc dk[a + i]!))) := S1.out.swapped R (a + i) (b + i) (by omega) (by omega)
      have l29a := S1.out.ld1 R (by omega) P (a + i) (by omega)
      have l29b := S1.out.ld1 R (by omega) P (b + i) (by omega)
      have s29a := S1.out.st1 R (by omega) P (a + i) (by omega) dk[b + i]!
      have s29b := S1.out.st2 R (by omega) P (a + i) (b + i) (by omega) (by omega) dk[b + i]! dk[a + i]!
      have n29a : (enc dk[a + i]!).length = k := R.hk _
      have n29b : (enc dk[b + i]!).length = k := R.hk _
      generalize enc dk[a + i]! = cI29 at S2 l29a s29b n29a
      generalize enc dk[b + i]! = cJ29 at S2 l29b s29a s29b n29b
      clear S1
      go_wp2_with fail
      go_big_region_o
      clear l29a l29b s29a s29b
      generalize (wr.drew.setCells blk (off + (a + i) * k) cJ29).setCells blk (off + (b + i) * k) cI29 = w2 at S2 ⊢
      go_wp2
      go_roundg (n - (i + 1))
      case measure => omega
      case rel => exact ⟨i + 1, swp dk (a + i) (b + i), by simp, by omega, Nat.le_refl _, by rw [size_swp]; exact hds, S2, HE2⟩
    · obtain rfl : i = n := by omega
      go_wp2
      go_end0
      refine ⟨rfl, dk, hds, ?_, S1.out⟩
      obtain ⟨_, hU, hV, _⟩ := QS.out
      rw [HE.out, List.take_of_length_le (by omega), List.drop_of_length_le (by omega), List.take_of_length_le (by omega), List.drop_of_length_le (by omega)]
      simp
set_option maxHeartbeats 4000000 in
set_option maxRecDepth 1000000 in
theorem rotate_any {k : Nat} (L : Lays P k) (enc : α → List Value) (g : Nat) (cb : Array Value) (blk off cap a m b : Nat) (d0 d : Array α) (w0 w : World)
    (R : RowK enc k w0 blk off d0) (hs : d0.size = d.size) (S : SWK enc k w0 blk off d w) (hsz : d.size < 4611686018427387904) (A X Y B : List α) (hd : d.toList = A ++ X ++ Y ++ B) (ha : a = A.length) (hm : m = a + X.length) (hb : b = m + Y.length) (hX : 0 < X.length) (hY : 0 < Y.length) :
    Calls P 42 #[.slice (some ⟨blk, off, none⟩) d.size cap, .int .i64 a, .int .i64 m, .int .i64 b, .func (.func g) #[] cb] w fun e w' =>
      e = .returned (.tuple #[]) ∧ ∃ dk : Array α, dk.size = d.size ∧ dk.toList = A ++ Y ++ X ++ B ∧ SWK enc k w0 blk off dk w' := by
  have mixed := L.mixed; have t0 := L.t0; have a0 := L.a0; have z0 := L.z0; have v0 := L.v0; have t3 := L.t3; have a3 := L.a3; have z3 := L.z3; have v3 := L.v3; have t4 := L.t4; have a4 := L.a4; have z4 := L.z4; have v4 := L.v4; have t22 := L.t22; have a22 := L.a22; have z22 := L.z22; have v22 := L.v22; have aE := L.aE; have zE := L.zE
  have FG := L.frot
  have esw : ∀ args w, (callFunc 47 args).run P w = .ok (.enter 47 args) w := enters_of L.fswap (by decide) rfl
  have S0 : Aside (SWK enc k w0 blk off d w) := S
  have hdl : d.size = A.length + X.length + Y.length + B.length := by rw [← Array.length_toList, hd]; simp; omega
  have HD : Aside (d.toList = A ++ X ++ Y ++ B) := hd
  have QS : Aside (a = A.length ∧ m = a + X.length ∧ b = m + Y.length ∧ d.size = A.length + X.length + Y.length + B.length) := ⟨ha, hm, hb, hdl⟩
  have bam : a ≤ m := by omega
  have bmb : m ≤ b := by omega
  have bbd : b ≤ d.size := by omega
  have ei : (m : Int) - (a : Int) = (X.length : Int) := by omega
  have ej : (b : Int) - (m : Int) = (Y.length : Int) := by omega
  clear S hd ha hm hb hdl
  go_enter FG, Try.ntmps42
  go_wp2
  go_loopg [10, 11] (X.length + Y.length) (fun kx s10 s11 wr => ∃ (i j : Nat) (dk : Array α) (A' U V B' : List α), s10 = .int .i64 i ∧ s11 = .int .i64 j ∧ U.length = i ∧ V.length = j ∧ 0 < i ∧ 0 < j ∧ A'.length + i = m ∧ i + j ≤ kx ∧ dk.size = d.size ∧ m + j + B'.length = d.size ∧ Aside (SWK enc k w0 blk off dk wr) ∧ Aside (dk.toList = A' ++ U ++ V ++ B') ∧ Aside (A' ++ V ++ U ++ B' = A ++ Y ++ X ++ B))
  case atStart =>
    obtain ⟨q1, q2, q3, q4⟩ := QS.out
    exact ⟨X.length, Y.length, d, A, X, Y, B, by go_num, by go_num, rfl, rfl, hX, hY, by omega, Nat.le_refl _, rfl, by omega, S0, HD, by show _ = _; rfl⟩
  case round =>
    clear S0 HD QS ei ej hX hY
    obtain ⟨i, j, dk, A', U, V, B', rfl, rfl, hU, hV, hi, hj, hA', hkx, hds, hml, S1, HE, HT⟩ := hrel
    have emi : ((m - i : Nat) : Int) = (m : Int) - (i : Int) := by omega
    by_cases hij : i = j
    · subst hij
      have hcall := swapRange_any L enc g cb blk off cap (m - i) m i d0 dk w0 wr R (by omega) S1.out (by omega) A' U [] V B' (by rw [HE.out]; simp) (by omega) hU hV (by simp; omega)
      rw [emi, hds] at hcall
      clear S1 HE
      go_wp2_with (go_at_fn 47; refine hcall.mono ?_; rintro e w1 ⟨rfl, dk1, hs1, hl1, S3⟩)
      go_end0
      refine ⟨rfl, dk1, hs1, ?_, S3⟩
      rw [hl1, ← HT.out]; simp
    · by_cases hgt : j < i
      · have hgtz : (j : Int) < (i : Int) := by omega
        have hcall := swapRange_any L enc g cb blk off cap (m - i) m j d0 dk w0 wr R (by omega) S1.out (by omega) A' (U.take j) (U.drop j) V B' (by rw [HE.out]; simp) (by omega) (by rw [List.length_take]; omega) hV (by rw [List.length_drop]; omega)
        rw [emi, hds] at hcall
        clear S1 HE
        go_wp2_with (go_at_fn 47; refine hcall.mono ?_; rintro e w1 ⟨rfl, dk1, hs1, hl1, S3⟩)
        have S4 : Aside (SWK enc k w0 blk off dk1 w1) := S3
        have HL : Aside (dk1.toList = (A' ++ V) ++ U.drop j ++ U.take j ++ B') := by show _ = _; rw [hl1]
        have HT2 : Aside ((A' ++ V) ++ U.take j ++ U.drop j ++ B' = A ++ Y ++ X ++ B) := by show _ = _; rw [← HT.out]; simp
        clear S3 hl1 HT hcall
        go_roundg (i - j + j)
        case measure => omega
        case rel => exact ⟨i - j, j, dk1, A' ++ V, U.drop j, U.take j, B', by go_num, rfl, by rw [List.length_drop]; omega, by rw [List.length_take]; omega, by omega, hj, by rw [List.length_append]; omega, Nat.le_refl _, hs1, hml, S4, HL, HT2⟩
      · have hgtz : ¬ (j : Int) < (i : Int) := by omega
        have emj : ((m + j - i : Nat) : Int) = (m : Int) + (j : Int) - (i : Int) := by omega
        have hcall := swapRange_any L enc g cb blk off cap (m - i) (m + j - i) i d0 dk w0 wr R (by omega) S1.out (by omega) A' U (V.take (j - i)) (V.drop (j - i)) B' (by rw [HE.out]; simp) (by omega) hU (by rw [List.length_drop]; omega) (by rw [List.length_take]; omega)
        rw [emi, emj, hds] at hcall
        clear S1 HE
        go_wp2_with (go_at_fn 47; refine hcall.mono ?_; rintro e w1 ⟨rfl, dk1, hs1, hl1, S3⟩)
        have S4 : Aside (SWK enc k w0 blk off dk1 w1) := S3
        have HL : Aside (dk1.toList = A' ++ V.drop (j - i) ++ V.take (j - i) ++ (U ++ B')) := by show _ = _; rw [hl1]; simp
        have HT2 : Aside (A' ++ V.take (j - i) ++ V.drop (j - i) ++ (U ++ B') = A ++ Y ++ X ++ B) := by show _ = _; rw [← HT.out]; simp
        clear S3 hl1 HT hcall
        go_roundg (i + (j - i))
        case measure => omega
        case rel => exact ⟨i, j - i, dk1, A', V.drop (j - i), V.take (j - i), U ++ B', rfl, by go_num, by rw [List.length_drop]; omega, by rw [List.length_take]; omega, hi, by omega, hA', Nat.le_refl _, hs1, by rw [List.length_append]; omega, S4, HL, HT2⟩
end Go.Proofs.Ythpecpkncifngaa.So
end

/- The contract of slices.symMergeCmpFunc at elements of k cells: two sorted pieces that lie beside each other become one. -/
section
namespace Go.Proofs.Ythpecpkncifngaa.So
open Go Go.Proofs Go.Shelf Go.RowKit Go.Lib Go.Sort
variable {P : Program} {α : Type} [Inhabited α]
set_option maxHeartbeats 8000000 in
set_option maxRecDepth 1000000 in
theorem symFirst_any {k : Nat} (L : Lays P k) (enc : α → List Value) (cf : α → α → Int) (g : Nat) (cb : Array Value) (blk off cap a m b : Nat) (d0 d : Array α) (w0 w : World) (H : Wo (ltOf cf))
    (eg : ∀ args w, (callFunc g args).run P w = .ok (.enter g args) w) (hcmp : CmpLays P g cb enc k cf blk off d0.size w0)
    (R : RowK enc k w0 blk off d0) (hs : d0.size = d.size) (S : SWK enc k w0 blk off d w) (hsz : d.size < 4611686018427387904) (A Y B : List α) (x : α) (hd : d.toList = A ++ x :: (Y ++ B)) (ha : a = A.length) (hm : m = a + 1) (hb : b = m + Y.length) (hY : 0 < Y.length) (hsY : Sorted (ltOf cf) Y) :
    Calls P 36 #[.slice (some ⟨blk, off, none⟩) d.size cap, .int .i64 a, .int .i64 m, .int .i64 b, .func (.func g) #[] cb] w fun e w' =>
      e = .returned (.tuple #[]) ∧ ∃ dk : Array α, dk.size = d.size ∧ dk.toList = A ++ isort (ltOf cf) ([x] ++ Y) ++ B ∧ SWK enc k w0 blk off dk w' := by
  have mixed := L.mixed; have t0 := L.t0; have a0 := L.a0; have z0 := L.z0; have v0 := L.v0; have t3 := L.t3; have a3 := L.a3; have z3 := L.z3; have v3 := L.v3; have t104 := L.t104; have t4 := L.t4; have a4 := L.a4; have z4 := L.z4; have v4 := L.v4; have t22 := L.t22; have a22 := L.a22; have z22 := L.z22; have v22 := L.v22; have aE := L.aE; have zE := L.zE
  have FG := L.fsym
  have HC : Aside _ := hcmp
  have S0 : Aside (SWK enc k w0 blk off d w) := S
  have hdl : d.size = A.length + 1 + Y.length + B.length := by rw [← Array.length_toList, hd]; simp; omega
  have QS : Aside (d.toList = A ++ x :: (Y ++ B) ∧ a = A.length ∧ m = a + 1 ∧ b = m + Y.length ∧ Sorted (ltOf cf) Y) := ⟨hd, ha, hm, hb, hsY⟩
  have bam : a + 1 ≤ m := by omega
  have bam' : m ≤ a + 1 := by omega
  have bmb : m < b := by omega
  have bbd : b ≤ d.size := by omega
  have e1 : (m : Int) - (a : Int) = 1 := by omega
  generalize hZ : A ++ isort (ltOf cf) ([x] ++ Y) ++ B = Z
  have HZ : Hid (A ++ isort (ltOf cf) ([x] ++ Y) ++ B = Z) := hZ
  clear hZ
  clear S hd ha hm hb hdl hcmp hsY hY
  go_enter FG, Try.ntmps36
  go_wp2
  go_loopg [10, 11] (b - m) (fun kx s10 s11 wr => ∃ (i j : Nat), s10 = .int .i64 i ∧ s11 = .int .i64 j ∧ m ≤ i ∧ i ≤ j ∧ j ≤ b ∧ j - i ≤ kx ∧ Aside (SWK enc k w0 blk off d wr) ∧ Aside ((i = m ∨ ltOf cf d[i - 1]! d[a]! = true) ∧ (j = b ∨ ltOf cf d[j]! d[a]! = false)))
  case atStart => exact ⟨m, b, rfl, rfl, Nat.le_refl _, by omega, Nat.le_refl _, Nat.le_refl _, S0, ⟨.inl rfl, .inl rfl⟩⟩
  case round =>
    clear S0
    obtain ⟨i, j, rfl, rfl, hmi, hij, hjb, hkx, S1, HE⟩ := hrel
    by_cases hlt : i < j
    · have hltz : (i : Int) < (j : Int) := by omega
      obtain ⟨h, hh⟩ : ∃ h, h = (i + j) / 2 := ⟨_, rfl⟩
      have hh1 : i ≤ h := by omega
      have hh2 : h < j := by omega
      have hhz : ((i : Int) + (j : Int)) / 2 = (h : Int) := by omega
      clear hh
      cases hT : ltOf cf d[h]! d[a]! with
      | true =>
        obtain ⟨dk, hdk⟩ : ∃ dk, dk = d := ⟨_, rfl⟩
        have hdks : dk.size = d.size := by rw [hdk]
        rw [← hdk] at S1
        have hT' : ltOf cf dk[h]! dk[a]! = true := by rw [hdk]; exact hT
        have HDK : Hid (dk = d) := hdk
        clear hdk
        go_wp2_with fail
        have ea44 : ((h : Int)).toNat = h := by omega
        have pa44 : (0 : Int) ≤ (h : Int) := by omega
        have ba44 : (h : Int) < (d.size : Int) := by omega
        have ra44 : IntKind.i64.wrap ((h : Int)) = (h : Int) := by rw [IntKind.wrap_i64]; omega
        have ec44 : ((a : Int)).toNat = a := by omega
        have pc44 : (0 : Int) ≤ (a : Int) := by omega
        have bc44 : (a : Int) < (d.size : Int) := by omega
        have rc44 : IntKind.i64.wrap ((a : Int)) = (a : Int) := by rw [IntKind.wrap_i64]; omega
        obtain ⟨x44, hx44⟩ : ∃ x, x = dk[h]! := ⟨_, rfl⟩
        obtain ⟨y44, hy44⟩ : ∃ x, x = dk[a]! := ⟨_, rfl⟩
        have l44a := S1.out.ld R (by omega) P (h) (by omega)
        have l44b := S1.out.ld R (by omega) P (a) (by omega)
        rw [← hx44] at l44a
        rw [← hy44] at l44b
        have hc44 := S1.out.cmp HC.out (by omega) x44 y44
        have hv44 : cf x44 y44 < 0 := by rw [hx44, hy44]; exact of_decide_eq_true hT'
        have hd44 : decide (cf x44 y44 < 0) = true := decide_eq_true hv44
        clear hx44 hy44
        go_wp2_with fail
        go_quiet_grown (first | (go_at_fn g; refine Calls.grown_of (hc44 _ _)))
        have S2 : Aside (SWK enc k w0 blk off dk (grow (wr.drewN nq) osq)) := S1.out.grown nq osq
        clear l44a l44b hc44 S1
        generalize grow (wr.drewN nq) osq = w2 at S2 ⊢
        clear nq osq
        clear ea44 pa44 ba44 ra44 ec44 pc44 bc44 rc44
        have S3 : Aside (SWK enc k w0 blk off d w2) := by have := S2.out; rwa [HDK.out] at this
        clear S2 HDK hT'
        go_wp2_with fail
        have HE2 : Aside ((h + 1 = m ∨ ltOf cf d[h + 1 - 1]! d[a]! = true) ∧ (j = b ∨ ltOf cf d[j]! d[a]! = false)) := ⟨.inr hT, HE.out.2⟩
        go_roundg (j - (h + 1))
        case measure => omega
        case rel => exact ⟨h + 1, j, by go_num, rfl, by omega, by omega, hjb, Nat.le_refl _, S3, HE2⟩
      | false =>
        obtain ⟨dk, hdk⟩ : ∃ dk, dk = d := ⟨_, rfl⟩
        have hdks : dk.size = d.size := by rw [hdk]
        rw [← hdk] at S1
        have hT' : ltOf cf dk[h]! dk[a]! = false := by rw [hdk]; exact hT
        have HDK : Hid (dk = d) := hdk
        clear hdk
        go_wp2_with fail
        have ea44 : ((h : Int)).toNat = h := by omega
        have pa44 : (0 : Int) ≤ (h : Int) := by omega
        have ba44 : (h : Int) < (d.size : Int) := by omega
        have ra44 : IntKind.i64.wrap ((h : Int)) = (h : Int) := by rw [IntKind.wrap_i64]; omega
        have ec44 : ((a : Int)).toNat = a := by omega
        have pc44 : (0 : Int) ≤ (a : Int) := by omega
        have bc44 : (a : Int) < (d.size : Int) := by omega
        have rc44 : IntKind.i64.wrap ((a : Int)) = (a : Int) := by rw [IntKind.wrap_i64]; omega
        obtain ⟨x44, hx44⟩ : ∃ x, x = dk[h]! := ⟨_, rfl⟩
        obtain ⟨y44, hy44⟩ : ∃ x, x = dk[a]! := ⟨_, rfl⟩
        have l44a := S1.out.ld R (by omega) P (h) (by omega)
        have l44b := S1.out.ld R (by omega) P (a) (by omega)
        rw [← hx44] at l44a
        rw [← hy44] at l44b
        have hc44 := S1.out.cmp HC.out (by omega) x44 y44
        have hv44 : ¬ cf x44 y44 < 0 := by rw [hx44, hy44]; exact of_decide_eq_false hT'
        have hd44 : decide (cf x44 y44 < 0) = false := decide_eq_false hv44
        clear hx44 hy44
        go_wp2_with fail
        go_quiet_grown (first | (go_at_fn g; refine Calls.grown_of (hc44 _ _)))
        have S2 : Aside (SWK enc k w0 blk off dk (grow (wr.drewN nq) osq)) := S1.out.grown nq osq
        clear l44a l44b hc44 S1
        generalize grow (wr.drewN nq) osq = w2 at S2 ⊢
        clear nq osq
        clear ea44 pa44 ba44 ra44 ec44 pc44 bc44 rc44
        have S3 : Aside (SWK enc k w0 blk off d w2) := by have := S2.out; rwa [HDK.out] at this
        clear S2 HDK hT'
        go_wp2_with fail
        have HE2 : Aside ((i = m ∨ ltOf cf d[i - 1]! d[a]! = true) ∧ (h = b ∨ ltOf cf d[h]! d[a]! = false)) := ⟨HE.out.1, .inr hT⟩
        go_roundg (h - i)
        case measure => omega
        case rel => exact ⟨i, h, rfl, by go_num, by omega, by omega, by omega, Nat.le_refl _, S3, HE2⟩
    · obtain rfl : i = j := by omega
      -- the list that comes out
      have OUT : Aside (A ++ (Y.take (i - m) ++ x :: Y.drop (i - m)) ++ B = Z) := by
        show _ = _
        rw [← HZ.out]
        obtain ⟨q1, q2, q3, q4, q5⟩ := QS.out
        obtain ⟨p1, p2⟩ := HE.out
        have ex : d[a]! = x := get_mid q1 q2
        have ey : ∀ t, t < Y.length → d[m + t]! = Y[t]! := fun t ht => by
          have : d.toList = (A ++ x :: Y.take t) ++ Y[t] :: (Y.drop (t + 1) ++ B) := by
            rw [q1]
            have : Y = Y.take t ++ Y[t] :: Y.drop (t + 1) := by rw [← List.drop_eq_getElem_cons ht, List.take_append_drop]
            conv => lhs; rw [this]
            simp only [List.append_assoc, List.cons_append, List.nil_append]
          rw [get_mid this (by simp; omega)]
          simp [ht]
        rw [sym_first H q5 (i - m) (by omega) (by
          rcases p1 with h | h
          · exact .inl (by omega)
          · by_cases him : i = m
            · exact .inl (by omega)
            · right
              have := ey (i - 1 - m) (by omega)
              rw [show m + (i - 1 - m) = i - 1 by omega] at this
              rw [show i - m - 1 = i - 1 - m by omega, ← this, ← ex]; exact h) (by
          rcases p2 with h | h
          · exact .inl (by omega)
          · by_cases hib : i - m < Y.length
            · right
              have := ey (i - m) hib
              rw [show m + (i - m) = i by omega] at this
              rw [← this, ← ex]; exact h
            · exact .inl (by omega))]
      have ST : Aside (d.toList = A ++ (Y.take (a - a) ++ x :: Y.drop (a - a)) ++ B) := by show _ = _; rw [QS.out.1]; simp
      have i1 : (a : Int) ≤ (i : Int) - 1 := by omega
      have i2 : IntKind.i64.wrap ((i : Int) - 1) = (i : Int) - 1 := by rw [IntKind.wrap_i64]; omega
      have hl3 : Aside (m = a + 1 ∧ b = m + Y.length ∧ a = A.length) := ⟨QS.out.2.2.1, QS.out.2.2.2.1, QS.out.2.1⟩
      clear HE QS
      go_wp2
      go_loopg [13] (i - 1 - a) (fun kx s13 wr2 => ∃ (t : Nat) (dk : Array α), s13 = .int .i64 t ∧ a ≤ t ∧ t ≤ i - 1 ∧ i - 1 - t ≤ kx ∧ dk.size = d.size ∧ Aside (SWK enc k w0 blk off dk wr2) ∧ Aside (dk.toList = A ++ (Y.take (t - a) ++ x :: Y.drop (t - a)) ++ B))
      case atStart => exact ⟨a, d, rfl, Nat.le_refl _, by omega, Nat.le_refl _, rfl, S1, ST⟩
      case round =>
        clear S1 ST
        obtain ⟨t, dk, rfl, hat, hti, hkx2, hds, S1, HL⟩ := hrel
        by_cases hlt2 : t < i - 1
        · have hltz : (t : Int) < (i : Int) - 1 := by omega
          have HL2 : Aside ((swp dk t (t + 1)).toList = A ++ (Y.take (t + 1 - a) ++ x :: Y.drop (t + 1 - a)) ++ B) := by
            obtain ⟨r1, r2, r3⟩ := hl3.out
            have hy : t - a < Y.length := by omega
            show _ = _
            have e : dk.toList = (A ++ Y.take (t - a)) ++ x :: Y[t - a] :: (Y.drop (t - a + 1) ++ B) := by
              rw [HL.out, List.drop_eq_getElem_cons hy]; simp only [List.append_assoc, List.cons_append, List.nil_append]
            rw [swp_next e (by rw [List.length_append, List.length_take]; omega), show t + 1 - a = t - a + 1 by omega, show Y.take (t - a + 1) = Y.take (t - a) ++ [Y[t - a]] from (List.take_append_getElem hy).symm]
            simp only [List.append_assoc, List.cons_append, List.nil_append]
          clear HL
          go_wp2_with fail
          have ea70 : ((t : Int)).toNat = t := by omega
          have pa70 : (0 : Int) ≤ (t : Int) := by omega
          have ba70 : (t : Int) < (d.size : Int) := by omega
          have ra70 : IntKind.i64.wrap ((t : Int)) = (t : Int) := by rw [IntKind.wrap_i64]; omega
          have ec70 : ((t : Int) + 1).toNat = t + 1 := by omega
          have pc70 : (0 : Int) ≤ (t : Int) + 1 := by omega
          have bc70 : (t : Int) + 1 < (d.size : Int) := by omega
          have rc70 : IntKind.i64.wrap ((t : Int) + 1) = (t : Int) + 1 := by rw [IntKind.wrap_i64]; omega
          have S2 : Aside (SWK enc k w0 blk off (swp dk (t) (t + 1)) ((wr.drew.setCells blk (off + (t) * k) (enc dk[t + 1]!)).setCells blk (off + (t + 1) * k) (enc dk[t]!))) := S1.out.swapped R (t) (t + 1) (by omega) (by omega)
          have l70a := S1.out.ld1 R (by omega) P (t) (by omega)
          have l70b := S1.out.ld1 R (by omega) P (t + 1) (by omega)
          have s70a := S1.out.st1 R (by omega) P (t) (by omega) dk[t + 1]!
          have s70b := S1.out.st2 R (by omega) P (t) (t + 1) (by omega) (by omega) dk[t + 1]! dk[t]!
          have n70a : (enc dk[t]!).length = k := R.hk _
          have n70b : (enc dk[t + 1]!).length = k := R.hk _
          generalize enc dk[t]! = cI70 at S2 l70a s70b n70a
          generalize enc dk[t + 1]! = cJ70 at S2 l70b s70a s70b n70b
          clear S1
          go_wp2_with fail
          go_big_region_o
          clear l70a l70b s70a s70b
          generalize (wr.drew.setCells blk (off + (t) * k) cJ70).setCells blk (off + (t + 1) * k) cI70 = w2 at S2 ⊢
          go_wp2
          go_roundg (i - 1 - (t + 1))
          case measure => omega
          case rel => exact ⟨t + 1, swp dk t (t + 1), by go_num, by omega, by omega, Nat.le_refl _, by rw [size_swp]; exact hds, S2, HL2⟩
        · have hltz : ¬ (t : Int) < (i : Int) - 1 := by omega
          go_wp2
          (try simp only [Exit.inBlock, Exit.then])
          refine bodyPost_ret (results_none rfl _ _ _) rfl ?_
          obtain ⟨r1, r2, r3⟩ := hl3.out
          refine ⟨rfl, dk, hds, ?_, S1.out⟩
          rw [HL.out, ← OUT.out, show t - a = i - m by omega]
end Go.Proofs.Ythpecpkncifngaa.So
end

/- The contract of slices.symMergeCmpFunc at elements of k cells: one element behind a sorted piece. -/
section
namespace Go.Proofs.Ythpecpkncifngaa.So
open Go Go.Proofs Go.Shelf Go.RowKit Go.Lib Go.Sort
variable {P : Program} {α : Type} [Inhabited α]
set_option maxHeartbeats 8000000 in
set_option maxRecDepth 1000000 in
theorem symLast_any {k : Nat} (L : Lays P k) (enc : α → List Value) (cf : α → α → Int) (g : Nat) (cb : Array Value) (blk off cap a m b : Nat) (d0 d : Array α) (w0 w : World) (H : Wo (ltOf cf))
    (eg : ∀ args w, (callFunc g args).run P w = .ok (.enter g args) w) (hcmp : CmpLays P g cb enc k cf blk off d0.size w0)
    (R : RowK enc k w0 blk off d0) (hs : d0.size = d.size) (S : SWK enc k w0 blk off d w) (hsz : d.size < 4611686018427387904) (A X B : List α) (y : α) (hd : d.toList = A ++ X ++ y :: B) (ha : a = A.length) (hm : m = a + X.length) (hb : b = m + 1) (hX : 1 < X.length) (hsX : Sorted (ltOf cf) X) :
    Calls P 36 #[.slice (some ⟨blk, off, none⟩) d.size cap, .int .i64 a, .int .i64 m, .int .i64 b, .func (.func g) #[] cb] w fun e w' =>
      e = .returned (.tuple #[]) ∧ ∃ dk : Array α, dk.size = d.size ∧ dk.toList = A ++ isort (ltOf cf) (X ++ [y]) ++ B ∧ SWK enc k w0 blk off dk w' := by
  have mixed := L.mixed; have t0 := L.t0; have a0 := L.a0; have z0 := L.z0; have v0 := L.v0; have t3 := L.t3; have a3 := L.a3; have z3 := L.z3; have v3 := L.v3; have t104 := L.t104; have t4 := L.t4; have a4 := L.a4; have z4 := L.z4; have v4 := L.v4; have t22 := L.t22; have a22 := L.a22; have z22 := L.z22; have v22 := L.v22; have aE := L.aE; have zE := L.zE
  have FG := L.fsym
  have HC : Aside _ := hcmp
  have S0 : Aside (SWK enc k w0 blk off d w) := S
  have hdl : d.size = A.length + X.length + 1 + B.length := by rw [← Array.length_toList, hd]; simp; omega
  have QS : Aside (d.toList = A ++ X ++ y :: B ∧ a = A.length ∧ m = a + X.length ∧ b = m + 1 ∧ Sorted (ltOf cf) X) := ⟨hd, ha, hm, hb, hsX⟩
  have bam : a + 1 < m := by omega
  have bmb : m + 1 ≤ b := by omega
  have bmb' : b ≤ m + 1 := by omega
  have bbd : b ≤ d.size := by omega
  have e0 : ¬ (m : Int) - (a : Int) = 1 := by omega
  have e0b : ((m : Int) - (a : Int) == 1) = false := by simpa using e0
  have e1 : (b : Int) - (m : Int) = 1 := by omega
  generalize hZ : A ++ isort (ltOf cf) (X ++ [y]) ++ B = Z
  have HZ : Hid (A ++ isort (ltOf cf) (X ++ [y]) ++ B = Z) := hZ
  clear hZ
  clear S hd ha hm hb hdl hcmp hsX hX
  go_enter FG, Try.ntmps36
  go_wp2
  go_loopg [14, 15] (m - a) (fun kx s14 s15 wr => ∃ (i j : Nat), s14 = .int .i64 i ∧ s15 = .int .i64 j ∧ a ≤ i ∧ i ≤ j ∧ j ≤ m ∧ j - i ≤ kx ∧ Aside (SWK enc k w0 blk off d wr) ∧ Aside ((i = a ∨ ltOf cf d[m]! d[i - 1]! = false) ∧ (j = m ∨ ltOf cf d[m]! d[j]! = true)))
  case atStart => exact ⟨a, m, rfl, rfl, Nat.le_refl _, by omega, Nat.le_refl _, Nat.le_refl _, S0, ⟨.inl rfl, .inl rfl⟩⟩
  case round =>
    clear S0
    obtain ⟨i, j, rfl, rfl, hmi, hij, hjb, hkx, S1, HE⟩ := hrel
    by_cases hlt : i < j
    · have hltz : (i : Int) < (j : Int) := by omega
      obtain ⟨h, hh⟩ : ∃ h, h = (i + j) / 2 := ⟨_, rfl⟩
      have hh1 : i ≤ h := by omega
      have hh2 : h < j := by omega
      have hhz : ((i : Int) + (j : Int)) / 2 = (h : Int) := by omega
      clear hh
      cases hT : ltOf cf d[m]! d[h]! with
      | false =>
        obtain ⟨dk, hdk⟩ : ∃ dk, dk = d := ⟨_, rfl⟩
        have hdks : dk.size = d.size := by rw [hdk]
        rw [← hdk] at S1
        have hT' : ltOf cf dk[m]! dk[h]! = false := by rw [hdk]; exact hT
        have HDK : Hid (dk = d) := hdk
        clear hdk
        go_wp2_with fail
        have ea96 : ((m : Int)).toNat = m := by omega
        have pa96 : (0 : Int) ≤ (m : Int) := by omega
        have ba96 : (m : Int) < (d.size : Int) := by omega
        have ra96 : IntKind.i64.wrap ((m : Int)) = (m : Int) := by rw [IntKind.wrap_i64]; omega
        have ec96 : ((h : Int)).toNat = h := by omega
        have pc96 : (0 : Int) ≤ (h : Int) := by omega
        have bc96 : (h : Int) < (d.size : Int) := by omega
        have rc96 : IntKind.i64.wrap ((h : Int)) = (h : Int) := by rw [IntKind.wrap_i64]; omega
        obtain ⟨x96, hx96⟩ : ∃ x, x = dk[m]! := ⟨_, rfl⟩
        obtain ⟨y96, hy96⟩ : ∃ x, x = dk[h]! := ⟨_, rfl⟩
        have l96a := S1.out.ld R (by omega) P (m) (by omega)
        have l96b := S1.out.ld R (by omega) P (h) (by omega)
        rw [← hx96] at l96a
        rw [← hy96] at l96b
        have hc96 := S1.out.cmp HC.out (by omega) x96 y96
        have hv96 : ¬ cf x96 y96 < 0 := by rw [hx96, hy96]; exact of_decide_eq_false hT'
        have hd96 : decide (cf x96 y96 < 0) = false := decide_eq_false hv96
        clear hx96 hy96
        go_wp2_with fail
        go_quiet_grown (first | (go_at_fn g; refine Calls.grown_of (hc96 _ _)))
        have S2 : Aside (SWK enc k w0 blk off dk (grow (wr.drewN nq) osq)) := S1.out.grown nq osq
        clear l96a l96b hc96 S1
        generalize grow (wr.drewN nq) osq = w2 at S2 ⊢
        clear nq osq
        clear ea96 pa96 ba96 ra96 ec96 pc96 bc96 rc96
        have S3 : Aside (SWK enc k w0 blk off d w2) := by have := S2.out; rwa [HDK.out] at this
        clear S2 HDK hT'
        go_wp2_with fail
        have HE2 : Aside ((h + 1 = a ∨ ltOf cf d[m]! d[h + 1 - 1]! = false) ∧ (j = m ∨ ltOf cf d[m]! d[j]! = true)) := ⟨.inr hT, HE.out.2⟩
        go_roundg (j - (h + 1))
        case measure => omega
        case rel => exact ⟨h + 1, j, by go_num, rfl, by omega, by omega, hjb, Nat.le_refl _, S3, HE2⟩
      | true =>
        obtain ⟨dk, hdk⟩ : ∃ dk, dk = d := ⟨_, rfl⟩
        have hdks : dk.size = d.size := by rw [hdk]
        rw [← hdk] at S1
        have hT' : ltOf cf dk[m]! dk[h]! = true := by rw [hdk]; exact hT
        have HDK : Hid (dk = d) := hdk
        clear hdk
        go_wp2_with fail
        have ea96 : ((m : Int)).toNat = m := by omega
        have pa96 : (0 : Int) ≤ (m : Int) := by omega
        have ba96 : (m : Int) < (d.size : Int) := by omega
        have ra96 : IntKind.i64.wrap ((m : Int)) = (m : Int) := by rw [IntKind.wrap_i64]; omega
        have ec96 : ((h : Int)).toNat = h := by omega
        have pc96 : (0 : Int) ≤ (h : Int) := by omega
        have bc96 : (h : Int) < (d.size : Int) := by omega
        have rc96 : IntKind.i64.wrap ((h : Int)) = (h : Int) := by rw [IntKind.wrap_i64]; omega
        obtain ⟨x96, hx96⟩ : ∃ x, x = dk[m]! := ⟨_, rfl⟩
        obtain ⟨y96, hy96⟩ : ∃ x, x = dk[h]! := ⟨_, rfl⟩
        have l96a := S1.out.ld R (by omega) P (m) (by omega)
        have l96b := S1.out.ld R (by omega) P (h) (by omega)
        rw [← hx96] at l96a
        rw [← hy96] at l96b
        have hc96 := S1.out.cmp HC.out (by omega) x96 y96
        have hv96 : cf x96 y96 < 0 := by rw [hx96, hy96]; exact of_decide_eq_true hT'
        have hd96 : decide (cf x96 y96 < 0) = true := decide_eq_true hv96
        clear hx96 hy96
        go_wp2_with fail
        go_quiet_grown (first | (go_at_fn g; refine Calls.grown_of (hc96 _ _)))
        have S2 : Aside (SWK enc k w0 blk off dk (grow (wr.drewN nq) osq)) := S1.out.grown nq osq
        clear l96a l96b hc96 S1
        generalize grow (wr.drewN nq) osq = w2 at S2 ⊢
        clear nq osq
        clear ea96 pa96 ba96 ra96 ec96 pc96 bc96 rc96
        have S3 : Aside (SWK enc k w0 blk off d w2) := by have := S2.out; rwa [HDK.out] at this
        clear S2 HDK hT'
        go_wp2_with fail
        have HE2 : Aside ((i = a ∨ ltOf cf d[m]! d[i - 1]! = false) ∧ (h = m ∨ ltOf cf d[m]! d[h]! = true)) := ⟨HE.out.1, .inr hT⟩
        go_roundg (h - i)
        case measure => omega
        case rel => exact ⟨i, h, rfl, by go_num, by omega, by omega, by omega, Nat.le_refl _, S3, HE2⟩
    · obtain rfl : i = j := by omega
      have OUT : Aside (A ++ (X.take (i - a) ++ y :: X.drop (i - a)) ++ B = Z) := by
        show _ = _
        rw [← HZ.out]
        obtain ⟨q1, q2, q3, q4, q5⟩ := QS.out
        obtain ⟨p1, p2⟩ := HE.out
        have ey : d[m]! = y := get_mid (A := A ++ X) q1 (by simp; omega)
        have ex : ∀ t, t < X.length → d[a + t]! = X[t]! := fun t ht => by
          have : d.toList = (A ++ X.take t) ++ X[t] :: (X.drop (t + 1) ++ y :: B) := by
            rw [q1]
            have : X = X.take t ++ X[t] :: X.drop (t + 1) := by rw [← List.drop_eq_getElem_cons ht, List.take_append_drop]
            conv => lhs; rw [this]
            simp only [List.append_assoc, List.cons_append, List.nil_append]
          rw [get_mid this (by simp; omega)]
          simp [ht]
        rw [sym_last H q5 (i - a) (by omega) (by
          rcases p1 with h | h
          · exact .inl (by omega)
          · by_cases him : i = a
            · exact .inl (by omega)
            · right
              have := ex (i - 1 - a) (by omega)
              rw [show a + (i - 1 - a) = i - 1 by omega] at this
              rw [show i - a - 1 = i - 1 - a by omega, ← this, ← ey]; exact h) (by
          rcases p2 with h | h
          · exact .inl (by omega)
          · by_cases hib : i - a < X.length
            · right
              have := ex (i - a) hib
              rw [show a + (i - a) = i by omega] at this
              rw [← this, ← ey]; exact h
            · exact .inl (by omega))]
      have ST : Aside (d.toList = A ++ (X.take (m - a) ++ y :: X.drop (m - a)) ++ B) := by
        show _ = _
        obtain ⟨q1, q2, q3, q4, q5⟩ := QS.out
        rw [q1, List.take_of_length_le (by omega), List.drop_of_length_le (by omega)]; simp
      have hl3 : Aside (m = a + X.length ∧ a = A.length) := ⟨QS.out.2.2.1, QS.out.2.1⟩
      clear HE QS
      go_wp2
      go_loopg [17] (m - i) (fun kx s17 wr2 => ∃ (t : Nat) (dk : Array α), s17 = .int .i64 t ∧ i ≤ t ∧ t ≤ m ∧ t - i ≤ kx ∧ dk.size = d.size ∧ Aside (SWK enc k w0 blk off dk wr2) ∧ Aside (dk.toList = A ++ (X.take (t - a) ++ y :: X.drop (t - a)) ++ B))
      case atStart => exact ⟨m, d, rfl, hjb, Nat.le_refl _, Nat.le_refl _, rfl, S1, ST⟩
      case round =>
        clear S1 ST
        obtain ⟨t, dk, rfl, hat, hti, hkx2, hds, S1, HL⟩ := hrel
        by_cases hlt2 : i < t
        · obtain ⟨s, rfl⟩ : ∃ s, t = s + 1 := ⟨t - 1, by omega⟩
          have hltz : (i : Int) < (s : Int) + 1 := by omega
          have HL2 : Aside ((swp dk (s + 1) s).toList = A ++ (X.take (s - a) ++ y :: X.drop (s - a)) ++ B) := by
            obtain ⟨r1, r3⟩ := hl3.out
            have hy : s - a < X.length := by omega
            show _ = _
            have e : dk.toList = (A ++ X.take (s - a)) ++ X[s - a] :: y :: (X.drop (s - a + 1) ++ B) := by
              rw [HL.out, show s + 1 - a = s - a + 1 by omega, show X.take (s - a + 1) = X.take (s - a) ++ [X[s - a]] from (List.take_append_getElem hy).symm]
              simp only [List.append_assoc, List.cons_append, List.nil_append]
            rw [swp_prev e (by rw [List.length_append, List.length_take]; omega), List.drop_eq_getElem_cons hy]
            simp only [List.append_assoc, List.cons_append, List.nil_append]
          clear HL
          go_wp2_with fail
          have ea122 : ((s : Int) + 1).toNat = s + 1 := by omega
          have pa122 : (0 : Int) ≤ (s : Int) + 1 := by omega
          have ba122 : (s : Int) + 1 < (d.size : Int) := by omega
          have ra122 : IntKind.i64.wrap ((s : Int) + 1) = (s : Int) + 1 := by rw [IntKind.wrap_i64]; omega
          have ec122 : ((s : Int)).toNat = s := by omega
          have pc122 : (0 : Int) ≤ (s : Int) := by omega
          have bc122 : (s : Int) < (d.size : Int) := by omega
          have rc122 : IntKind.i64.wrap ((s : Int)) = (s : Int) := by rw [IntKind.wrap_i64]; omega
          have S2 : Aside (SWK enc k w0 blk off (swp dk (s + 1) (s)) ((wr.drew.setCells blk (off + (s + 1) * k) (enc dk[s]!)).setCells blk (off + (s) * k) (enc dk[s + 1]!))) := S1.out.swapped R (s + 1) (s) (by omega) (by omega)
          have l122a := S1.out.ld1 R (by omega) P (s + 1) (by omega)
          have l122b := S1.out.ld1 R (by omega) P (s) (by omega)
          have s122a := S1.out.st1 R (by omega) P (s + 1) (by omega) dk[s]!
          have s122b := S1.out.st2 R (by omega) P (s + 1) (s) (by omega) (by omega) dk[s]! dk[s + 1]!
          have n122a : (enc dk[s + 1]!).length = k := R.hk _
          have n122b : (enc dk[s]!).length = k := R.hk _
          generalize enc dk[s + 1]! = cI122 at S2 l122a s122b n122a
          generalize enc dk[s]! = cJ122 at S2 l122b s122a s122b n122b
          clear S1
          go_wp2_with fail
          go_big_region_o
          clear l122a l122b s122a s122b
          generalize (wr.drew.setCells blk (off + (s + 1) * k) cJ122).setCells blk (off + (s) * k) cI122 = w2 at S2 ⊢
          go_wp2
          go_roundg (s - i)
          case measure => omega
          case rel => exact ⟨s, swp dk (s + 1) s, by go_num, by omega, by omega, Nat.le_refl _, by rw [size_swp]; exact hds, S2, HL2⟩
        · obtain rfl : t = i := by omega
          go_wp2
          (try simp only [Exit.inBlock, Exit.then])
          refine bodyPost_ret (results_none rfl _ _ _) rfl ?_
          refine ⟨rfl, dk, hds, ?_, S1.out⟩
          rw [HL.out, ← OUT.out]
end Go.Proofs.Ythpecpkncifngaa.So
end

/- The contract of slices.symMergeCmpFunc at elements of k cells: two sorted pieces that lie beside each other become one. -/
section
namespace Go.Proofs.Ythpecpkncifngaa.So
open Go Go.Proofs Go.Shelf Go.RowKit Go.Lib Go.Sort
variable {P : Program} {α : Type} [Inhabited α]
def MergesTo (P : Program) (enc : α → List Value) (k : Nat) (cf : α → α → Int) (g : Nat) (cb : Array Value) (blk off cap : Nat) (w0 : World) (size : Nat) (a m b : Nat) (d : Array α) (w : World) (A X Y B : List α) : Prop :=
  Calls P 36 #[.slice (some ⟨blk, off, none⟩) size cap, .int .i64 a, .int .i64 m, .int .i64 b, .func (.func g) #[] cb] w fun e w' =>
      e = .returned (.tuple #[]) ∧ ∃ dk : Array α, dk.size = size ∧ dk.toList = A ++ isort (ltOf cf) (X ++ Y) ++ B ∧ SWK enc k w0 blk off dk w'
set_option maxHeartbeats 16000000 in
set_option maxRecDepth 1000000 in
theorem symRound_any {k : Nat} (L : Lays P k) (enc : α → List Value) (cf : α → α → Int) (g : Nat) (cb : Array Value) (blk off cap a m b : Nat) (d0 d : Array α) (w0 w : World) (H : Wo (ltOf cf))
    (eg : ∀ args w, (callFunc g args).run P w = .ok (.enter g args) w) (hcmp : CmpLays P g cb enc k cf blk off d0.size w0)
    (R : RowK enc k w0 blk off d0) (hs : d0.size = d.size) (S : SWK enc k w0 blk off d w) (hsz : d.size < 4611686018427387904) (A X Y B : List α) (hd : d.toList = A ++ X ++ Y ++ B) (ha : a = A.length) (hm : m = a + X.length) (hb : b = m + Y.length) (hX : 1 < X.length) (hY : 1 < Y.length) (hsX : Sorted (ltOf cf) X) (hsY : Sorted (ltOf cf) Y)
    (ih : ∀ (a' m' b' : Nat) (d' : Array α) (w' : World) (A' X' Y' B' : List α), X'.length + Y'.length < X.length + Y.length → d'.size = d.size → SWK enc k w0 blk off d' w' → d'.toList = A' ++ X' ++ Y' ++ B' → a' = A'.length → m' = a' + X'.length → b' = m' + Y'.length → 0 < X'.length → 0 < Y'.length → Sorted (ltOf cf) X' → Sorted (ltOf cf) Y' → MergesTo P enc k cf g cb blk off cap w0 d.size a' m' b' d' w' A' X' Y' B') :
    MergesTo P enc k cf g cb blk off cap w0 d.size a m b d w A X Y B := by
  unfold MergesTo
  have mixed := L.mixed; have t0 := L.t0; have a0 := L.a0; have z0 := L.z0; have v0 := L.v0; have t3 := L.t3; have a3 := L.a3; have z3 := L.z3; have v3 := L.v3; have t104 := L.t104; have t4 := L.t4; have a4 := L.a4; have z4 := L.z4; have v4 := L.v4; have t22 := L.t22; have a22 := L.a22; have z22 := L.z22; have v22 := L.v22; have aE := L.aE; have zE := L.zE
  have FG := L.fsym
  have erot : ∀ args w, (callFunc 42 args).run P w = .ok (.enter 42 args) w := enters_of L.frot (by decide) rfl
  have esym : ∀ args w, (callFunc 36 args).run P w = .ok (.enter 36 args) w := enters_of L.fsym (by decide) rfl
  have HC : Aside _ := hcmp
  have IH : Aside _ := ih
  have S0 : Aside (SWK enc k w0 blk off d w) := S
  have hdl : d.size = A.length + X.length + Y.length + B.length := by rw [← Array.length_toList, hd]; simp; omega
  have QS : Aside (d.toList = A ++ X ++ Y ++ B ∧ a = A.length ∧ m = a + X.length ∧ b = m + Y.length ∧ Sorted (ltOf cf) X ∧ Sorted (ltOf cf) Y) := ⟨hd, ha, hm, hb, hsX, hsY⟩
  have bam : a + 1 < m := by omega
  have bmb : m + 1 < b := by omega
  have bbd : b ≤ d.size := by omega
  have e0 : ¬ (m : Int) - (a : Int) = 1 := by omega
  have e0b : ((m : Int) - (a : Int) == 1) = false := by simpa using e0
  have e1 : ¬ (b : Int) - (m : Int) = 1 := by omega
  have e1b : ((b : Int) - (m : Int) == 1) = false := by simpa using e1
  obtain ⟨mid, hmid⟩ : ∃ q, q = (a + b) / 2 := ⟨_, rfl⟩
  have bm1 : 2 * mid ≤ a + b := by omega
  have bm2 : a + b ≤ 2 * mid + 1 := by omega
  have emid : ((a : Int) + (b : Int)) / 2 = (mid : Int) := by omega
  generalize hZ : A ++ isort (ltOf cf) (X ++ Y) ++ B = Z
  have HZ : Hid (A ++ isort (ltOf cf) (X ++ Y) ++ B = Z) := hZ
  clear hZ hmid
  clear S hd ha hm hb hdl hcmp hsX hsY hX hY ih
  go_enter FG, Try.ntmps36
  go_upto_if 140 with (fail)
  go_cut [20, 21] (fun sv rv wc => ∃ s0 r0 : Nat, sv = .int .i64 s0 ∧ rv = .int .i64 r0 ∧ a ≤ s0 ∧ s0 ≤ r0 ∧ r0 ≤ m ∧ r0 ≤ mid ∧ mid + m ≤ b + s0 ∧ Aside (s0 = a ∨ mid + m = b + s0) ∧ Aside (r0 = m ∨ r0 = mid) ∧ wc = w)
  case first =>
    by_cases hgt : mid < m
    · have hgtz : (mid : Int) < (m : Int) := by omega
      go_wp2_with fail
      go_meet
      exact ⟨mid + m - b, mid, by go_num, rfl, by omega, by omega, by omega, Nat.le_refl _, by omega, Or.inr (by omega), Or.inr rfl, rfl⟩
    · have hgtz : ¬ (mid : Int) < (m : Int) := by omega
      go_wp2_with fail
      go_meet
      exact ⟨a, m, rfl, rfl, Nat.le_refl _, by omega, Nat.le_refl _, by omega, by omega, Or.inl rfl, Or.inl rfl, rfl⟩
  case rest =>
    obtain ⟨s0, r0, rfl, rfl, hc1, hc2, hc3, hc4, hc5, HS0, HR0, rfl⟩ := hcut
    go_wp2_with fail
    go_loopg [20, 21] (r0 - s0) (fun kx s20 s21 wr => ∃ (st r : Nat), s20 = .int .i64 st ∧ s21 = .int .i64 r ∧ s0 ≤ st ∧ st ≤ r ∧ r ≤ r0 ∧ r - st ≤ kx ∧ Aside (SWK enc k w0 blk off d wr) ∧ Aside ((st = s0 ∨ ltOf cf d[mid + m - st]! d[st - 1]! = false) ∧ (r = r0 ∨ ltOf cf d[mid + m - 1 - r]! d[r]! = true)))
    case atStart => exact ⟨s0, r0, rfl, rfl, Nat.le_refl _, hc2, Nat.le_refl _, Nat.le_refl _, S0, ⟨.inl rfl, .inl rfl⟩⟩
    case round =>
      clear S0
      obtain ⟨st, r, rfl, rfl, hsi, hij, hjr, hkx, S1, HE⟩ := hrel
      by_cases hlt : st < r
      · have hltz : (st : Int) < (r : Int) := by omega
        obtain ⟨c, hh⟩ : ∃ h, h = (st + r) / 2 := ⟨_, rfl⟩
        have hh1 : st ≤ c := by omega
        have hh2 : c < r := by omega
        have hhz : ((st : Int) + (r : Int)) / 2 = (c : Int) := by omega
        obtain ⟨q, hq⟩ : ∃ q, q = mid + m - 1 - c := ⟨_, rfl⟩
        have hq1 : q < d.size := by omega
        have hqz : (mid : Int) + (m : Int) - 1 - (c : Int) = (q : Int) := by omega
        have HQ : Hid (mid + m - 1 - c = q) := hq.symm
        clear hh hq
        cases hT : ltOf cf d[q]! d[c]! with
        | false =>
          obtain ⟨dk, hdk⟩ : ∃ dk, dk = d := ⟨_, rfl⟩
          have hdks : dk.size = d.size := by rw [hdk]
          rw [← hdk] at S1
          have hT' : ltOf cf dk[q]! dk[c]! = false := by rw [hdk]; exact hT
          have HDK : Hid (dk = d) := hdk
          clear hdk
          go_wp2_with fail
          have ea164 : ((q : Int)).toNat = q := by omega
          have pa164 : (0 : Int) ≤ (q : Int) := by omega
          have ba164 : (q : Int) < (d.size : Int) := by omega
          have ra164 : IntKind.i64.wrap ((q : Int)) = (q : Int) := by rw [IntKind.wrap_i64]; omega
          have ec164 : ((c : Int)).toNat = c := by omega
          have pc164 : (0 : Int) ≤ (c : Int) := by omega
          have bc164 : (c : Int) < (d.size : Int) := by omega
          have rc164 : IntKind.i64.wrap ((c : Int)) = (c : Int) := by rw [IntKind.wrap_i64]; omega
          obtain ⟨x164, hx164⟩ : ∃ x, x = dk[q]! := ⟨_, rfl⟩
          obtain ⟨y164, hy164⟩ : ∃ x, x = dk[c]! := ⟨_, rfl⟩
          have l164a := S1.out.ld R (by omega) P (q) (by omega)
          have l164b := S1.out.ld R (by omega) P (c) (by omega)
          rw [← hx164] at l164a
          rw [← hy164] at l164b
          have hc164 := S1.out.cmp HC.out (by omega) x164 y164
          have hv164 : ¬ cf x164 y164 < 0 := by rw [hx164, hy164]; exact of_decide_eq_false hT'
          have hd164 : decide (cf x164 y164 < 0) = false := decide_eq_false hv164
          clear hx164 hy164
          go_wp2_with fail
          go_quiet_grown (first | (go_at_fn g; refine Calls.grown_of (hc164 _ _)))
          have S2 : Aside (SWK enc k w0 blk off dk (grow (wr.drewN nq) osq)) := S1.out.grown nq osq
          clear l164a l164b hc164 S1
          generalize grow (wr.drewN nq) osq = w2 at S2 ⊢
          clear nq osq
          clear ea164 pa164 ba164 ra164 ec164 pc164 bc164 rc164
          have S3 : Aside (SWK enc k w0 blk off d w2) := by have := S2.out; rwa [HDK.out] at this
          clear S2 HDK hT'
          go_wp2_with fail
          have HE2 : Aside ((c + 1 = s0 ∨ ltOf cf d[mid + m - (c + 1)]! d[c + 1 - 1]! = false) ∧ (r = r0 ∨ ltOf cf d[mid + m - 1 - r]! d[r]! = true)) := ⟨.inr (by rw [show mid + m - (c + 1) = mid + m - 1 - c by omega, HQ.out]; exact hT), HE.out.2⟩
          go_roundg (r - (c + 1))
          case measure => omega
          case rel => exact ⟨c + 1, r, by go_num, rfl, by omega, by omega, hjr, Nat.le_refl _, S3, HE2⟩
        | true =>
          obtain ⟨dk, hdk⟩ : ∃ dk, dk = d := ⟨_, rfl⟩
          have hdks : dk.size = d.size := by rw [hdk]
          rw [← hdk] at S1
          have hT' : ltOf cf dk[q]! dk[c]! = true := by rw [hdk]; exact hT
          have HDK : Hid (dk = d) := hdk
          clear hdk
          go_wp2_with fail
          have ea164 : ((q : Int)).toNat = q := by omega
          have pa164 : (0 : Int) ≤ (q : Int) := by omega
          have ba164 : (q : Int) < (d.size : Int) := by omega
          have ra164 : IntKind.i64.wrap ((q : Int)) = (q : Int) := by rw [IntKind.wrap_i64]; omega
          have ec164 : ((c : Int)).toNat = c := by omega
          have pc164 : (0 : Int) ≤ (c : Int) := by omega
          have bc164 : (c : Int) < (d.size : Int) := by omega
          have rc164 : IntKind.i64.wrap ((c : Int)) = (c : Int) := by rw [IntKind.wrap_i64]; omega
          obtain ⟨x164, hx164⟩ : ∃ x, x = dk[q]! := ⟨_, rfl⟩
          obtain ⟨y164, hy164⟩ : ∃ x, x = dk[c]! := ⟨_, rfl⟩
          have l164a := S1.out.ld R (by omega) P (q) (by omega)
          have l164b := S1.out.ld R (by omega) P (c) (by omega)
          rw [← hx164] at l164a
          rw [← hy164] at l164b
          have hc164 := S1.out.cmp HC.out (by omega) x164 y164
          have hv164 : cf x164 y164 < 0 := by rw [hx164, hy164]; exact of_decide_eq_true hT'
          have hd164 : decide (cf x164 y164 < 0) = true := decide_eq_true hv164
          clear hx164 hy164
          go_wp2_with fail
          go_quiet_grown (first | (go_at_fn g; refine Calls.grown_of (hc164 _ _)))
          have S2 : Aside (SWK enc k w0 blk off dk (grow (wr.drewN nq) osq)) := S1.out.grown nq osq
          clear l164a l164b hc164 S1
          generalize grow (wr.drewN nq) osq = w2 at S2 ⊢
          clear nq osq
          clear ea164 pa164 ba164 ra164 ec164 pc164 bc164 rc164
          have S3 : Aside (SWK enc k w0 blk off d w2) := by have := S2.out; rwa [HDK.out] at this
          clear S2 HDK hT'
          go_wp2_with fail
          have HE2 : Aside ((st = s0 ∨ ltOf cf d[mid + m - st]! d[st - 1]! = false) ∧ (c = r0 ∨ ltOf cf d[mid + m - 1 - c]! d[c]! = true)) := ⟨HE.out.1, .inr (by rw [HQ.out]; exact hT)⟩
          go_roundg (c - st)
          case measure => omega
          case rel => exact ⟨st, c, rfl, by go_num, by omega, by omega, by omega, Nat.le_refl _, S3, HE2⟩
      · obtain rfl : st = r := by omega
        obtain ⟨en, hen⟩ : ∃ q, q = mid + m - st := ⟨_, rfl⟩
        have hen1 : en + st ≤ mid + m := by omega
        have hen2 : mid + m ≤ en + st := by omega
        have een : (mid : Int) + (m : Int) - (st : Int) = (en : Int) := by omega
        obtain ⟨X1, X2, Y1, Y2, lX1, lX2, lY1, lY2, PS⟩ : ∃ X1 X2 Y1 Y2 : List α, X1.length = st - a ∧ X2.length = m - st ∧ Y1.length = en - m ∧ Y2.length = b - en ∧ Aside (d.toList = (A ++ X1) ++ X2 ++ Y1 ++ (Y2 ++ B) ∧ Sorted (ltOf cf) X1 ∧ Sorted (ltOf cf) X2 ∧ Sorted (ltOf cf) Y1 ∧ Sorted (ltOf cf) Y2 ∧ A.length = a ∧ X.length + Y.length = b - a ∧ Z = A ++ isort (ltOf cf) (X1 ++ Y1) ++ isort (ltOf cf) (X2 ++ Y2) ++ B) := by
          obtain ⟨q1, q2, q3, q4, q5, q6⟩ := QS.out
          obtain ⟨p1, p2⟩ := HE.out
          have p3 := HS0.out
          have p4 := HR0.out
          have ex : ∀ t, t < X.length → d[a + t]! = X[t]! := fun t ht => get_at (A := A) (X := X) (B := Y ++ B) (by rw [q1]; simp) t ht (by omega)
          have ey : ∀ t, t < Y.length → d[m + t]! = Y[t]! := fun t ht => get_at (A := A ++ X) (X := Y) (B := B) q1 t ht (by rw [List.length_append]; omega)
          have hcut := sym_cut H q5 q6 (st - a) (en - m) (by
            rcases p1 with h | h
            · rcases p3 with h' | h'
              · exact .inl (by omega)
              · exact .inr (.inl (by omega))
            · by_cases z1 : st = a
              · exact .inl (by omega)
              · by_cases z2 : b ≤ en
                · exact .inr (.inl (by omega))
                · right; right
                  have y1 := ey (en - m) (by omega)
                  have x1 := ex (st - a - 1) (by omega)
                  rw [show m + (en - m) = mid + m - st by omega] at y1
                  rw [show a + (st - a - 1) = st - 1 by omega] at x1
                  rw [← y1, ← x1]; exact h) (by
            rcases p2 with h | h
            · rcases p4 with h' | h'
              · exact .inl (by omega)
              · exact .inr (.inl (by omega))
            · by_cases z1 : m ≤ st
              · exact .inl (by omega)
              · by_cases z2 : en = m
                · exact .inr (.inl (by omega))
                · right; right
                  have y1 := ey (en - m - 1) (by omega)
                  have x1 := ex (st - a) (by omega)
                  rw [show m + (en - m - 1) = mid + m - 1 - st by omega] at y1
                  rw [show a + (st - a) = st by omega] at x1
                  rw [← y1, ← x1]; exact h) (by omega) (by omega)
          have sx := sorted_app.1 (show Sorted (ltOf cf) (X.take (st - a) ++ X.drop (st - a)) by rw [List.take_append_drop]; exact q5)
          have sy := sorted_app.1 (show Sorted (ltOf cf) (Y.take (en - m) ++ Y.drop (en - m)) by rw [List.take_append_drop]; exact q6)
          refine ⟨X.take (st - a), X.drop (st - a), Y.take (en - m), Y.drop (en - m), by rw [List.length_take]; omega, by rw [List.length_drop]; omega, by rw [List.length_take]; omega, by rw [List.length_drop]; omega, ⟨?_, sx.1, sx.2.1, sy.1, sy.2.1, q2.symm, by omega, ?_⟩⟩
          · rw [q1]
            have e1 : X = X.take (st - a) ++ X.drop (st - a) := (List.take_append_drop _ _).symm
            have e2 : Y = Y.take (en - m) ++ Y.drop (en - m) := (List.take_append_drop _ _).symm
            conv => lhs; rw [e1, e2]
            simp only [List.append_assoc]
          · rw [← HZ.out, hcut]; simp only [List.append_assoc]
        clear HE HS0 HR0 QS HZ hen
        by_cases h1 : st < m
        · by_cases h2 : m < en
          · by_cases h3 : a < st
            · by_cases h5 : en < b
              · skip
                have g1 : (st : Int) < (m : Int) := by omega
                have g2 : (m : Int) < (en : Int) := by omega
                have g3 : (a : Int) < (st : Int) := by omega
                have g4 : (st : Int) < (mid : Int) := by omega
                have g5 : (mid : Int) < (en : Int) := by omega
                have g6 : (en : Int) < (b : Int) := by omega
                have hcall := rotate_any L enc g cb blk off cap st m en d0 d w0 wr R hs S1.out hsz (A ++ X1) X2 Y1 (Y2 ++ B) PS.out.1 (by rw [List.length_append, PS.out.2.2.2.2.2.1]; omega) (by omega) (by omega) (by omega) (by omega)
                go_wp2_with fail
                refine hcall.mono ?_
                rintro e w5 ⟨rfl, d1, hs1, hl1, S5⟩
                have HL1 : Aside (d1.toList = A ++ X1 ++ Y1 ++ (X2 ++ Y2 ++ B)) := by show _ = _; rw [hl1]; simp only [List.append_assoc]
                have S3 : Aside (SWK enc k w0 blk off d1 w5) := S5
                clear hcall hl1 S5 S1
                have hcall := IH.out a st mid d1 w5 A X1 Y1 (X2 ++ Y2 ++ B) (by rw [PS.out.2.2.2.2.2.2.1]; omega) hs1 S3.out HL1.out PS.out.2.2.2.2.2.1.symm (by omega) (by omega) (by omega) (by omega) PS.out.2.1 PS.out.2.2.2.1
                unfold MergesTo at hcall
                go_wp2_with fail
                refine hcall.mono ?_
                rintro e w6 ⟨rfl, d2, hs2, hl2, S6⟩
                have HL2 : Aside (d2.toList = A ++ isort (ltOf cf) (X1 ++ Y1) ++ (X2 ++ Y2 ++ B)) := hl2
                have S4 : Aside (SWK enc k w0 blk off d2 w6) := S6
                clear hcall hl2 S6 S3
                have hcall := IH.out mid en b d2 w6 (A ++ isort (ltOf cf) (X1 ++ Y1)) X2 Y2 B (by rw [PS.out.2.2.2.2.2.2.1]; omega) hs2 S4.out (by rw [HL2.out]; simp only [List.append_assoc]) (by rw [List.length_append, isort_len, List.length_append, PS.out.2.2.2.2.2.1]; omega) (by omega) (by omega) (by omega) (by omega) PS.out.2.2.1 PS.out.2.2.2.2.1
                unfold MergesTo at hcall
                go_wp2_with fail
                refine hcall.mono ?_
                rintro e w7 ⟨rfl, d3, hs3, hl3, S7⟩
                have S8 : Aside (SWK enc k w0 blk off d3 w7) := S7
                clear hcall S7 S4
                go_wp2_with fail
                go_end0
                exact ⟨rfl, d3, hs3, by rw [hl3, PS.out.2.2.2.2.2.2.2], S8.out⟩
              · skip
                have g1 : (st : Int) < (m : Int) := by omega
                have g2 : (m : Int) < (en : Int) := by omega
                have g3 : (a : Int) < (st : Int) := by omega
                have g4 : (st : Int) < (mid : Int) := by omega
                have g5 : (mid : Int) < (en : Int) := by omega
                have g6 : ¬ (en : Int) < (b : Int) := by omega
                have hcall := rotate_any L enc g cb blk off cap st m en d0 d w0 wr R hs S1.out hsz (A ++ X1) X2 Y1 (Y2 ++ B) PS.out.1 (by rw [List.length_append, PS.out.2.2.2.2.2.1]; omega) (by omega) (by omega) (by omega) (by omega)
                go_wp2_with fail
                refine hcall.mono ?_
                rintro e w5 ⟨rfl, d1, hs1, hl1, S5⟩
                have HL1 : Aside (d1.toList = A ++ X1 ++ Y1 ++ (X2 ++ Y2 ++ B)) := by show _ = _; rw [hl1]; simp only [List.append_assoc]
                have S3 : Aside (SWK enc k w0 blk off d1 w5) := S5
                clear hcall hl1 S5 S1
                have hcall := IH.out a st mid d1 w5 A X1 Y1 (X2 ++ Y2 ++ B) (by rw [PS.out.2.2.2.2.2.2.1]; omega) hs1 S3.out HL1.out PS.out.2.2.2.2.2.1.symm (by omega) (by omega) (by omega) (by omega) PS.out.2.1 PS.out.2.2.2.1
                unfold MergesTo at hcall
                go_wp2_with fail
                refine hcall.mono ?_
                rintro e w6 ⟨rfl, d2, hs2, hl2, S6⟩
                have HL2 : Aside (d2.toList = A ++ isort (ltOf cf) (X1 ++ Y1) ++ (X2 ++ Y2 ++ B)) := hl2
                have S4 : Aside (SWK enc k w0 blk off d2 w6) := S6
                clear hcall hl2 S6 S3
                go_wp2_with fail
                go_end0
                exact ⟨rfl, d2, hs2, by rw [HL2.out, PS.out.2.2.2.2.2.2.2, isort_none H PS.out.2.2.1 PS.out.2.2.2.2.1 (by omega)]; simp only [List.append_assoc], S4.out⟩
            · by_cases h5 : en < b
              · skip
                have g1 : (st : Int) < (m : Int) := by omega
                have g2 : (m : Int) < (en : Int) := by omega
                have g3 : ¬ (a : Int) < (st : Int) := by omega
                have g5 : (mid : Int) < (en : Int) := by omega
                have g6 : (en : Int) < (b : Int) := by omega
                have hcall := rotate_any L enc g cb blk off cap st m en d0 d w0 wr R hs S1.out hsz (A ++ X1) X2 Y1 (Y2 ++ B) PS.out.1 (by rw [List.length_append, PS.out.2.2.2.2.2.1]; omega) (by omega) (by omega) (by omega) (by omega)
                go_wp2_with fail
                refine hcall.mono ?_
                rintro e w5 ⟨rfl, d1, hs1, hl1, S5⟩
                have HL1 : Aside (d1.toList = A ++ X1 ++ Y1 ++ (X2 ++ Y2 ++ B)) := by show _ = _; rw [hl1]; simp only [List.append_assoc]
                have S3 : Aside (SWK enc k w0 blk off d1 w5) := S5
                clear hcall hl1 S5 S1
                have HL2 : Aside (d1.toList = A ++ isort (ltOf cf) (X1 ++ Y1) ++ (X2 ++ Y2 ++ B)) := by
                  show _ = _
                  rw [HL1.out, isort_none H PS.out.2.1 PS.out.2.2.2.1 (by omega)]; simp only [List.append_assoc]
                have hcall := IH.out mid en b d1 w5 (A ++ isort (ltOf cf) (X1 ++ Y1)) X2 Y2 B (by rw [PS.out.2.2.2.2.2.2.1]; omega) hs1 S3.out (by rw [HL2.out]; simp only [List.append_assoc]) (by rw [List.length_append, isort_len, List.length_append, PS.out.2.2.2.2.2.1]; omega) (by omega) (by omega) (by omega) (by omega) PS.out.2.2.1 PS.out.2.2.2.2.1
                unfold MergesTo at hcall
                go_wp2_with fail
                refine hcall.mono ?_
                rintro e w7 ⟨rfl, d3, hs3, hl3, S7⟩
                have S8 : Aside (SWK enc k w0 blk off d3 w7) := S7
                clear hcall S7 S3
                go_wp2_with fail
                go_end0
                exact ⟨rfl, d3, hs3, by rw [hl3, PS.out.2.2.2.2.2.2.2], S8.out⟩
              · skip
                have g1 : (st : Int) < (m : Int) := by omega
                have g2 : (m : Int) < (en : Int) := by omega
                have g3 : ¬ (a : Int) < (st : Int) := by omega
                have g5 : (mid : Int) < (en : Int) := by omega
                have g6 : ¬ (en : Int) < (b : Int) := by omega
                have hcall := rotate_any L enc g cb blk off cap st m en d0 d w0 wr R hs S1.out hsz (A ++ X1) X2 Y1 (Y2 ++ B) PS.out.1 (by rw [List.length_append, PS.out.2.2.2.2.2.1]; omega) (by omega) (by omega) (by omega) (by omega)
                go_wp2_with fail
                refine hcall.mono ?_
                rintro e w5 ⟨rfl, d1, hs1, hl1, S5⟩
                have HL1 : Aside (d1.toList = A ++ X1 ++ Y1 ++ (X2 ++ Y2 ++ B)) := by show _ = _; rw [hl1]; simp only [List.append_assoc]
                have S3 : Aside (SWK enc k w0 blk off d1 w5) := S5
                clear hcall hl1 S5 S1
                have HL2 : Aside (d1.toList = A ++ isort (ltOf cf) (X1 ++ Y1) ++ (X2 ++ Y2 ++ B)) := by
                  show _ = _
                  rw [HL1.out, isort_none H PS.out.2.1 PS.out.2.2.2.1 (by omega)]; simp only [List.append_assoc]
                go_wp2_with fail
                go_end0
                exact ⟨rfl, d1, hs1, by rw [HL2.out, PS.out.2.2.2.2.2.2.2, isort_none H PS.out.2.2.1 PS.out.2.2.2.2.1 (by omega)]; simp only [List.append_assoc], S3.out⟩
          · by_cases h3 : a < st
            · skip
              have g1 : (st : Int) < (m : Int) := by omega
              have g2 : ¬ (m : Int) < (en : Int) := by omega
              have g3 : (a : Int) < (st : Int) := by omega
              have g4 : ¬ (st : Int) < (mid : Int) := by omega
              have g5 : (mid : Int) < (en : Int) := by omega
              have g6 : (en : Int) < (b : Int) := by omega
              have HL1 : Aside (d.toList = A ++ X1 ++ Y1 ++ (X2 ++ Y2 ++ B)) := by
                show _ = _
                have he : X2.length = 0 ∨ Y1.length = 0 := by omega
                rw [PS.out.1]
                rcases he with he | he
                · obtain rfl := List.length_eq_zero_iff.1 he; simp only [List.append_assoc, List.nil_append]
                · obtain rfl := List.length_eq_zero_iff.1 he; simp only [List.append_assoc, List.nil_append]
              have HL2 : Aside (d.toList = A ++ isort (ltOf cf) (X1 ++ Y1) ++ (X2 ++ Y2 ++ B)) := by
                show _ = _
                rw [HL1.out, isort_none H PS.out.2.1 PS.out.2.2.2.1 (by omega)]; simp only [List.append_assoc]
              have hcall := IH.out mid en b d wr (A ++ isort (ltOf cf) (X1 ++ Y1)) X2 Y2 B (by rw [PS.out.2.2.2.2.2.2.1]; omega) rfl S1.out (by rw [HL2.out]; simp only [List.append_assoc]) (by rw [List.length_append, isort_len, List.length_append, PS.out.2.2.2.2.2.1]; omega) (by omega) (by omega) (by omega) (by omega) PS.out.2.2.1 PS.out.2.2.2.2.1
              unfold MergesTo at hcall
              go_wp2_with fail
              refine hcall.mono ?_
              rintro e w7 ⟨rfl, d3, hs3, hl3, S7⟩
              have S8 : Aside (SWK enc k w0 blk off d3 w7) := S7
              clear hcall S7 S1
              go_wp2_with fail
              go_end0
              exact ⟨rfl, d3, hs3, by rw [hl3, PS.out.2.2.2.2.2.2.2], S8.out⟩
            · skip
              have g1 : (st : Int) < (m : Int) := by omega
              have g2 : ¬ (m : Int) < (en : Int) := by omega
              have g3 : ¬ (a : Int) < (st : Int) := by omega
              have g5 : (mid : Int) < (en : Int) := by omega
              have g6 : (en : Int) < (b : Int) := by omega
              have HL1 : Aside (d.toList = A ++ X1 ++ Y1 ++ (X2 ++ Y2 ++ B)) := by
                show _ = _
                have he : X2.length = 0 ∨ Y1.length = 0 := by omega
                rw [PS.out.1]
                rcases he with he | he
                · obtain rfl := List.length_eq_zero_iff.1 he; simp only [List.append_assoc, List.nil_append]
                · obtain rfl := List.length_eq_zero_iff.1 he; simp only [List.append_assoc, List.nil_append]
              have HL2 : Aside (d.toList = A ++ isort (ltOf cf) (X1 ++ Y1) ++ (X2 ++ Y2 ++ B)) := by
                show _ = _
                rw [HL1.out, isort_none H PS.out.2.1 PS.out.2.2.2.1 (by omega)]; simp only [List.append_assoc]
              have hcall := IH.out mid en b d wr (A ++ isort (ltOf cf) (X1 ++ Y1)) X2 Y2 B (by rw [PS.out.2.2.2.2.2.2.1]; omega) rfl S1.out (by rw [HL2.out]; simp only [List.append_assoc]) (by rw [List.length_append, isort_len, List.length_append, PS.out.2.2.2.2.2.1]; omega) (by omega) (by omega) (by omega) (by omega) PS.out.2.2.1 PS.out.2.2.2.2.1
              unfold MergesTo at hcall
              go_wp2_with fail
              refine hcall.mono ?_
              rintro e w7 ⟨rfl, d3, hs3, hl3, S7⟩
              have S8 : Aside (SWK enc k w0 blk off d3 w7) := S7
              clear hcall S7 S1
              go_wp2_with fail
              go_end0
              exact ⟨rfl, d3, hs3, by rw [hl3, PS.out.2.2.2.2.2.2.2], S8.out⟩
        · by_cases h3 : st < mid
          · skip
            have g1 : ¬ (st : Int) < (m : Int) := by omega
            have g3 : (a : Int) < (st : Int) := by omega
            have g5 : ¬ (mid : Int) < (en : Int) := by omega
            have g4 : (st : Int) < (mid : Int) := by omega
            have HL1 : Aside (d.toList = A ++ X1 ++ Y1 ++ (X2 ++ Y2 ++ B)) := by
              show _ = _
              have he : X2.length = 0 ∨ Y1.length = 0 := by omega
              rw [PS.out.1]
              rcases he with he | he
              · obtain rfl := List.length_eq_zero_iff.1 he; simp only [List.append_assoc, List.nil_append]
              · obtain rfl := List.length_eq_zero_iff.1 he; simp only [List.append_assoc, List.nil_append]
            have hcall := IH.out a st mid d wr A X1 Y1 (X2 ++ Y2 ++ B) (by rw [PS.out.2.2.2.2.2.2.1]; omega) rfl S1.out HL1.out PS.out.2.2.2.2.2.1.symm (by omega) (by omega) (by omega) (by omega) PS.out.2.1 PS.out.2.2.2.1
            unfold MergesTo at hcall
            go_wp2_with fail
            refine hcall.mono ?_
            rintro e w6 ⟨rfl, d2, hs2, hl2, S6⟩
            have HL2 : Aside (d2.toList = A ++ isort (ltOf cf) (X1 ++ Y1) ++ (X2 ++ Y2 ++ B)) := hl2
            have S4 : Aside (SWK enc k w0 blk off d2 w6) := S6
            clear hcall hl2 S6 S1
            go_wp2_with fail
            go_end0
            exact ⟨rfl, d2, hs2, by rw [HL2.out, PS.out.2.2.2.2.2.2.2, isort_none H PS.out.2.2.1 PS.out.2.2.2.2.1 (by omega)]; simp only [List.append_assoc], S4.out⟩
          · skip
            have g1 : ¬ (st : Int) < (m : Int) := by omega
            have g3 : (a : Int) < (st : Int) := by omega
            have g5 : ¬ (mid : Int) < (en : Int) := by omega
            have g4 : ¬ (st : Int) < (mid : Int) := by omega
            have HL1 : Aside (d.toList = A ++ X1 ++ Y1 ++ (X2 ++ Y2 ++ B)) := by
              show _ = _
              have he : X2.length = 0 ∨ Y1.length = 0 := by omega
              rw [PS.out.1]
              rcases he with he | he
              · obtain rfl := List.length_eq_zero_iff.1 he; simp only [List.append_assoc, List.nil_append]
              · obtain rfl := List.length_eq_zero_iff.1 he; simp only [List.append_assoc, List.nil_append]
            have HL2 : Aside (d.toList = A ++ isort (ltOf cf) (X1 ++ Y1) ++ (X2 ++ Y2 ++ B)) := by
              show _ = _
              rw [HL1.out, isort_none H PS.out.2.1 PS.out.2.2.2.1 (by omega)]; simp only [List.append_assoc]
            go_wp2_with fail
            go_end0
            exact ⟨rfl, d, rfl, by rw [HL2.out, PS.out.2.2.2.2.2.2.2, isort_none H PS.out.2.2.1 PS.out.2.2.2.2.1 (by omega)]; simp only [List.append_assoc], S1.out⟩
theorem symMerge_any {k : Nat} (L : Lays P k) (enc : α → List Value) (cf : α → α → Int) (g : Nat) (cb : Array Value) (blk off cap : Nat) (d0 : Array α) (w0 : World) (size : Nat) (H : Wo (ltOf cf))
    (eg : ∀ args w, (callFunc g args).run P w = .ok (.enter g args) w) (hcmp : CmpLays P g cb enc k cf blk off d0.size w0)
    (R : RowK enc k w0 blk off d0) (hs : d0.size = size) (hsz : size < 4611686018427387904) (N : Nat) :
    ∀ (a m b : Nat) (d : Array α) (w : World) (A X Y B : List α), X.length + Y.length < N → d.size = size → SWK enc k w0 blk off d w → d.toList = A ++ X ++ Y ++ B → a = A.length → m = a + X.length → b = m + Y.length → 0 < X.length → 0 < Y.length → Sorted (ltOf cf) X → Sorted (ltOf cf) Y → MergesTo P enc k cf g cb blk off cap w0 size a m b d w A X Y B := by
  induction N with
  | zero => intro a m b d w A X Y B h; omega
  | succ N ih =>
    intro a m b d w A X Y B hN hds S hd ha hm hb hX hY hsX hsY
    subst hds
    by_cases h1 : X.length = 1
    · obtain ⟨x, rfl⟩ := List.length_eq_one_iff.1 h1
      exact symFirst_any L enc cf g cb blk off cap a m b d0 d w0 w H eg hcmp R hs S hsz A Y B x (by rw [hd]; simp) ha (by rw [hm]; simp) hb hY hsY
    · by_cases h2 : Y.length = 1
      · obtain ⟨y, rfl⟩ := List.length_eq_one_iff.1 h2
        exact symLast_any L enc cf g cb blk off cap a m b d0 d w0 w H eg hcmp R hs S hsz A X B y (by rw [hd]; simp) ha hm (by rw [hb]; simp) (by omega) hsX
      · exact symRound_any L enc cf g cb blk off cap a m b d0 d w0 w H eg hcmp R hs S hsz A X Y B hd ha hm hb (by omega) (by omega) hsX hsY
          (fun a' m' b' d' w' A' X' Y' B' hl => ih a' m' b' d' w' A' X' Y' B' (by omega))
end Go.Proofs.Ythpecpkncifngaa.So
end

/- The contract of slices.stableCmpFunc at elements of k cells: the list stably sorted. -/
section
namespace Go.Proofs.Ythpecpkncifngaa.So
open Go Go.Proofs Go.Shelf Go.RowKit Go.Lib Go.Sort
variable {P : Program} {α : Type} [Inhabited α]
def InsertsTo (P : Program) (enc : α → List Value) (k : Nat) (cf : α → α → Int) (g : Nat) (cb : Array Value) (blk off cap : Nat) (w0 : World) (size : Nat) : Prop :=
  ∀ (a b : Nat) (d : Array α) (w : World) (A X B : List α), d.size = size → SWK enc k w0 blk off d w → d.toList = A ++ X ++ B → a = A.length → b = a + X.length →
  Calls P 35 #[.slice (some ⟨blk, off, none⟩) size cap, .int .i64 a, .int .i64 b, .func (.func g) #[] cb] w fun e w' =>
      e = .returned (.tuple #[]) ∧ ∃ dk : Array α, dk.size = size ∧ dk.toList = A ++ isort (ltOf cf) X ++ B ∧ SWK enc k w0 blk off dk w'
set_option maxHeartbeats 8000000 in
set_option maxRecDepth 1000000 in
theorem stable_any {k : Nat} (L : Lays P k) (enc : α → List Value) (cf : α → α → Int) (g : Nat) (cb : Array Value) (blk off cap : Nat) (d0 d : Array α) (w0 w : World) (H : Wo (ltOf cf))
    (eg : ∀ args w, (callFunc g args).run P w = .ok (.enter g args) w) (hcmp : CmpLays P g cb enc k cf blk off d0.size w0)
    (R : RowK enc k w0 blk off d0) (hs : d0.size = d.size) (S : SWK enc k w0 blk off d w) (hsz : d.size < 1152921504606846976) (hins : InsertsTo P enc k cf g cb blk off cap w0 d.size) :
    Calls P 28 #[.slice (some ⟨blk, off, none⟩) d.size cap, .int .i64 d.size, .func (.func g) #[] cb] w fun e w' =>
      e = .returned (.tuple #[]) ∧ ∃ dk : Array α, dk.size = d.size ∧ dk.toList = isort (ltOf cf) d.toList ∧ SWK enc k w0 blk off dk w' := by
  have mixed := L.mixed; have t0 := L.t0; have a0 := L.a0; have z0 := L.z0; have v0 := L.v0; have t3 := L.t3; have a3 := L.a3; have z3 := L.z3; have v3 := L.v3; have t104 := L.t104; have t4 := L.t4; have a4 := L.a4; have z4 := L.z4; have v4 := L.v4; have t22 := L.t22; have a22 := L.a22; have z22 := L.z22; have v22 := L.v22; have aE := L.aE; have zE := L.zE
  have FG := L.fst
  have esym : ∀ args w, (callFunc 36 args).run P w = .ok (.enter 36 args) w := enters_of L.fsym (by decide) rfl
  have eins : ∀ args w, (callFunc 35 args).run P w = .ok (.enter 35 args) w := L.fins
  have INS : Aside _ := hins
  have MER : Aside _ := fun (a m b : Nat) (d' : Array α) (w' : World) (A X Y B : List α) (h1 : d'.size = d.size) (h2 : SWK enc k w0 blk off d' w') => symMerge_any L enc cf g cb blk off cap d0 w0 d.size H eg hcmp R hs (by omega) (X.length + Y.length + 1) a m b d' w' A X Y B (Nat.lt_succ_self _) h1 h2
  obtain ⟨xs, hxs⟩ : ∃ xs, xs = d.toList := ⟨_, rfl⟩
  have hn1 : xs.length ≤ d.size := by rw [hxs, Array.length_toList]; exact Nat.le_refl _
  have hn2 : d.size ≤ xs.length := by rw [hxs, Array.length_toList]; exact Nat.le_refl _
  have HXS : Aside (d.toList = xs) := hxs.symm
  rw [← hxs]
  have S0 : Aside (SWK enc k w0 blk off d w) := S
  clear S hins hcmp hxs
  go_enter FG, Try.ntmps28
  go_wp2
  go_loopg [7, 8] d.size (fun kx s7 s8 wr => ∃ (a : Nat) (dk : Array α) (D : List α), s7 = .int .i64 a ∧ s8 = .int .i64 ((a : Int) + 20) ∧ a ≤ d.size ∧ d.size - a ≤ kx ∧ dk.size = d.size ∧ Aside (SWK enc k w0 blk off dk wr) ∧ Aside (dk.toList = D ++ xs.drop a ∧ D.length = a ∧ D ++ blocks (lt := ltOf cf) 20 (xs.drop a) = blocks (lt := ltOf cf) 20 xs))
  case atStart => exact ⟨0, d, [], rfl, by go_num, Nat.zero_le _, Nat.le_refl _, rfl, S0, by show _ ∧ _ ∧ _; exact ⟨by rw [HXS.out]; rfl, rfl, rfl⟩⟩
  case round =>
    clear S0
    obtain ⟨a, dk, D, rfl, rfl, had, hkx, hds, S1, HE⟩ := hrel
    by_cases hlt : a + 20 ≤ d.size
    · have hltz : (a : Int) + 20 ≤ (d.size : Int) := by omega
      have hcall := INS.out a (a + 20) dk wr D ((xs.drop a).take 20) ((xs.drop a).drop 20) hds S1.out (by rw [HE.out.1, List.append_assoc, List.take_append_drop]) HE.out.2.1.symm (by rw [List.length_take, List.length_drop]; omega)
      have e20 : ((a + 20 : Nat) : Int) = (a : Int) + 20 := by omega
      rw [e20] at hcall
      clear S1 e20
      go_wp2_with fail
      refine hcall.mono ?_
      rintro e w1 ⟨rfl, dk1, hs1, hl1, S3⟩
      have S4 : Aside (SWK enc k w0 blk off dk1 w1) := S3
      have HE2 : Aside (dk1.toList = (D ++ isort (ltOf cf) ((xs.drop a).take 20)) ++ xs.drop (a + 20) ∧ (D ++ isort (ltOf cf) ((xs.drop a).take 20)).length = a + 20 ∧ (D ++ isort (ltOf cf) ((xs.drop a).take 20)) ++ blocks (lt := ltOf cf) 20 (xs.drop (a + 20)) = blocks (lt := ltOf cf) 20 xs) := by
        refine ⟨by rw [hl1, List.drop_drop], by rw [List.length_append, isort_len, List.length_take, List.length_drop, HE.out.2.1]; omega, ?_⟩
        have := HE.out.2.2
        rw [blocks_go (by omega) (by rw [List.length_drop]; omega), List.drop_drop] at this
        rw [← this]; simp only [List.append_assoc]
      clear hcall S3 hl1 HE
      go_wp2_with fail
      go_roundg (d.size - (a + 20))
      case measure => omega
      case rel => exact ⟨a + 20, dk1, D ++ isort (ltOf cf) ((xs.drop a).take 20), by go_num, by go_num, by omega, Nat.le_refl _, hs1, S4, HE2⟩
    · have hltz : ¬ (a : Int) + 20 ≤ (d.size : Int) := by omega
      have hcall := INS.out a d.size dk wr D (xs.drop a) [] hds S1.out (by rw [HE.out.1]; simp) HE.out.2.1.symm (by rw [List.length_drop]; omega)
      have HB : Aside (D ++ isort (ltOf cf) (xs.drop a) ++ [] = blocks (lt := ltOf cf) 20 xs) := by
        show _ = _
        rw [← HE.out.2.2, blocks_end (by rw [List.length_drop]; omega)]; simp
      clear S1 HE
      go_wp2_with fail
      refine hcall.mono ?_
      rintro e w1 ⟨rfl, dk1, hs1, hl1, S3⟩
      have S4 : Aside (SWK enc k w0 blk off dk1 w1) := S3
      have HL : Aside (dk1.toList = blocks (lt := ltOf cf) 20 xs) := by show _ = _; rw [hl1, HB.out]
      clear hcall S3 hl1 HB had hkx hlt hltz hds
      go_wp2_with fail
      go_loopg [6] d.size (fun kx s6 wr => ∃ (s : Nat) (dk : Array α), s6 = .int .i64 s ∧ 20 ≤ s ∧ s ≤ 2 * d.size + 20 ∧ d.size - s ≤ kx ∧ dk.size = d.size ∧ Aside (SWK enc k w0 blk off dk wr) ∧ Aside (dk.toList = blocks (lt := ltOf cf) s xs))
      case atStart => exact ⟨20, dk1, rfl, Nat.le_refl _, by omega, by omega, hs1, S4, HL⟩
      case round =>
        clear S4 HL hs1
        obtain ⟨s, dk2, rfl, hs20, hs2n, hkx, hds, S1, HE⟩ := hrel
        by_cases hlt : s < d.size
        · have hltz : (s : Int) < (d.size : Int) := by omega
          go_wp2_with fail
          go_loopg [7, 8] d.size (fun kx s7 s8 wr => ∃ (a : Nat) (dk : Array α) (D : List α), s7 = .int .i64 a ∧ s8 = .int .i64 ((a : Int) + 2 * (s : Int)) ∧ a ≤ d.size ∧ d.size - a ≤ kx ∧ dk.size = d.size ∧ Aside (SWK enc k w0 blk off dk wr) ∧ Aside (dk.toList = D ++ blocks (lt := ltOf cf) s (xs.drop a) ∧ D.length = a ∧ D ++ blocks (lt := ltOf cf) (2 * s) (xs.drop a) = blocks (lt := ltOf cf) (2 * s) xs))
          case atStart => exact ⟨0, dk2, [], rfl, by go_num, Nat.zero_le _, Nat.le_refl _, hds, S1, by show _ ∧ _ ∧ _; exact ⟨by rw [HE.out]; rfl, rfl, rfl⟩⟩
          case round =>
            clear S1 HE hds
            obtain ⟨a, dk3, D, rfl, rfl, had, hkx3, hds, S1, HE⟩ := hrel
            by_cases hlt2 : a + 2 * s ≤ d.size
            · have hltz2 : (a : Int) + 2 * (s : Int) ≤ (d.size : Int) := by omega
              have hsp := blocks_split (lt := ltOf cf) (s := s) (xs := xs.drop a) (by omega) (by rw [List.length_drop]; omega)
              have hcall := MER.out a (a + s) (a + 2 * s) dk3 wr D (isort (ltOf cf) ((xs.drop a).take s)) (isort (ltOf cf) (((xs.drop a).drop s).take s)) (blocks (lt := ltOf cf) s ((xs.drop a).drop (2 * s))) hds S1.out (by rw [HE.out.1, hsp]; simp only [List.append_assoc]) HE.out.2.1.symm (by rw [isort_len, List.length_take, List.length_drop]; omega) (by rw [isort_len, List.length_take, List.length_drop, List.length_drop]; omega) (by rw [isort_len, List.length_take, List.length_drop]; omega) (by rw [isort_len, List.length_take, List.length_drop, List.length_drop]; omega) (isort_sorted H _) (isort_sorted H _)
              unfold MergesTo at hcall
              have e1 : ((a + s : Nat) : Int) = (a : Int) + (s : Int) := by omega
              have e2 : ((a + 2 * s : Nat) : Int) = (a : Int) + 2 * (s : Int) := by omega
              rw [e1, e2] at hcall
              clear S1 e1 e2 hsp
              go_wp2_with fail
              refine hcall.mono ?_
              rintro e w1 ⟨rfl, dk4, hs4, hl4, S3⟩
              have S4 : Aside (SWK enc k w0 blk off dk4 w1) := S3
              have HE2 : Aside (dk4.toList = (D ++ isort (ltOf cf) (isort (ltOf cf) ((xs.drop a).take s) ++ isort (ltOf cf) (((xs.drop a).drop s).take s))) ++ blocks (lt := ltOf cf) s (xs.drop (a + 2 * s)) ∧ (D ++ isort (ltOf cf) (isort (ltOf cf) ((xs.drop a).take s) ++ isort (ltOf cf) (((xs.drop a).drop s).take s))).length = a + 2 * s ∧ (D ++ isort (ltOf cf) (isort (ltOf cf) ((xs.drop a).take s) ++ isort (ltOf cf) (((xs.drop a).drop s).take s))) ++ blocks (lt := ltOf cf) (2 * s) (xs.drop (a + 2 * s)) = blocks (lt := ltOf cf) (2 * s) xs) := by
                have hdd : (xs.drop a).drop (2 * s) = xs.drop (a + 2 * s) := List.drop_drop ..
                refine ⟨by rw [hl4, hdd], by rw [List.length_append, isort_len, List.length_append, isort_len, isort_len, List.length_take, List.length_drop, List.length_take, List.length_drop, List.length_drop, HE.out.2.1]; omega, ?_⟩
                have := HE.out.2.2
                rw [blocks_two H (s := s) (by omega) (by rw [List.length_drop]; omega), hdd] at this
                rw [← this]; simp only [List.append_assoc]
              clear hcall S3 hl4 HE
              go_wp2_with fail
              go_roundg (d.size - (a + 2 * s))
              case measure => omega
              case rel => exact ⟨a + 2 * s, dk4, D ++ isort (ltOf cf) (isort (ltOf cf) ((xs.drop a).take s) ++ isort (ltOf cf) (((xs.drop a).drop s).take s)), by go_num, by go_num, by omega, Nat.le_refl _, hs4, S4, HE2⟩
            · have hltz2 : ¬ (a : Int) + 2 * (s : Int) ≤ (d.size : Int) := by omega
              by_cases hm : a + s < d.size
              · have hmz : (a : Int) + (s : Int) < (d.size : Int) := by omega
                obtain ⟨hr1, hr2⟩ := blocks_rest (lt := ltOf cf) H (s := s) (xs := xs.drop a) (by omega) (by rw [List.length_drop]; omega) (by rw [List.length_drop]; omega)
                have hcall := MER.out a (a + s) d.size dk3 wr D (isort (ltOf cf) ((xs.drop a).take s)) (isort (ltOf cf) ((xs.drop a).drop s)) [] hds S1.out (by rw [HE.out.1, hr1]; simp) HE.out.2.1.symm (by rw [isort_len, List.length_take, List.length_drop]; omega) (by rw [isort_len, List.length_drop, List.length_drop]; omega) (by rw [isort_len, List.length_take, List.length_drop]; omega) (by rw [isort_len, List.length_drop, List.length_drop]; omega) (isort_sorted H _) (isort_sorted H _)
                unfold MergesTo at hcall
                have e1 : ((a + s : Nat) : Int) = (a : Int) + (s : Int) := by omega
                rw [e1] at hcall
                have HB : Aside (D ++ isort (ltOf cf) (isort (ltOf cf) ((xs.drop a).take s) ++ isort (ltOf cf) ((xs.drop a).drop s)) ++ [] = blocks (lt := ltOf cf) (2 * s) xs) := by
                  show _ = _
                  rw [← HE.out.2.2, hr2]; simp
                clear S1 e1 hr1 hr2 HE
                go_wp2_with fail
                refine hcall.mono ?_
                rintro e w1 ⟨rfl, dk4, hs4, hl4, S3⟩
                have S4 : Aside (SWK enc k w0 blk off dk4 w1) := S3
                have HL : Aside (dk4.toList = blocks (lt := ltOf cf) (2 * s) xs) := by show _ = _; rw [hl4, HB.out]
                clear hcall S3 hl4 HB
                go_wp2_with fail
                go_roundg (d.size - 2 * s)
                case measure => omega
                case rel => exact ⟨2 * s, dk4, by go_num, by omega, by omega, Nat.le_refl _, hs4, S4, HL⟩
              · have hmz : ¬ (a : Int) + (s : Int) < (d.size : Int) := by omega
                have HL : Aside (dk3.toList = blocks (lt := ltOf cf) (2 * s) xs) := by
                  show _ = _
                  rw [HE.out.1, ← HE.out.2.2, blocks_none (by rw [List.length_drop]; omega)]
                clear HE
                go_wp2_with fail
                go_roundg (d.size - 2 * s)
                case measure => omega
                case rel => exact ⟨2 * s, dk3, by go_num, by omega, by omega, Nat.le_refl _, hds, S1, HL⟩
        · have hltz : ¬ (s : Int) < (d.size : Int) := by omega
          go_wp2_with fail
          go_end0
          exact ⟨rfl, dk2, hds, by rw [HE.out, blocks_end (by omega)], S1.out⟩
end Go.Proofs.Ythpecpkncifngaa.So
end

/- The tree's contracts, as far as this seat has their functions (a program of this session's has picked them out of the door seat's templates). -/
section
namespace Go.Proofs.Ythpecpkncifngaa.Pure
open Go.RowKit Go.Proofs.Ythpecpkncifngaa.X Go.Proofs.YthpecpkncifngaaW.PrintWords Go.Proofs.YthpecpkncifngaaW.PrintLast Go.Proofs.YthpecpkncifngaaW.PrintMore
open Go.Proofs.Ythpecpkncifngaa
theorem ncheck (p : ByteArray) : name_Check.f p = some (((Nm.check p.data.toList).1 : Int), ((Nm.check p.data.toList).2 : Int)) := rfl
end Go.Proofs.Ythpecpkncifngaa.Pure
namespace Go.Proofs.Ythpecpkncifngaa.Pure
open Go.RowKit Go.Proofs.Ythpecpkncifngaa.X Go.Proofs.YthpecpkncifngaaW.PrintWords Go.Proofs.YthpecpkncifngaaW.PrintLast Go.Proofs.YthpecpkncifngaaW.PrintMore
open Go.Proofs.Ythpecpkncifngaa
theorem rd_text (l : List (Nat × List UInt8)) (i : Nat) (h : i < l.length) : ((rd_T51 (l.map toS) (i : Int)).f1).toList = l[i].2 := by
  rw [rd_map l i h, toList_eq]; rfl
theorem beneath_l0 (x y : List (Nat × List UInt8)) (hxy : x.length ≤ y.length) (hl : x.length ≤ 1099511627776) (d : Nat) : ∀ i : Nat, i ≤ x.length → x.length - i = d →
    Ev (fun k => tabularyref08_Beneath.l0 k (x.map toS) (y.map toS) (i : Int)) (Nm.eqT ((x.drop i).map (·.2)) ((y.drop i).map (·.2))) := by
  induction d with
  | zero =>
    intro i hi hd
    obtain rfl : i = x.length := by omega
    refine Ev.step (fun k => ?_) (Ev.now _)
    simp only [tabularyref08_Beneath.l0, List.length_map]
    rw [if_neg (by omega), List.drop_length]
    rfl
  | succ d ih =>
    intro i hi hd
    have h1 : i < x.length := by omega
    have h2 : i < y.length := by omega
    rw [List.drop_eq_getElem_cons h1, List.drop_eq_getElem_cons h2]
    simp only [List.map_cons, Nm.eqT]
    by_cases h : x[i].2 = y[i].2
    · have s : ∀ k, tabularyref08_Beneath.l0 (k + 1) (x.map toS) (y.map toS) (i : Int) = tabularyref08_Beneath.l0 k (x.map toS) (y.map toS) ((i + 1 : Nat) : Int) := fun k => by
        simp only [tabularyref08_Beneath.l0, List.length_map]
        rw [if_pos (by omega), if_pos (by omega), if_pos (by omega), rd_text x i h1, rd_text y i h2, if_pos h, wrap_succ (by omega)]
      rw [decide_eq_true h, Bool.true_and]
      exact Ev.step s (ih (i + 1) (by omega) (by omega))
    · rw [decide_eq_false h, Bool.false_and]
      refine Ev.step (fun k => ?_) (Ev.now _)
      simp only [tabularyref08_Beneath.l0, List.length_map]
      rw [if_pos (by omega), if_pos (by omega), if_pos (by omega), rd_text x i h1, rd_text y i h2, if_neg h]
noncomputable def ben (a p : List UInt8) : Bool := @ite Bool ((Nm.check p).2 = 0 ∧ (a = [] ∨ ∃ b, p = a ++ 47 :: b)) (Classical.propDecidable _) true false
theorem ben_true {a p : List UInt8} (h : (Nm.check p).2 = 0 ∧ (a = [] ∨ ∃ b, p = a ++ 47 :: b)) : ben a p = true := by unfold ben; exact if_pos h
theorem ben_false {a p : List UInt8} (h : ¬ ((Nm.check p).2 = 0 ∧ (a = [] ∨ ∃ b, p = a ++ 47 :: b))) : ben a p = false := by unfold ben; exact if_neg h
theorem refbeneath_ev (a p : ByteArray) : Ev (fun k => tabularyref08_Beneath.f k a p) (ben a.data.toList p.data.toList) := by
  refine Ev.congr (fun k => by rw [tabularyref08_Beneath.f]) (Ev.bind (refcheck_ev p) ?_)
  by_cases h1 : (Nm.check p.data.toList).2 = 0
  · refine Ev.congr (fun k => by rw [if_pos (by simp [h1])]) ?_
    rw [toList_eq]
    by_cases h2 : a.data.toList = []
    · rw [ben_true ⟨h1, .inl h2⟩]
      exact Ev.congr (fun k => by rw [if_pos h2]) (Ev.now _)
    · refine Ev.congr (fun k => by rw [if_neg h2]) (Ev.bind (refcheck_ev a) ?_)
      by_cases h3 : (Nm.check a.data.toList).2 = 0
      · have hsa := ((Nm.check_ok _).1 h3).1
        have hsp := ((Nm.check_ok _).1 h1).1
        rw [len_eq] at hsa hsp
        refine Ev.congr (fun k => by rw [if_pos (by simp [h3])]) (Ev.bind (pieces_ev a (by omega)) (Ev.bind (pieces_ev p (by omega)) ?_))
        simp only [List.length_map]
        have hl := Nm.pieces_length a.data.toList 0
        rw [len_eq] at hl
        have hb : (Nm.texts p.data.toList).length = (Nm.pieces 0 p.data.toList).length := by simp [Nm.texts]
        have ha' : (Nm.texts a.data.toList).length = (Nm.pieces 0 a.data.toList).length := by simp [Nm.texts]
        by_cases h4 : (Nm.pieces 0 a.data.toList).length ≥ (Nm.pieces 0 p.data.toList).length
        · rw [ben_false (by
            rintro ⟨_, h5 | h5⟩
            · exact h2 h5
            · obtain ⟨r, hr, h6⟩ := (Nm.beneath_iff _ _).1 h5
              have := congrArg List.length h6
              rw [List.length_append] at this
              have := List.length_pos_iff.2 hr
              omega)]
          exact Ev.congr (fun k => by rw [if_pos (by omega)]) (Ev.now _)
        · have := beneath_l0 (Nm.pieces 0 a.data.toList) (Nm.pieces 0 p.data.toList) (by omega) (by omega) _ 0 (by omega) rfl
          have e : Nm.eqT (((Nm.pieces 0 a.data.toList).drop 0).map (·.2)) (((Nm.pieces 0 p.data.toList).drop 0).map (·.2)) = ben a.data.toList p.data.toList := by
            show Nm.eqT (Nm.texts a.data.toList) (Nm.texts p.data.toList) = _
            by_cases h5 : ∃ b, p.data.toList = a.data.toList ++ 47 :: b
            · rw [ben_true ⟨h1, .inr h5⟩, Nm.eqT_iff]
              obtain ⟨r, _, h6⟩ := (Nm.beneath_iff _ _).1 h5
              exact ⟨r, h6⟩
            · rw [ben_false (by rintro ⟨_, h6 | h6⟩; exact h2 h6; exact h5 h6)]
              rw [Bool.eq_false_iff, Ne, Nm.eqT_iff]
              rintro ⟨r, h6⟩
              refine h5 ((Nm.beneath_iff _ _).2 ⟨r, ?_, h6⟩)
              rintro rfl
              have := congrArg List.length h6
              rw [List.append_nil] at this
              omega
          rw [e] at this
          exact Ev.congr (fun k => by rw [if_neg (by omega)]; rfl) this
      · rw [ben_false (by
          rintro ⟨_, h5 | h5⟩
          · exact h2 h5
          · obtain ⟨r, hr, h6⟩ := (Nm.beneath_iff _ _).1 h5
            obtain ⟨b, h5⟩ := h5
            refine h3 ((Nm.check_ok _).2 ?_)
            obtain ⟨h7, h8⟩ := (Nm.check_ok _).1 h1
            refine ⟨?_, fun t ht => h8 t (by rw [h6]; exact List.mem_append_left _ ht)⟩
            have := congrArg List.length h5
            rw [List.length_append] at this
            omega)]
        exact Ev.congr (fun k => by rw [if_neg (by simp; omega)]) (Ev.now _)
  · rw [ben_false (fun h => h1 h.1)]
    exact Ev.congr (fun k => by rw [if_neg (by simp; omega)]) (Ev.now _)
theorem prefix_iff (a p : ByteArray) : (a.size < p.size ∧ p.data.toList.take a.size = a.data.toList ∧ p.data.toList[a.size]? = some 47) ↔ ∃ b, p.data.toList = a.data.toList ++ 47 :: b := by
  have hl := len_eq a
  have hp := len_eq p
  constructor
  · rintro ⟨h1, h2, h3⟩
    refine ⟨p.data.toList.drop (a.size + 1), ?_⟩
    obtain ⟨h4, h5⟩ := List.getElem?_eq_some_iff.1 h3
    have := List.drop_eq_getElem_cons h4
    rw [h5] at this
    rw [← this, ← h2]
    exact (List.take_append_drop _ _).symm
  · rintro ⟨b, h⟩
    have hlen := congrArg List.length h
    rw [List.length_append, List.length_cons] at hlen
    refine ⟨by omega, ?_, ?_⟩
    · rw [h, ← hl, List.take_left]
    · rw [h, ← hl, List.getElem?_append_right (Nat.le_refl _)]
      simp
theorem nbeneath (a p : ByteArray) : name_Beneath.f a p = some (ben a.data.toList p.data.toList) := by
  have hl := len_eq a
  have hlp := len_eq p
  simp only [name_Beneath.f, ncheck, Option.bind_some, strings_HasPrefix.f, stringslite_HasPrefix.f, toList_eq]
  by_cases h1 : (Nm.check p.data.toList).2 = 0
  · rw [if_pos (by simp [h1])]
    by_cases h2 : a.data.toList = []
    · rw [if_pos h2, ben_true ⟨h1, .inl h2⟩]
    · rw [if_neg h2]
      by_cases h3 : p.size < a.size
      · rw [if_neg (by omega)]
        simp only [Option.bind_some, Bool.false_eq_true, if_false]
        rw [ben_false]
        rintro ⟨_, h5 | h5⟩
        · exact h2 h5
        · have := ((prefix_iff a p).2 h5).1; omega
      · rw [if_pos (by omega), if_pos (by omega), if_pos (by omega)]
        simp only [Option.bind_some, Int.toNat_natCast, Lib.extract_data, List.drop_zero, Nat.sub_zero, beq_iff_eq]
        by_cases h4 : p.data.toList.take a.size = a.data.toList
        · rw [if_pos h4]
          by_cases h5 : a.size < p.size
          · rw [if_pos (by omega), if_pos (by omega), if_pos (by omega)]
            obtain ⟨c, _, hb, hc⟩ := drop_at p a.size h5
            rw [hb]
            by_cases h6 : c = 47
            · rw [ben_true ⟨h1, .inr ((prefix_iff a p).1 ⟨h5, h4, by rw [hc, h6]⟩)⟩, h6]; rfl
            · rw [ben_false]
              · have : ¬ ((c.toNat : Int) = 47) := fun e => h6 ((toNat_eq c 47).1 e)
                simpa using this
              · rintro ⟨_, h7 | h7⟩
                · exact h2 h7
                · have := ((prefix_iff a p).2 h7).2.2
                  rw [hc] at this
                  exact h6 (Option.some.inj this)
          · rw [if_neg (by omega), ben_false]
            rintro ⟨_, h7 | h7⟩
            · exact h2 h7
            · have := ((prefix_iff a p).2 h7).1; omega
        · rw [if_neg h4, ben_false]
          rintro ⟨_, h7 | h7⟩
          · exact h2 h7
          · exact h4 ((prefix_iff a p).2 h7).2.1
  · rw [if_neg (by simp; omega), ben_false (fun h => h1 h.1)]
theorem cmp_ev (a b : ByteArray) : cmp_Compare_string.f a b = some (if Op.bytesLess a.data.toList b.data.toList = true then -1 else if Op.bytesLess b.data.toList a.data.toList = true then 1 else 0) := by
  have n : ∀ x : ByteArray, cmp_isNaN_string.f x = some false := fun x => by simp [cmp_isNaN_string.f]
  simp only [cmp_Compare_string.f, n, Option.bind_some, Bool.false_eq_true, if_false, toList_eq]
  split
  · rfl
  · split <;> rfl
theorem ib (p : ByteArray) : strings_IndexByte.f p 47 = some (Lib.indexByte p.data.toList 47) := rfl
theorem texts_none {l : List UInt8} (h : Lib.indexByte l 47 = -1) : Nm.texts l = [l] := by simp [Nm.texts, Nm.pieces_none l 0 h]
theorem texts_some {l : List UInt8} {n : Nat} (h : Lib.indexByte l 47 = n) : Nm.texts l = l.take n :: Nm.texts (l.drop (n + 1)) := by
  rw [Nm.texts, Nm.pieces_some l 0 n h, List.map_cons, Nm.pieces_texts]
theorem cmp_cases (x y : List UInt8) : (Op.bytesLess x y = true) ∨ (Op.bytesLess x y = false ∧ Op.bytesLess y x = true) ∨ (Op.bytesLess x y = false ∧ Op.bytesLess y x = false) := by
  cases Op.bytesLess x y <;> cases Op.bytesLess y x <;> simp
theorem ncompare_j2 (a b X Y : ByteArray) (i j r : Int) (A B : List (List UInt8))
    (h : ∀ c : Bool, c = (if i < 0 then decide (j < 0) else false) → Ev (fun k => name_Compare.j3 k a b i j c) (Nm.cmpL A B))
    (hr : r = Nm.cmpL (X.data.toList :: A) (Y.data.toList :: B)) : Ev (fun k => name_Compare.j2 k a b i j X Y) r := by
  subst hr
  have s : ∀ k, name_Compare.j2 (k + 1) a b i j X Y = if (if Op.bytesLess X.data.toList Y.data.toList = true then (-1 : Int) else if Op.bytesLess Y.data.toList X.data.toList = true then 1 else 0) = 0 then name_Compare.j3 k a b i j (if i < 0 then decide (j < 0) else false) else some (if Op.bytesLess X.data.toList Y.data.toList = true then (-1 : Int) else if Op.bytesLess Y.data.toList X.data.toList = true then 1 else 0) := fun k => by
    simp only [name_Compare.j2]
    rw [cmp_ev, Option.bind_some]
    by_cases hi : i < 0
    · simp only [hi, if_true]
    · simp only [hi, if_false]
  rcases cmp_cases X.data.toList Y.data.toList with h1 | ⟨h1, h2⟩ | ⟨h1, h2⟩
  · simp only [h1, if_true] at s
    simp only [Nm.cmpL, h1, if_true]
    exact Ev.step s (Ev.congr (fun k => by rw [if_neg (by decide)]) (Ev.now _))
  · simp only [h1, h2, Bool.false_eq_true, if_false, if_true] at s
    simp only [Nm.cmpL, h1, h2, Bool.false_eq_true, if_false, if_true]
    exact Ev.step s (Ev.congr (fun k => by rw [if_neg (by decide)]) (Ev.now _))
  · simp only [h1, h2, Bool.false_eq_true, if_false, if_true] at s
    simp only [Nm.cmpL, h1, h2, Bool.false_eq_true, if_false]
    exact Ev.step s (h _ rfl)
theorem ncompare_j1 (a b X : ByteArray) (i r : Int) (A B : List (List UInt8)) (Y : List UInt8) (hB : Nm.texts b.data.toList = Y :: B)
    (h : ∀ c : Bool, c = (if i < 0 then decide (Lib.indexByte b.data.toList 47 < 0) else false) → Ev (fun k => name_Compare.j3 k a b i (Lib.indexByte b.data.toList 47) c) (Nm.cmpL A B))
    (hr : r = Nm.cmpL (X.data.toList :: A) (Y :: B)) : Ev (fun k => name_Compare.j1 k a b i (Lib.indexByte b.data.toList 47) X b) r := by
  by_cases hj : Lib.indexByte b.data.toList 47 = -1
  · rw [texts_none hj] at hB
    injection hB with h1 h2
    subst h1
    have s : ∀ k, name_Compare.j1 (k + 1) a b i (Lib.indexByte b.data.toList 47) X b = name_Compare.j2 k a b i (Lib.indexByte b.data.toList 47) X b := fun k => by
      simp only [name_Compare.j1]
      rw [if_neg (by omega)]
    exact Ev.step s (ncompare_j2 a b X b i _ r A B h hr)
  · have := Lib.indexByte_ge b.data.toList 47
    obtain ⟨n, hn⟩ : ∃ n : Nat, Lib.indexByte b.data.toList 47 = n := ⟨(Lib.indexByte b.data.toList 47).toNat, by omega⟩
    rw [texts_some hn] at hB
    injection hB with h1 h2
    subst h1
    have hlt := (Nm.pc_some _ 0 n hn).1
    rw [len_eq] at hlt
    have s : ∀ k, name_Compare.j1 (k + 1) a b i (Lib.indexByte b.data.toList 47) X b = name_Compare.j2 k a b i (Lib.indexByte b.data.toList 47) X (b.extract 0 n) := fun k => by
      simp only [name_Compare.j1]
      rw [if_pos (by omega), if_pos (by omega), if_pos (by omega), hn, Int.toNat_natCast]
    refine Ev.step s (ncompare_j2 a b X (b.extract 0 n) i _ r A B h ?_)
    rw [hr, Lib.extract_data]
    simp
theorem ncompare_one (a b : ByteArray) (hai : Lib.indexByte a.data.toList 47 = -1) :
    Ev (fun k => name_Compare.l0 k a b) (Nm.cmpL (Nm.texts a.data.toList) (Nm.texts b.data.toList)) := by
  have s : ∀ k, name_Compare.l0 (k + 1) a b = name_Compare.j1 k a b (-1) (Lib.indexByte b.data.toList 47) a b := fun k => by
    simp only [name_Compare.l0]
    rw [ib, ib, Option.bind_some, Option.bind_some, hai, if_neg (by omega)]
  refine Ev.step s ?_
  obtain ⟨Y, B, hB⟩ : ∃ Y B, Nm.texts b.data.toList = Y :: B := ⟨_, _, rfl⟩
  refine ncompare_j1 a b a (-1) _ [] B Y hB ?_ (by rw [texts_none hai, hB])
  rintro c rfl
  rw [if_pos (by omega)]
  by_cases hj : Lib.indexByte b.data.toList 47 = -1
  · rw [texts_none hj] at hB
    injection hB with h1 h2
    subst h2
    refine Ev.step (fun k => ?_) (Ev.now _)
    simp only [name_Compare.j3, hj]
    rw [if_pos (by decide)]
    rfl
  · have := Lib.indexByte_ge b.data.toList 47
    obtain ⟨m, hm⟩ : ∃ m : Nat, Lib.indexByte b.data.toList 47 = m := ⟨(Lib.indexByte b.data.toList 47).toNat, by omega⟩
    rw [texts_some hm] at hB
    injection hB with h1 h2
    subst h2
    obtain ⟨Z, C, hC⟩ : ∃ Z C, Nm.texts (b.data.toList.drop (m + 1)) = Z :: C := ⟨_, _, rfl⟩
    rw [hC]
    refine Ev.step (fun k => ?_) (Ev.now _)
    simp only [name_Compare.j3, hm]
    rw [if_neg (by simp), if_pos (by omega)]
    rfl
theorem ncompare_l0 (d : Nat) : ∀ (a b : ByteArray), a.size ≤ d → a.size ≤ 140737488355328 → b.size ≤ 140737488355328 →
    Ev (fun k => name_Compare.l0 k a b) (Nm.cmpL (Nm.texts a.data.toList) (Nm.texts b.data.toList)) := by
  induction d with
  | zero =>
    intro a b h0 ha hb
    have hai : Lib.indexByte a.data.toList 47 = -1 := by
      have e : a.data.toList = [] := List.eq_nil_of_length_eq_zero (by rw [len_eq]; omega)
      rw [e]; rfl
    exact ncompare_one a b hai
  | succ d ih =>
    intro a b h0 ha hb
    by_cases hai : Lib.indexByte a.data.toList 47 = -1
    · exact ncompare_one a b hai
    · have := Lib.indexByte_ge a.data.toList 47
      obtain ⟨n, hn⟩ : ∃ n : Nat, Lib.indexByte a.data.toList 47 = n := ⟨(Lib.indexByte a.data.toList 47).toNat, by omega⟩
      have hlt := (Nm.pc_some _ 0 n hn).1
      rw [len_eq] at hlt
      have s : ∀ k, name_Compare.l0 (k + 1) a b = name_Compare.j1 k a b (n : Int) (Lib.indexByte b.data.toList 47) (a.extract 0 n) b := fun k => by
        simp only [name_Compare.l0]
        rw [ib, ib, Option.bind_some, Option.bind_some, hn, if_pos (by omega), if_pos (by omega), if_pos (by omega), Int.toNat_natCast]
      refine Ev.step s ?_
      obtain ⟨Y, B, hB⟩ : ∃ Y B, Nm.texts b.data.toList = Y :: B := ⟨_, _, rfl⟩
      refine ncompare_j1 a b (a.extract 0 n) n _ (Nm.texts (a.data.toList.drop (n + 1))) B Y hB ?_ (by rw [texts_some hn, hB, Lib.extract_data]; simp)
      rintro c rfl
      rw [if_neg (by omega)]
      obtain ⟨Z, C, hC⟩ : ∃ Z C, Nm.texts (a.data.toList.drop (n + 1)) = Z :: C := ⟨_, _, rfl⟩
      by_cases hj : Lib.indexByte b.data.toList 47 = -1
      · rw [texts_none hj] at hB
        injection hB with h1 h2
        subst h2
        rw [hC]
        refine Ev.step (fun k => ?_) (Ev.now _)
        simp only [name_Compare.j3, Bool.false_eq_true, if_false]
        rw [if_neg (by omega), if_pos (by omega)]
        rfl
      · have := Lib.indexByte_ge b.data.toList 47
        obtain ⟨m, hm⟩ : ∃ m : Nat, Lib.indexByte b.data.toList 47 = m := ⟨(Lib.indexByte b.data.toList 47).toNat, by omega⟩
        have hlt2 := (Nm.pc_some _ 0 m hm).1
        rw [len_eq] at hlt2
        rw [texts_some hm] at hB
        injection hB with h1 h2
        subst h2
        have s2 : ∀ k, name_Compare.j3 (k + 1) a b (n : Int) (Lib.indexByte b.data.toList 47) false = name_Compare.l0 k (a.extract (n + 1) a.size) (b.extract (m + 1) b.size) := fun k => by
          simp only [name_Compare.j3, Bool.false_eq_true, if_false]
          rw [if_neg (by omega), if_neg (by omega), hm, wrap_succ (by omega), wrap_succ (by omega), if_pos (by omega), if_pos (by omega), if_pos (by omega), if_pos (by omega), Int.toNat_natCast, Int.toNat_natCast]
        refine Ev.step s2 ?_
        have e1 : (a.extract (n + 1) a.size).data.toList = a.data.toList.drop (n + 1) := Lib.extract_to_end a (n + 1)
        have e2 : (b.extract (m + 1) b.size).data.toList = b.data.toList.drop (m + 1) := Lib.extract_to_end b (m + 1)
        have l1 : (a.extract (n + 1) a.size).size = a.size - (n + 1) := by rw [← len_eq, e1, List.length_drop, len_eq]
        have l2 : (b.extract (m + 1) b.size).size = b.size - (m + 1) := by rw [← len_eq, e2, List.length_drop, len_eq]
        have := ih (a.extract (n + 1) a.size) (b.extract (m + 1) b.size) (by omega) (by omega) (by omega)
        rw [e1, e2] at this
        exact this
theorem refcompare_l0 (x y : List (Nat × List UInt8)) (hx : x.length ≤ 1099511627777) (d : Nat) : ∀ i : Nat, i ≤ x.length → i ≤ y.length → x.length - i = d →
    Ev (fun k => tabularyref08_Compare.l0 k (x.map toS) (y.map toS) (i : Int)) (Nm.cmpL ((x.drop i).map (·.2)) ((y.drop i).map (·.2))) := by
  induction d with
  | zero =>
    intro i hi hj hd
    obtain rfl : i = x.length := by omega
    have s : ∀ k, tabularyref08_Compare.l0 (k + 1) (x.map toS) (y.map toS) (x.length : Int) = tabularyref08_Compare.j1 k (x.map toS) (y.map toS) (x.length : Int) false := fun k => by
      simp only [tabularyref08_Compare.l0, List.length_map]
      rw [if_neg (by omega)]
    refine Ev.step s (Ev.step (fun k => ?_) (Ev.now _))
    simp only [tabularyref08_Compare.j1, Bool.false_eq_true, if_false, List.length_map, List.drop_length, List.map_nil]
    by_cases h : x.length < y.length
    · rw [if_pos (by omega)]
      obtain ⟨z, r, e⟩ : ∃ z r, y.drop x.length = z :: r := ⟨_, _, List.drop_eq_getElem_cons h⟩
      rw [e]; rfl
    · rw [if_neg (by omega), if_neg (by omega)]
      have e : y.drop x.length = [] := List.drop_eq_nil_of_le (by omega)
      rw [e]; rfl
  | succ d ih =>
    intro i hi hj hd
    have h1 : i < x.length := by omega
    rw [List.drop_eq_getElem_cons h1]
    by_cases h2 : i < y.length
    · have s : ∀ k, tabularyref08_Compare.l0 (k + 1) (x.map toS) (y.map toS) (i : Int) = tabularyref08_Compare.j1 k (x.map toS) (y.map toS) (i : Int) true := fun k => by
        simp only [tabularyref08_Compare.l0, List.length_map]
        rw [if_pos (by omega), decide_eq_true (by omega : (i : Int) < (y.length : Int))]
      have s2 : ∀ k, tabularyref08_Compare.j1 (k + 1) (x.map toS) (y.map toS) (i : Int) true = if Op.bytesLess x[i].2 y[i].2 = true then some (-1) else if Op.bytesLess y[i].2 x[i].2 = true then some 1 else tabularyref08_Compare.l0 k (x.map toS) (y.map toS) ((i + 1 : Nat) : Int) := fun k => by
        simp only [tabularyref08_Compare.j1, if_true, List.length_map]
        rw [if_pos (by omega), if_pos (by omega), if_pos (by omega), rd_text x i h1, rd_text y i h2, wrap_succ (by omega)]
      refine Ev.step s ?_
      rw [List.drop_eq_getElem_cons h2]
      rcases cmp_cases x[i].2 y[i].2 with h3 | ⟨h3, h4⟩ | ⟨h3, h4⟩
      · simp only [h3, if_true] at s2
        simp only [List.map_cons, Nm.cmpL, h3, if_true]
        exact Ev.step s2 (Ev.now _)
      · simp only [h3, h4, Bool.false_eq_true, if_false, if_true] at s2
        simp only [List.map_cons, Nm.cmpL, h3, h4, Bool.false_eq_true, if_false, if_true]
        exact Ev.step s2 (Ev.now _)
      · simp only [h3, h4, Bool.false_eq_true, if_false] at s2
        simp only [List.map_cons, Nm.cmpL, h3, h4, Bool.false_eq_true, if_false]
        exact Ev.step s2 (ih (i + 1) (by omega) (by omega) (by omega))
    · have s : ∀ k, tabularyref08_Compare.l0 (k + 1) (x.map toS) (y.map toS) (i : Int) = tabularyref08_Compare.j1 k (x.map toS) (y.map toS) (i : Int) false := fun k => by
        simp only [tabularyref08_Compare.l0, List.length_map]
        rw [if_pos (by omega), decide_eq_false (by omega : ¬ (i : Int) < (y.length : Int))]
      refine Ev.step s (Ev.step (fun k => ?_) (Ev.now _))
      have e : y.drop i = [] := List.drop_eq_nil_of_le (by omega)
      simp only [tabularyref08_Compare.j1, Bool.false_eq_true, if_false, List.length_map, e, List.map_cons, List.map_nil]
      rw [if_neg (by omega), if_pos (by omega)]
      rfl
theorem refcompare_ev (a b : ByteArray) (ha : a.size ≤ 1099511627776) (hb : b.size ≤ 1099511627776) : Ev (fun k => tabularyref08_Compare.f k a b) (Nm.cmpL (Nm.texts a.data.toList) (Nm.texts b.data.toList)) := by
  have h1 := Nm.pieces_length a.data.toList 0
  have h2 := Nm.pieces_length b.data.toList 0
  rw [len_eq] at h1 h2
  exact Ev.congr (fun k => by rw [tabularyref08_Compare.f]) (Ev.bind (pieces_ev a ha) (Ev.bind (pieces_ev b hb) (refcompare_l0 (Nm.pieces 0 a.data.toList) (Nm.pieces 0 b.data.toList) (by omega) _ 0 (by omega) (by omega) rfl)))
end Go.Proofs.Ythpecpkncifngaa.Pure
namespace Go.Proofs.Ythpecpkncifngaa.X
open Go.RowKit Go.Shelf Go.Proofs.Ythpecpkncifngaa Go.Proofs.YthpecpkncifngaaW.PrintWords Go.Proofs.YthpecpkncifngaaW.PrintLast Go.Proofs.YthpecpkncifngaaW.PrintMore
def cellsIt (x : S35) (A4 : Option Addr) (c4 : Nat) : Array Value := #[.string x.f0, .int .u8 x.f1, .int .i64 x.f2, .int .i64 x.f3, .slice A4 x.f4.length c4, .string x.f5]
theorem at_it {w W : World} {A : Option Addr} {n : Nat} {xs : List S35} (h : Kd.C k35 w A n xs) (hb : Below w.heap.size w W) (i : Nat) (h1 : i < n) :
    ∃ ad A4 c4, A = some ad ∧ W.cell? (ad.add (i * 6)) = some (.string (rd_T35 xs i).f0) ∧ W.cell? ⟨(ad.add (i * 6)).block, (ad.add (i * 6)).off + 1, none⟩ = some (.int .u8 (rd_T35 xs i).f1) ∧ W.cell? ⟨(ad.add (i * 6)).block, (ad.add (i * 6)).off + 2, none⟩ = some (.int .i64 (rd_T35 xs i).f2) ∧ W.cell? ⟨(ad.add (i * 6)).block, (ad.add (i * 6)).off + 3, none⟩ = some (.int .i64 (rd_T35 xs i).f3) ∧ W.cell? ⟨(ad.add (i * 6)).block, (ad.add (i * 6)).off + 4, none⟩ = some (.slice A4 (rd_T35 xs i).f4.length c4) ∧ W.cell? ⟨(ad.add (i * 6)).block, (ad.add (i * 6)).off + 5, none⟩ = some (.string (rd_T35 xs i).f5) ∧ (rd_T35 xs i).f4.length ≤ c4 ∧ (Kd.int .u8).C W A4 (rd_T35 xs i).f4.length (rd_T35 xs i).f4 := by
  obtain ⟨ad, A4, c4, e, h0, h1', h2, h3, h4, h5, hl, hr⟩ := at_T35 h (i : Int) (by omega) (by omega)
  rw [Int.toNat_natCast] at h0 h1' h2 h3 h4 h5
  have st : ∀ {a : Addr} {v : Value}, w.cell? a = some v → W.cell? a = some v := fun {a v} hv => (hb.cell (World.block_lt_of_cell? w _ hv)).trans hv
  exact ⟨ad, A4, c4, e, st h0, st h1', st h2, st h3, st h4, st h5, hl, Kd.C_below hr hb⟩
def idxP (p : S35 → Bool) (xs : List S35) : Nat → Int
  | k => if h : k < xs.length then (if p (rd_T35 xs k) then (k : Int) else idxP p xs (k + 1)) else -1
termination_by k => xs.length - k
theorem idxP_yes {p : S35 → Bool} {xs : List S35} {k : Nat} (h : k < xs.length) (hp : p (rd_T35 xs k) = true) : idxP p xs k = (k : Int) := by rw [idxP, dif_pos h, if_pos hp]
theorem idxP_no {p : S35 → Bool} {xs : List S35} {k : Nat} (h : k < xs.length) (hp : p (rd_T35 xs k) = false) : idxP p xs k = idxP p xs (k + 1) := by rw [idxP, dif_pos h, if_neg (by simp [hp])]
theorem idxP_end {p : S35 → Bool} {xs : List S35} {k : Nat} (h : xs.length ≤ k) : idxP p xs k = -1 := by rw [idxP, dif_neg (by omega)]
def Tells (g : Nat) (cap : Array Value) (p : S35 → Bool) (w : World) : Prop :=
  ∀ (W : World) (x : S35) (A4 : Option Addr) (c4 : Nat), Below w.heap.size w W → x.f4.length ≤ c4 → (Kd.int .u8).C W A4 x.f4.length x.f4 →
    Calls Try.prog g (#[.agg (cellsIt x A4 c4)] ++ cap) W fun e w' => e = .returned (.bool (p x)) ∧ Below W.heap.size W w'
set_option maxRecDepth 100000 in
set_option maxHeartbeats 1000000 in
theorem indexFunc_any (cap : Array Value) (p : S35 → Bool) (A : Option Addr) (c : Nat) (xs : List S35) (w : World) (hr : Kd.C k35 w A xs.length xs) (hm : xs.length ≤ 140737488355328) (hp : Tells 19 cap p w) :
    Calls Try.prog 18 #[.slice A xs.length c, .func (.func 19) #[] cap] w fun e w' => e = .returned (.int .i64 (idxP p xs 0)) ∧ Below w.heap.size w w' := by
  have HR := Aside0.mk hr
  have HP := Aside0.mk hp
  clear hr hp
  go_enter Try.func18, Try.ntmps18
  go_wp2
  go_loopw [8] (fun i wr => ∃ k : Nat, k ≤ xs.length ∧ i = .int .i64 k ∧ Hid (idxP p xs 0 = idxP p xs k) ∧ Aside0 (Below w.heap.size w wr)) (fun i _ => xs.length - (intOf i).toNat)
  case atStart => exact ⟨0, Nat.zero_le _, rfl, Lib.hid rfl, ⟨Below.refl _ _⟩⟩
  case round =>
    obtain ⟨k, hk, rfl, hi, hB⟩ := hrel
    by_cases hlt : k < xs.length
    · obtain ⟨ad, A4, c4, rfl, h0, h1, h2, h3, h4, h5, hl, hr4⟩ := at_it HR.out hB.out k hlt
      have HR4 := Aside0.mk hr4
      clear hr4
      have hB' := hB.out
      by_cases hpk : p (rd_T35 xs k) = true
      · have HI := Lib.hid (hi.out.trans (idxP_yes hlt hpk))
        have HK := Lib.hid hpk
        clear hi hpk
        go_wp2_with fail
        refine (HP.out wr _ A4 c4 hB.out hl HR4.out).mono ?_
        rw [HK.out]
        rintro e w1 ⟨rfl, hb⟩
        go_wp2
        go_ret
        exact ⟨by rw [HI.out]; rfl, hB'.trans (hb.mono hB'.size)⟩
      · have hpk' : p (rd_T35 xs k) = false := by simpa using hpk
        have HI := Lib.hid (hi.out.trans (idxP_no hlt hpk'))
        have HK := Lib.hid hpk'
        clear hi hpk hpk'
        go_wp2_with fail
        refine (HP.out wr _ A4 c4 hB.out hl HR4.out).mono ?_
        rw [HK.out]
        rintro e w1 ⟨rfl, hb⟩
        go_wp2
        go_roundw
        case rel => exact ⟨k + 1, by omega, by go_num, HI, ⟨hB'.trans (hb.mono hB'.size)⟩⟩
        case measure => simp [intOf]; omega
    · have HI := Lib.hid (hi.out.trans (idxP_end (by omega)))
      clear hi
      have hB' := hB.out
      go_wp2
      go_ret
      exact ⟨by rw [HI.out]; rfl, hB'⟩
theorem find1_tells (path : ByteArray) (B : Nat) (w : World) (hc : w.cell? ⟨B, 0, none⟩ = some (.string path)) : Tells 19 #[.pointer (some ⟨B, 0, none⟩)] (fun x => x.f0.toList == path.toList) w := by
  intro W x A4 c4 hB hl hr
  have hb := World.block_lt_of_cell? w _ hc
  have hc' := (hB.cell hb).trans hc
  have hbW : B < W.heap.size := Nat.lt_of_lt_of_le hb hB.size
  clear hc
  unfold cellsIt
  go_enter Try.func19, Try.ntmps19
  go_wp2
  go_ret
  exact ⟨rfl, (Below.refl _ _).alloc (Nat.le_refl _) _⟩
def findP (xs : List S35) (path : ByteArray) : Int × Int := if idxP (fun x => x.f0.toList == path.toList) xs 0 < 0 then (0, 4) else (idxP (fun x => x.f0.toList == path.toList) xs 0, 0)
theorem find_any (A : Option Addr) (c : Nat) (xs : List S35) (path : ByteArray) (w : World) (hr : Kd.C k35 w A xs.length xs) (hm : xs.length ≤ 140737488355328) :
    Calls Try.prog 6 #[.slice A xs.length c, .string path] w fun e w' => e = .returned (.tuple #[.int .i64 (findP xs path).1, .int .i64 (findP xs path).2]) ∧ Below w.heap.size w w' := by
  have HR := Aside0.mk hr
  clear hr
  have hB0 : Below w.heap.size w (w.alloc (.cells #[.string path] 9)) := (Below.refl _ w).alloc (Nat.le_refl _) _
  have hcell : (w.alloc (.cells #[.string path] 9)).cell? ⟨w.heap.size, 0, none⟩ = some (.string path) := (cell_new_l w (.string path) 9).1
  have HT := Aside0.mk (find1_tells path w.heap.size _ hcell)
  clear hcell
  go_enter Try.func6, Try.ntmps6
  go_wp2_with fail
  refine (indexFunc_any _ _ A c xs _ (Kd.C_below HR.out hB0) hm HT.out).mono ?_
  rintro e w1 ⟨rfl, hb⟩
  by_cases hn : idxP (fun x => x.f0.toList == path.toList) xs 0 < 0
  · have hd := decide_eq_true hn
    have HN := Lib.hid hn
    clear hn
    go_wp2
    go_ret2
    exact ⟨by unfold findP; rw [if_pos (by have := HN.out; omega)]; rfl, hB0.trans (hb.mono hB0.size)⟩
  · have hd := decide_eq_false hn
    have HN := Lib.hid hn
    clear hn
    go_wp2
    go_ret2
    exact ⟨by unfold findP; rw [if_neg (by have := HN.out; omega)]; rfl, hB0.trans (hb.mono hB0.size)⟩
end Go.Proofs.Ythpecpkncifngaa.X
namespace Go.Proofs.Ythpecpkncifngaa.X
open Go.RowKit Go.Shelf Go.Proofs.Ythpecpkncifngaa Go.Proofs.YthpecpkncifngaaW.PrintWords Go.Proofs.YthpecpkncifngaaW.PrintLast Go.Proofs.YthpecpkncifngaaW.PrintMore
theorem blk_after {w w1 : World} {o : Obj} (hb : Below (w.alloc o).heap.size (w.alloc o) w1) : w1.heap[w.heap.size]? = some o := (hb.block _ (by simp)).trans (blk_new w _)
theorem box_it {w w1 : World} (x : S35) (A4 : Option Addr) (c4 : Nat) (hb : Below (w.alloc (.cells (cellsIt x A4 c4) 35)).heap.size (w.alloc (.cells (cellsIt x A4 c4) 35)) w1) :
    w1.cell? ⟨w.heap.size, 0, none⟩ = some (.string x.f0) ∧ w1.cell? ⟨w.heap.size, 1, none⟩ = some (.int .u8 x.f1) ∧ w1.cell? ⟨w.heap.size, 2, none⟩ = some (.int .i64 x.f2) ∧ w1.cell? ⟨w.heap.size, 3, none⟩ = some (.int .i64 x.f3) ∧ w1.cell? ⟨w.heap.size, 4, none⟩ = some (.slice A4 x.f4.length c4) ∧ w1.cell? ⟨w.heap.size, 5, none⟩ = some (.string x.f5) ∧ w.heap.size < w1.heap.size := by
  have hz := hb.size
  rw [World.size_alloc] at hz
  have st : ∀ j v, (cellsIt x A4 c4)[j]? = some v → w1.cell? ⟨w.heap.size, j, none⟩ = some v := fun j v hv => (blk_cell (blk_after hb) j).trans hv
  exact ⟨st 0 _ rfl, st 1 _ rfl, st 2 _ rfl, st 3 _ rfl, st 4 _ rfl, st 5 _ rfl, hz⟩
end Go.Proofs.Ythpecpkncifngaa.X
namespace Go.Proofs.Ythpecpkncifngaa.X
open Go.RowKit Go.Shelf Go.Proofs.Ythpecpkncifngaa Go.Proofs.YthpecpkncifngaaW.PrintWords Go.Proofs.YthpecpkncifngaaW.PrintLast Go.Proofs.YthpecpkncifngaaW.PrintMore Go.Proofs.Ythpecpkncifngaa.Pure
theorem Ev.some_ {α : Type} {g : Nat → Option α} {r : α} (h : Ev g r) : ∃ k, g k = some r := h.imp fun K hK => hK K (Nat.le_refl _)
theorem compare_any (a b : ByteArray) (w : World) (ha : a.size ≤ 140737488355328) (hb : b.size ≤ 140737488355328) :
    Calls Try.prog 29 #[.string a, .string b] w fun e w' => e = .returned (.int .i64 (Nm.cmpL (Nm.texts a.data.toList) (Nm.texts b.data.toList))) ∧ ∃ n, w' = w.drewN n := by
  obtain ⟨k, hk⟩ := Ev.some_ (ncompare_l0 a.size a b (Nat.le_refl _) ha hb)
  refine (name_Compare.calls k a b _ w hk).mono ?_
  rintro e w' ⟨rfl, h⟩
  exact ⟨rfl, h.out⟩
section
variable {xs : List S35} {k : Nat}
end
end Go.Proofs.Ythpecpkncifngaa.X
namespace Go.Proofs.Ythpecpkncifngaa.X
open Go.RowKit Go.Shelf Go.Proofs.Ythpecpkncifngaa Go.Proofs.YthpecpkncifngaaW.PrintWords Go.Proofs.YthpecpkncifngaaW.PrintLast Go.Proofs.YthpecpkncifngaaW.PrintMore Go.Proofs.Ythpecpkncifngaa.Pure
theorem clip_bytes (A : Option Addr) (n c : Nat) (w : World) (hc : n ≤ c) (hn : c ≤ 9223372036854775807) :
    Calls Try.prog 34 #[.slice A n c] w fun e w' => e = .returned (.slice A n n) ∧ w' = w := by
  go_enter Try.func34, Try.ntmps34
  go_wp2
  go_ret
  exact ⟨rfl, rfl⟩
theorem clip_items (A : Option Addr) (n c : Nat) (w : World) (hc : n ≤ c) (hn : c ≤ 9223372036854775807) :
    Calls Try.prog 27 #[.slice A n c] w fun e w' => e = .returned (.slice A n n) ∧ w' = w := by
  go_enter Try.func27, Try.ntmps27
  go_wp2
  go_ret
  exact ⟨rfl, rfl⟩
theorem cells_grown {W w1 : World} {g t : Nat} {cs : Array Value} (h : W.heap[g]? = some (.cells cs t (0, 0))) (hg : W.grownBy w1 none) : w1.heap[g]? = some (.cells cs t (0, 0)) := blk_grown h hg (by simp)
set_option maxRecDepth 100000 in
set_option maxHeartbeats 4000000 in
theorem own_any (x : S35) (A4 : Option Addr) (c4 : Nat) (w : World) (hl : x.f4.length ≤ c4) (hm : x.f4.length ≤ 140737488355328) (hr : (Kd.int .u8).C w A4 x.f4.length x.f4) :
    Calls Try.prog 26 #[.agg (cellsIt x A4 c4)] w fun e w' => (∃ A, e = .returned (.agg (cellsIt x A x.f4.length)) ∧ Kd.F (Kd.int .u8) w' (fun k => w.heap.size ≤ k) A x.f4.length x.f4) ∧ Below w.heap.size w w' := by
  have HR := Aside0.mk hr
  clear hr
  unfold cellsIt
  go_enter Try.func26, Try.ntmps26
  go_wp2_with (refine Kd.R_append_rows (Kd.int .u8) (w0 := w) w.heap.size rfl _ _ 33 5 (.int .u8 0) 1 rfl Try.underlying33 info5 rfl (by decide) (by decide) (.slice none 0 0) [] x.f4 A4 x.f4.length c4 (fun k => w.heap.size + 2 ≤ k) (fun _ => False) rfl rfl (Kd.R_nil _ _ _ _ _) (Kd.C_below HR.out (((Below.refl _ w).alloc (Nat.le_refl _) _).alloc (by simp) _)) (fun _ _ h => h) (fun _ h => h.elim) (fun k h => by simp at h; omega) (((Below.refl _ w).alloc (Nat.le_refl _) _).alloc (by simp) _) (by simp; omega) (by simp; omega) ?_)
  intro v1 w1 hR hB hg hat
  obtain ⟨A, c, rfl, hc, hC⟩ := Kd.R_reads hR
  have hcm : c ≤ 9223372036854775807 := by
    obtain ⟨inner, ho⟩ := Kd.R_own hR
    rcases ho.2 with ⟨he, h0⟩ | ⟨g, cap, cur, he, _, _, _, hcm, _⟩
    · injection he with _ _ e3; omega
    · injection he with _ _ e3; unfold maxLen at hcm; omega
  have k0 : w1.heap[w.heap.size]? = some (.cells #[.string x.f0, .int .u8 x.f1, .int .i64 x.f2, .int .i64 x.f3, .slice A4 x.f4.length c4, .string x.f5] 35 (0, 0)) := by
    refine cells_grown ?_ hg
    exact ((Below.refl _ (w.alloc (.cells #[.string x.f0, .int .u8 x.f1, .int .i64 x.f2, .int .i64 x.f3, .slice A4 x.f4.length c4, .string x.f5] 35))).alloc (Nat.le_refl _) _).block w.heap.size (by simp) |>.trans (blk_new w _)
  have k1 : w1.heap[w.heap.size + 1]? = some (.cells #[.string ⟨#[]⟩, .int .u8 0, .int .i64 0, .int .i64 0, .slice none 0 0, .string ⟨#[]⟩] 35 (0, 0)) := by
    refine cells_grown ?_ hg
    have := blk_new (w.alloc (.cells #[.string x.f0, .int .u8 x.f1, .int .i64 x.f2, .int .i64 x.f3, .slice A4 x.f4.length c4, .string x.f5] 35)) (.cells #[.string ⟨#[]⟩, .int .u8 0, .int .i64 0, .int .i64 0, .slice none 0 0, .string ⟨#[]⟩] 35)
    rw [World.size_alloc] at this
    exact this
  have c00 := (blk_cell k0 0).trans rfl
  have c01 := (blk_cell k0 1).trans rfl
  have c02 := (blk_cell k0 2).trans rfl
  have c03 := (blk_cell k0 3).trans rfl
  have c04 := (blk_cell k0 4).trans rfl
  have c05 := (blk_cell k0 5).trans rfl
  have f04 := blk_frozen k0 4
  have c10 := (blk_cell k1 0).trans rfl
  have c11 := (blk_cell k1 1).trans rfl
  have c12 := (blk_cell k1 2).trans rfl
  have c13 := (blk_cell k1 3).trans rfl
  have c14 := (blk_cell k1 4).trans rfl
  have c15 := (blk_cell k1 5).trans rfl
  have f10 := blk_frozen k1 0
  have f11 := blk_frozen k1 1
  have f12 := blk_frozen k1 2
  have f13 := blk_frozen k1 3
  have f14 := blk_frozen k1 4
  have f15 := blk_frozen k1 5
  have HRR := Aside0.mk hR
  have HB := Aside0.mk hB
  have HG := Aside0.mk hg
  clear hR hB hg hat k0 k1 hC
  go_wp2_with fail
  refine (clip_bytes A x.f4.length c _ hc hcm).mono ?_
  rintro e w2 ⟨rfl, rfl⟩
  go_wp2
  have hF0 := Kd.R_F HRR.out
  have hok0 : ∀ k, w.heap.size + 2 ≤ k → ∀ j, k ≠ (⟨w.heap.size, j, none⟩ : Addr).block := fun k hk j => by simp; omega
  have hok1 : ∀ k, w.heap.size + 2 ≤ k → ∀ j, k ≠ (⟨w.heap.size + 1, j, none⟩ : Addr).block := fun k hk j => by simp; omega
  refine bodyPost_ret (v := .agg #[.string x.f0, .int .u8 x.f1, .int .i64 x.f2, .int .i64 x.f3, .slice A x.f4.length x.f4.length, .string x.f5]) (by simp [results, Try.results26, go_sem, c00, c01, c02, c03, c04, c05, c10, c11, c12, c13, c14, c15]) rfl ⟨⟨A, rfl, ?_⟩, ?_⟩
  · refine Kd.F_mono ?_ (fun k (hk : w.heap.size + 2 ≤ k) => (by omega : w.heap.size ≤ k))
    exact Kd.F_far (Kd.F_far (Kd.F_far (Kd.F_far (Kd.F_far (Kd.F_far (Kd.F_far (Kd.F_far hF0 (fun k hk => hok0 k hk 4) _) (fun k hk => hok0 k hk 4) _) (fun k hk => hok1 k hk 0) _) (fun k hk => hok1 k hk 1) _) (fun k hk => hok1 k hk 2) _) (fun k hk => hok1 k hk 3) _) (fun k hk => hok1 k hk 4) _) (fun k hk => hok1 k hk 5) _
  · exact below_set (below_set (below_set (below_set (below_set (below_set (below_set (below_set HB.out (Nat.le_refl _)) (Nat.le_refl _)) (Nat.le_succ _)) (Nat.le_succ _)) (Nat.le_succ _)) (Nat.le_succ _)) (Nat.le_succ _)) (Nat.le_succ _)
theorem N_cap {α : Type} {d : Kd α} {e : Nat} {w : World} {base : Nat} {ok : Nat → Prop} {v : Value} {xs : List α} (h : Kd.N d e w base ok v xs) : ∃ A c, v = .slice A xs.length c ∧ xs.length ≤ c ∧ c ≤ 9223372036854775807 := by
  obtain ⟨A, c, rfl, hc, _⟩ := Kd.N_reads h
  refine ⟨A, c, rfl, hc, ?_⟩
  obtain ⟨_, rows, _, hR, _⟩ := h
  obtain ⟨inner, ho⟩ := Kd.R_own hR
  rcases ho.2 with ⟨he, h0⟩ | ⟨g, cap, cur, he, _, _, _, hcm, _⟩
  · injection he with _ _ e3; omega
  · injection he with _ _ e3; unfold maxLen at hcm; omega
def keepP (p : S35 → Bool) (xs : List S35) : Nat → List S35
  | 0 => []
  | k + 1 => if p (rd_T35 xs k) then keepP p xs k ++ [rd_T35 xs k] else keepP p xs k
theorem keepP_len (p : S35 → Bool) (xs : List S35) (k : Nat) : (keepP p xs k).length ≤ k := by
  induction k with
  | zero => exact Nat.le_refl _
  | succ k ih =>
    simp only [keepP]
    split
    · rw [List.length_append, List.length_singleton]; omega
    · omega
set_option maxRecDepth 100000 in
set_option maxHeartbeats 4000000 in
theorem some_own (g : Nat) (cap : Array Value) (p : S35 → Bool) (A : Option Addr) (c : Nat) (xs : List S35) (w : World) (hr : Kd.C k35 w A xs.length xs) (hm : xs.length * 80 ≤ 140737488351232) (hb4 : ∀ x ∈ xs, x.f4.length ≤ 140737488355328)
    (hcall : ∀ (args : Array Value) (W : World), (callFunc g args).run Try.prog W = .ok (.enter g args) W) (hp : Tells g cap p w) :
    Calls Try.prog 14 #[.slice A xs.length c, .func (.func g) #[] cap] w fun e w' => (∃ A' c', e = .returned (.slice A' (keepP p xs xs.length).length (keepP p xs xs.length).length) ∧ Kd.N k35 35 w' w.heap.size (fun k => w.heap.size ≤ k) (.slice A' (keepP p xs xs.length).length c') (keepP p xs xs.length)) ∧ Below w.heap.size w w' := by
  have HR := Aside0.mk hr
  have HP := Aside0.mk hp
  have H4 := Aside0.mk hb4
  clear hr hp hb4
  go_enter Try.func14, Try.ntmps14
  go_wp2
  go_loopw [5, 10] (fun v i wr => ∃ k : Nat, k ≤ xs.length ∧ i = .int .i64 k ∧ Aside0 (Below w.heap.size w wr) ∧ Aside0 (Kd.N k35 35 wr w.heap.size (fun k => w.heap.size ≤ k) v (keepP p xs k))) (fun _ i _ => xs.length - (intOf i).toNat)
  case atStart => exact ⟨0, Nat.zero_le _, rfl, ⟨Below.refl _ _⟩, ⟨Kd.N_nil _ _ _ _ _⟩⟩
  case round =>
    obtain ⟨k, hk, rfl, hB, hN⟩ := hrel
    by_cases hlt : k < xs.length
    · obtain ⟨ad, A4, c4, rfl, h0, h1, h2, h3, h4, h5, hl, hr4⟩ := at_it HR.out hB.out k hlt
      have HR4 := Aside0.mk hr4
      clear hr4
      go_wp2_with fail
      refine (HP.out _ (rd_T35 xs k) A4 c4 (hB.out.trans (((Below.refl _ wr).alloc (Nat.le_refl _) _).mono hB.out.size)) hl (Kd.C_below HR4.out ((Below.refl _ _).alloc (Nat.le_refl _) _))).mono ?_
      rintro e w1 ⟨rfl, hb⟩
      obtain ⟨a0, a1, a2, a3, a4, a5, az⟩ := box_it (rd_T35 xs k) A4 c4 hb
      have hbw := ((Below.refl _ wr).alloc (Nat.le_refl _) (.cells (cellsIt (rd_T35 xs k) A4 c4) 35)).trans (hb.mono (by simp))
      have HB1 := Aside0.mk (hB.out.trans (hbw.mono hB.out.size))
      have HBW := Aside0.mk hbw
      have HN1 := Aside0.mk (Kd.N_below hN.out hbw)
      clear hb hbw h0 h1 h2 h3 h4 h5
      by_cases hpk : p (rd_T35 xs k) = true
      · have HK := Lib.hid hpk
        have HS := Lib.hid (show keepP p xs (k + 1) = keepP p xs k ++ [rd_T35 xs k] by rw [keepP, if_pos hpk])
        rw [hpk]
        clear hpk
        have hm4 : (rd_T35 xs k).f4.length ≤ 140737488355328 := H4.out _ (by unfold rd_T35; rw [Int.toNat_natCast, List.getD_eq_getElem?_getD, List.getElem?_eq_getElem hlt]; exact List.getElem_mem hlt)
        go_wp2_with fail
        refine (own_any (rd_T35 xs k) A4 c4 _ hl hm4 (Kd.C_below HR4.out HBW.out)).mono ?_
        rintro e w2 ⟨⟨A', rfl, hF⟩, hb2⟩
        unfold cellsIt
        have HF := Aside0.mk hF
        have HN2 := Aside0.mk (Kd.N_below HN1.out hb2)
        have HB2 := Aside0.mk (HB1.out.trans (hb2.mono HB1.out.size))
        have hlt1 := HBW.out.size
        have hkl := keepP_len p xs k
        clear hF hb2 a0 a1 a2 a3 a4 a5
        go_wp2_with ((with_reducible refine gate_builtin (b := .append) (xs := #[.tmp 17, .tmp 20]) rfl ?_); at_builtin; refine Kd.N_append k35 (w0 := w) w.heap.size rfl (.tmp 17) (.tmp 20) 22 35 (.agg #[.string ⟨#[]⟩, .int .u8 0, .int .i64 0, .int .i64 0, .slice none 0 0, .string ⟨#[]⟩]) 80 rfl Try.underlying22 info35 rfl (by decide) (by decide) _ (keepP p xs k) (rd_T35 xs k) [.string (rd_T35 xs k).f0, .int .u8 (rd_T35 xs k).f1, .int .i64 (rd_T35 xs k).f2, .int .i64 (rd_T35 xs k).f3, .slice A' (rd_T35 xs k).f4.length (rd_T35 xs k).f4.length, .string (rd_T35 xs k).f5] (fun k_ => w.heap.size ≤ k_) (fun k_ => w1.heap.size ≤ k_) rfl rfl (k35_mkF _ _ _ (Nat.le_refl _) HF.out) (fun k_ h => ⟨Nat.le_trans HB1.out.size h, fun e => by have := Kd.N_lt HN1.out k_ e.symm; omega⟩) (fun k_ h => Nat.le_trans HB2.out.size h) HN2.out HB2.out HB2.out.size (by omega) ?_)
        intro v1 w3 hN3 hB3 hg hat
        rw [← HS.out] at hN3
        have HN3 := Aside0.mk hN3
        have HB3 := Aside0.mk hB3
        clear hN3 hB3 hg hat hlt1 hkl
        go_wp2
        go_roundw
        case rel => exact ⟨k + 1, by omega, by go_num, HB3, HN3⟩
        case measure => simp [intOf]; omega
      · have hpk' : p (rd_T35 xs k) = false := by simpa using hpk
        have HS := Lib.hid (show keepP p xs (k + 1) = keepP p xs k by rw [keepP, if_neg hpk])
        rw [hpk']
        clear hpk hpk'
        have hN3 := HN1.out
        rw [← HS.out] at hN3
        have HN3 := Aside0.mk hN3
        clear hN3 a0 a1 a2 a3 a4 a5
        go_wp2
        go_roundw
        case rel => exact ⟨k + 1, by omega, by go_num, HB1, HN3⟩
        case measure => simp [intOf]; omega
    · obtain rfl : k = xs.length := by omega
      obtain ⟨A', c', rfl, hc', hcm'⟩ := N_cap hN.out
      go_wp2_with fail
      refine (clip_items A' (keepP p xs xs.length).length c' _ hc' hcm').mono ?_
      rintro e w2 ⟨rfl, rfl⟩
      go_wp2
      go_ret
      exact ⟨⟨_, _, rfl, hN.out⟩, hB.out⟩
theorem some_clip (g : Nat) (cap : Array Value) (p : S35 → Bool) (A : Option Addr) (c : Nat) (xs : List S35) (w : World) (hr : Kd.C k35 w A xs.length xs) (hm : xs.length * 80 ≤ 140737488351232) (hb4 : ∀ x ∈ xs, x.f4.length ≤ 140737488355328)
    (hcall : ∀ (args : Array Value) (W : World), (callFunc g args).run Try.prog W = .ok (.enter g args) W) (hp : Tells g cap p w) :
    Calls Try.prog 14 #[.slice A xs.length c, .func (.func g) #[] cap] w fun e w' => (∃ A', e = .returned (.slice A' (keepP p xs xs.length).length (keepP p xs xs.length).length) ∧ Kd.V k35 35 w' w.heap.size (fun k => w.heap.size ≤ k) (.slice A' (keepP p xs xs.length).length (keepP p xs xs.length).length) (keepP p xs xs.length)) ∧ Below w.heap.size w w' := by
  refine (some_own g cap p A c xs w hr hm hb4 hcall hp).mono ?_
  rintro e w1 ⟨⟨A', c', rfl, hN⟩, hb⟩
  exact ⟨⟨_, rfl, Kd.V_mk (Nat.le_refl _) (Kd.N_F hN)⟩, hb⟩
theorem some_any (g : Nat) (cap : Array Value) (p : S35 → Bool) (A : Option Addr) (c : Nat) (xs : List S35) (w : World) (hr : Kd.C k35 w A xs.length xs) (hm : xs.length * 80 ≤ 140737488351232) (hb4 : ∀ x ∈ xs, x.f4.length ≤ 140737488355328)
    (hcall : ∀ (args : Array Value) (W : World), (callFunc g args).run Try.prog W = .ok (.enter g args) W) (hp : Tells g cap p w) :
    Calls Try.prog 14 #[.slice A xs.length c, .func (.func g) #[] cap] w fun e w' => (∃ v, e = .returned v ∧ Kd.V k35 35 w' w.heap.size (fun k => w.heap.size ≤ k) v (keepP p xs xs.length)) ∧ Below w.heap.size w w' := by
  refine (some_clip g cap p A c xs w hr hm hb4 hcall hp).mono ?_
  rintro e w1 ⟨⟨A', rfl, hV⟩, hb⟩
  exact ⟨⟨_, rfl, hV⟩, hb⟩
end Go.Proofs.Ythpecpkncifngaa.X
namespace Go.Proofs.Ythpecpkncifngaa.X
open Go.RowKit Go.Shelf Go.Proofs.Ythpecpkncifngaa Go.Proofs.YthpecpkncifngaaW.PrintWords Go.Proofs.YthpecpkncifngaaW.PrintLast Go.Proofs.YthpecpkncifngaaW.PrintMore Go.Proofs.Ythpecpkncifngaa.Pure
theorem ben_any (a p : ByteArray) (w : World) :
    Calls Try.prog 21 #[.string a, .string p] w fun e w' => e = .returned (.bool (ben a.data.toList p.data.toList)) ∧ Below w.heap.size w w' :=
  name_Beneath.calls a p _ w (nbeneath a p)
theorem beneath1_tells (root : ByteArray) (B : Nat) (w : World) (hc : w.cell? ⟨B, 0, none⟩ = some (.string root)) : Tells 20 #[.pointer (some ⟨B, 0, none⟩)] (fun x => ben root.data.toList x.f0.data.toList) w := by
  intro W x A4 c4 hB hl hr
  have hb := World.block_lt_of_cell? w _ hc
  have hc' := (hB.cell hb).trans hc
  have hbW : B < W.heap.size := Nat.lt_of_lt_of_le hb hB.size
  clear hc
  unfold cellsIt
  go_enter Try.func20, Try.ntmps20
  go_wp2_with fail
  refine (ben_any _ _ _).mono ?_
  rintro e w1 ⟨rfl, h1⟩
  go_wp2
  go_ret
  exact ⟨rfl, ((Below.refl _ W).alloc (Nat.le_refl _) _).trans (h1.mono (by simp))⟩
noncomputable def beneathP (xs : List S35) (root : ByteArray) : List S35 := keepP (fun x => ben root.data.toList x.f0.data.toList) xs xs.length
theorem tree_beneath (A : Option Addr) (c : Nat) (xs : List S35) (root : ByteArray) (w : World) (hr : Kd.C k35 w A xs.length xs) (hm : xs.length * 80 ≤ 140737488351232) (hb4 : ∀ x ∈ xs, x.f4.length ≤ 140737488355328) :
    Calls Try.prog 7 #[.slice A xs.length c, .string root] w fun e w' => (∃ v, e = .returned v ∧ Kd.V k35 35 w' w.heap.size (fun k => w.heap.size ≤ k) v (beneathP xs root)) ∧ Below w.heap.size w w' := by
  have HR := Aside0.mk hr
  clear hr
  have hB0 : Below w.heap.size w (w.alloc (.cells #[.string root] 9)) := (Below.refl _ w).alloc (Nat.le_refl _) _
  have hcell : (w.alloc (.cells #[.string root] 9)).cell? ⟨w.heap.size, 0, none⟩ = some (.string root) := (cell_new_l w (.string root) 9).1
  have HT := Aside0.mk (beneath1_tells root w.heap.size _ hcell)
  clear hcell
  go_enter Try.func7, Try.ntmps7
  go_wp2_with fail
  refine (some_any 20 _ _ A c xs _ (Kd.C_below HR.out hB0) hm hb4 (fun args W => by kernel_rfl) HT.out).mono ?_
  rintro e w1 ⟨⟨v, rfl, hV⟩, hb⟩
  have HV := Aside0.mk hV
  clear hV
  go_wp2
  go_ret
  exact ⟨⟨_, rfl, Kd.V_mono HV.out (fun k h => Nat.le_trans hB0.size h)⟩, hB0.trans (hb.mono hB0.size)⟩
end Go.Proofs.Ythpecpkncifngaa.X
namespace Go.Proofs.Ythpecpkncifngaa.X
open Go Go.RowKit Go.Shelf Go.Proofs.Ythpecpkncifngaa Go.Proofs.YthpecpkncifngaaW.PrintWords Go.Proofs.YthpecpkncifngaaW.PrintLast Go.Proofs.YthpecpkncifngaaW.PrintMore Go.Proofs.Ythpecpkncifngaa.Pure
def cmpI (x y : S35) : Int := Nm.cmpL (Nm.texts x.f0.data.toList) (Nm.texts y.f0.data.toList)
theorem rd_get (xs : List S35) (k : Nat) (h : k < xs.length) : rd_T35 xs k = xs[k] := by
  unfold rd_T35
  rw [Int.toNat_natCast, List.getD_eq_getElem?_getD, List.getElem?_eq_getElem h]; rfl
end Go.Proofs.Ythpecpkncifngaa.X
namespace Go.Proofs.Ythpecpkncifngaa.X
open Go Go.RowKit Go.Shelf Go.Proofs.Ythpecpkncifngaa Go.Proofs.YthpecpkncifngaaW.PrintWords Go.Proofs.YthpecpkncifngaaW.PrintLast Go.Proofs.YthpecpkncifngaaW.PrintMore Go.Proofs.Ythpecpkncifngaa.Pure
theorem keepP_filter (p : S35 → Bool) (xs : List S35) : ∀ k, k ≤ xs.length → keepP p xs k = (xs.take k).filter p
  | 0, _ => rfl
  | k + 1, h => by
    have ih := keepP_filter p xs k (by omega)
    rw [keepP, rd_get xs k (by omega), List.take_add_one, List.getElem?_eq_getElem (by omega), List.filter_append, ih]
    by_cases hp : p xs[k] = true
    · rw [if_pos hp]; simp [hp]
    · rw [if_neg hp]; simp [hp]
theorem keepP_all (p : S35 → Bool) (xs : List S35) : keepP p xs xs.length = xs.filter p := by
  rw [keepP_filter p xs _ (Nat.le_refl _), List.take_length]
end Go.Proofs.Ythpecpkncifngaa.X
namespace Go.Proofs.Ythpecpkncifngaa.X
open Go.RowKit Go.Shelf Go.Proofs.Ythpecpkncifngaa Go.Proofs.YthpecpkncifngaaW.PrintWords Go.Proofs.YthpecpkncifngaaW.PrintLast Go.Proofs.YthpecpkncifngaaW.PrintMore Go.Proofs.Ythpecpkncifngaa.Pure
theorem rd_drop (xs : List S35) (i : Nat) (h : i < xs.length) : xs.drop i = rd_T35 xs i :: xs.drop (i + 1) := by
  rw [List.drop_eq_getElem_cons h]
  congr 1
  unfold rd_T35
  rw [Int.toNat_natCast, List.getD_eq_getElem?_getD, List.getElem?_eq_getElem h]
  rfl
end Go.Proofs.Ythpecpkncifngaa.X
namespace Go.Proofs.Ythpecpkncifngaa.X
open Go.RowKit Go.Shelf Go.Proofs.Ythpecpkncifngaa Go.Proofs.YthpecpkncifngaaW.PrintWords Go.Proofs.YthpecpkncifngaaW.PrintLast Go.Proofs.YthpecpkncifngaaW.PrintMore Go.Proofs.Ythpecpkncifngaa.Pure
noncomputable def place (out : List S35) (x : S35) : Nat → Nat
  | 0 => 0
  | n + 1 => if cmpI (rd_T35 out n) x = 1 then place out x n else n + 1
theorem place_le (out : List S35) (x : S35) : ∀ n, place out x n ≤ n
  | 0 => Nat.le_refl _
  | n + 1 => by rw [place]; split; exact Nat.le_succ_of_le (place_le out x n); exact Nat.le_refl _
noncomputable def insS (out : List S35) (x : S35) : List S35 := out.take (place out x out.length) ++ [x] ++ out.drop (place out x out.length)
noncomputable def sortP (xs : List S35) : List S35 := xs.foldl insS []
theorem insS_len (out : List S35) (x : S35) : (insS out x).length = out.length + 1 := by
  unfold insS
  have := place_le out x out.length
  simp
  omega
theorem it_eta (x : S35) : (⟨x.f0, x.f1, x.f2, x.f3, x.f4, x.f5⟩ : S35) = x := by cases x; rfl
theorem sort_l1 (xs out : List S35) (i : Nat) (hi : i < xs.length) (ho : out.length ≤ 1099511627776) (hs : ∀ k : Nat, k < xs.length → (rd_T35 xs k).f0.size ≤ 1099511627776) (hso : ∀ k : Nat, k < out.length → (rd_T35 out k).f0.size ≤ 1099511627776) (R : List S35) (n : Nat) : n ≤ out.length →
    Ev (fun k => tabularyref11_Sort.l0 k xs (out.take (place out (rd_T35 xs i) n) ++ [rd_T35 xs i] ++ out.drop (place out (rd_T35 xs i) n)) (wrap64 ((i : Int) + 1))) R →
    Ev (fun k => tabularyref11_Sort.l1 k xs out (i : Int) (n : Int)) R := by
  induction n with
  | zero =>
    intro hn h
    simp only [place] at h
    refine Ev.step (fun k => ?_) h
    simp only [tabularyref11_Sort.l1, Option.bind_some]
    rw [if_neg (by omega), if_pos (by omega), if_pos (by omega), if_pos (by simp), if_pos (by omega), if_pos (by omega), if_pos (by simp), if_pos (by simp; omega), it_eta]
    simp
  | succ n ih =>
    intro hn h
    have hw : wrap64 (((n + 1 : Nat) : Int) - 1) = (n : Int) := by rw [show ((n + 1 : Nat) : Int) - 1 = ((n : Nat) : Int) by omega]; exact wrap_nat (by omega)
    by_cases hc : cmpI (rd_T35 out n) (rd_T35 xs i) = 1
    · rw [place, if_pos hc] at h
      refine Ev.step (fun k => by simp only [tabularyref11_Sort.l1]; rw [if_pos (by omega), hw, if_pos (by omega), if_pos (by omega), if_pos (by omega), if_pos (by omega)]) (Ev.bind (refcompare_ev _ _ (hso n (by omega)) (hs i hi)) (Ev.congr (fun k => if_pos hc) (ih (by omega) h)))
    · rw [place, if_neg hc] at h
      refine Ev.step (fun k => by simp only [tabularyref11_Sort.l1]; rw [if_pos (by omega), hw, if_pos (by omega), if_pos (by omega), if_pos (by omega), if_pos (by omega)]) (Ev.bind (refcompare_ev _ _ (hso n (by omega)) (hs i hi)) (Ev.congr (fun k => ?_) h))
      simp only [Option.bind_some]
      refine (if_neg hc).trans ?_
      rw [if_pos (by omega), if_pos (by omega), if_pos (by simp; omega), if_pos (by simp; omega), if_pos (by simp; omega), it_eta]
      simp
theorem insS_size {out : List S35} {x : S35} {B : Nat} (h : ∀ z ∈ out, z.f0.size ≤ B) (hx : x.f0.size ≤ B) : ∀ z ∈ insS out x, z.f0.size ≤ B := by
  intro z hz
  unfold insS at hz
  rw [List.mem_append, List.mem_append, List.mem_singleton] at hz
  rcases hz with (hz | rfl) | hz
  · exact h z (List.mem_of_mem_take hz)
  · exact hx
  · exact h z (List.mem_of_mem_drop hz)
theorem sort_l0 (xs : List S35) (hm : xs.length ≤ 1099511627775) (hs : ∀ x ∈ xs, x.f0.size ≤ 1099511627776) (d : Nat) : ∀ (i : Nat) (out : List S35), i ≤ xs.length → xs.length - i = d → out.length ≤ i → (∀ z ∈ out, z.f0.size ≤ 1099511627776) →
    Ev (fun k => tabularyref11_Sort.l0 k xs out (i : Int)) ((xs.drop i).foldl insS out) := by
  induction d with
  | zero =>
    intro i out hi hd ho hz
    obtain rfl : i = xs.length := by omega
    rw [List.drop_length]
    exact Ev.step (fun k => by simp only [tabularyref11_Sort.l0]; rw [if_neg (by omega)]; rfl) (Ev.now _)
  | succ d ih =>
    intro i out hi hd ho hz
    have hlt : i < xs.length := by omega
    have hx : (rd_T35 xs i).f0.size ≤ 1099511627776 := by rw [rd_get xs i hlt]; exact hs _ (List.getElem_mem hlt)
    rw [rd_drop xs i hlt, List.foldl_cons]
    refine Ev.step (fun k => by simp only [tabularyref11_Sort.l0]; rw [if_pos (by omega)]) (sort_l1 xs out i hlt (by omega) (fun k hk => by rw [rd_get xs k hk]; exact hs _ (List.getElem_mem hk)) (fun k hk => by rw [rd_get out k hk]; exact hz _ (List.getElem_mem hk)) _ out.length (Nat.le_refl _) ?_)
    exact Ev.congr (fun k => by rw [wrap_succ (by omega)]; rfl) (ih (i + 1) (insS out (rd_T35 xs i)) (by omega) (by omega) (by rw [insS_len]; omega) (insS_size hz hx))
theorem sort_ev (xs : List S35) (hm : xs.length ≤ 1099511627775) (hs : ∀ x ∈ xs, x.f0.size ≤ 1099511627776) : Ev (fun k => tabularyref11_Sort.f k xs) (sortP xs) :=
  Ev.congr (fun k => rfl) (sort_l0 xs hm hs _ 0 [] (Nat.zero_le _) rfl (Nat.le_refl _) (fun z hz => by cases hz))
end Go.Proofs.Ythpecpkncifngaa.X
namespace Go.Proofs.Ythpecpkncifngaa.X
open Go.RowKit Go.Shelf Go.Proofs.Ythpecpkncifngaa Go.Proofs.YthpecpkncifngaaW.PrintWords Go.Proofs.YthpecpkncifngaaW.PrintLast Go.Proofs.YthpecpkncifngaaW.PrintMore Go.Proofs.Ythpecpkncifngaa.Pure
theorem place_behind (out : List S35) (x : S35) : ∀ n : Nat, ∀ t : Nat, place out x n ≤ t → t < n → cmpI (rd_T35 out t) x = 1
  | 0, _, _, h => by omega
  | n + 1, t, h1, h2 => by
    rw [place] at h1
    by_cases hc : cmpI (rd_T35 out n) x = 1
    · rw [if_pos hc] at h1
      rcases Nat.lt_succ_iff_lt_or_eq.1 h2 with h | rfl
      · exact place_behind out x n t h1 h
      · exact hc
    · rw [if_neg hc] at h1; omega
theorem place_ahead (out : List S35) (x : S35) : ∀ n m : Nat, place out x n = m + 1 → cmpI (rd_T35 out m) x ≠ 1
  | 0, m, h => by simp [place] at h
  | n + 1, m, h => by
    rw [place] at h
    by_cases hc : cmpI (rd_T35 out n) x = 1
    · rw [if_pos hc] at h; exact place_ahead out x n m h
    · rw [if_neg hc] at h
      obtain rfl : n = m := by omega
      exact hc
end Go.Proofs.Ythpecpkncifngaa.X
namespace Go.Proofs.Ythpecpkncifngaa.X
open Go.RowKit Go.Shelf Go.Proofs.Ythpecpkncifngaa Go.Proofs.YthpecpkncifngaaW.PrintWords Go.Proofs.YthpecpkncifngaaW.PrintLast Go.Proofs.YthpecpkncifngaaW.PrintMore Go.Proofs.Ythpecpkncifngaa.Pure
def markS : ByteArray := ⟨#[109, 97, 114, 107]⟩
def kLK (w : World) (x : Option S35) (cs : List Value) : Prop :=
  match x with
  | some x => ∃ ad c4, cs = [.string x.f0, .int .u8 x.f1, .int .i64 x.f2, .int .i64 x.f3, .slice (some ad) x.f4.length c4, .string x.f5] ∧ x.f4.length + 1 ≤ c4 ∧ c4 ≤ 9223372036854775807 ∧ (Kd.int .u8).C w (some ad) x.f4.length x.f4 ∧ w.cell? (ad.add x.f4.length) = some (.int .u8 201)
  | none => cs = [.string markS, .int .u8 0, .int .i64 0, .int .i64 0, .slice none 0 0, .string ⟨#[]⟩]
def kL : Kd (Option S35) where
  sz := 6
  E := [5]
  K := kLK
  M := fun _ _ _ _ _ => False
  K_len := by
    intro w x cs h
    cases x with
    | none => rw [show cs = _ from h]; rfl
    | some x => obtain ⟨ad, c4, rfl, _⟩ := h; rfl
  K_one := by
    intro w x cs h u hu
    cases x with
    | none =>
      rw [show cs = _ from h] at hu
      simp only [List.mem_cons, List.not_mem_nil, or_false] at hu
      rcases hu with rfl | rfl | rfl | rfl | rfl | rfl <;> rfl
    | some x =>
      obtain ⟨ad, c4, rfl, _⟩ := h
      simp only [List.mem_cons, List.not_mem_nil, or_false] at hu
      rcases hu with rfl | rfl | rfl | rfl | rfl | rfl <;> rfl
  K_below := by
    intro w w1 x cs hb h
    cases x with
    | none => exact h
    | some x =>
      obtain ⟨ad, c4, e, h1, h2, h3, h4⟩ := h
      exact ⟨ad, c4, e, h1, h2, Kd.C_below h3 hb, (hb.cell (World.block_lt_of_cell? w _ h4)).trans h4⟩
  K_of_M := fun h => h.elim
  M_mono := fun _ h => h
  M_bound := fun h => h
  M_move := fun _ h => h
  M_lower := fun _ h => h
theorem kL_k {w : World} {x : S35} {cs : List Value} (h : kL.K w (some x) cs) : k35.K w x cs := by
  obtain ⟨ad, c4, rfl, h1, h2, h3, h4⟩ := h
  exact k35_mk w x (by omega) h3
theorem lent_reads {w : World} {A : Option Addr} {xs : List S35} (h : kL.C w A (xs.length + 1) (xs.map some ++ [none])) : k35.C w A xs.length xs := by
  refine ⟨rfl, by have := Kd.C_max h; omega, fun h0 => ?_⟩
  obtain ⟨ad, e, hr⟩ := h.2.2 (by omega)
  refine ⟨ad, e, fun j x hj => ?_⟩
  obtain ⟨c, hl, hk, hc⟩ := hr j (some x) (by rw [List.getElem?_append_left (by rw [List.length_map]; exact (List.getElem?_eq_some_iff.1 hj).1), List.getElem?_map, hj]; rfl)
  exact ⟨c, hl, kL_k hk, hc⟩
theorem C_snoc {w : World} {ad : Addr} {l : List Int} {v : Int} (h : (Kd.int .u8).C w (some ad) (l ++ [v]).length (l ++ [v])) : (Kd.int .u8).C w (some ad) l.length l ∧ w.cell? (ad.add l.length) = some (.int .u8 v) := by
  have hl : (l ++ [v]).length = l.length + 1 := by simp
  constructor
  · have := Kd.C_take h (m := l.length) (by omega)
    rw [List.take_left] at this
    exact this
  · obtain ⟨ad', cs, e, _, hk, hcell⟩ := Kd.C_get h 0 (l.length : Int) (by omega) (by omega)
    obtain rfl := Option.some.inj e
    have hK : cs = [.int .u8 ((l ++ [v]).getD ((l.length : Int)).toNat 0)] := hk
    subst hK
    have := hcell 0 _ rfl
    rw [Int.toNat_natCast, show l.length * (Kd.int .u8).sz + 0 = l.length by show l.length * 1 + 0 = _; omega] at this
    simpa using this
theorem cut_own {w : World} {base e : Nat} {v : Value} {n m : Nat} {xs : List Value} (h : w.ownsRow base e 1 v (n + 1) xs) : ∃ g cap, v = .slice (some ⟨g, 0, none⟩) (n + 1) cap ∧ n + 1 ≤ cap ∧ cap ≤ 9223372036854775807 := by
  rcases h.2 with ⟨_, h0⟩ | ⟨g, cap, cur, he, _, _, h1, h2, _⟩
  · omega
  · exact ⟨g, cap, he, h1, by unfold maxLen at h2; omega⟩
set_option maxRecDepth 100000 in
set_option maxHeartbeats 4000000 in
theorem lent_any (A : Option Addr) (c : Nat) (xs : List S35) (w : World) (hr : Kd.C k35 w A xs.length xs) (hm : xs.length * 80 ≤ 140737488351232) (hb4 : ∀ x ∈ xs, x.f4.length ≤ 140737488351232) :
    Calls Try.prog 4 #[.slice A xs.length c] w fun e w' => (∃ A' c', e = .returned (.slice A' xs.length c') ∧ xs.length + 1 ≤ c' ∧ c' ≤ 9223372036854775807 ∧ kL.C w' A' (xs.length + 1) (xs.map some ++ [none])) ∧ Below w.heap.size w w' := by
  have HR := Aside0.mk hr
  have H4 := Aside0.mk hb4
  clear hr hb4
  go_enter Try.func4, Try.ntmps4
  go_wp2
  go_loopw [3, 4] (fun v i wr => ∃ k : Nat, k ≤ xs.length ∧ i = .int .i64 k ∧ Aside0 (Below w.heap.size w wr) ∧ Aside0 (Kd.N kL 35 wr w.heap.size (fun k => w.heap.size ≤ k) v ((xs.map some).take k))) (fun _ i _ => xs.length - (intOf i).toNat)
  case atStart => exact ⟨0, Nat.zero_le _, rfl, ⟨Below.refl _ _⟩, ⟨Kd.N_nil _ _ _ _ _⟩⟩
  case round =>
    obtain ⟨k, hk, rfl, hB, hN⟩ := hrel
    by_cases hlt : k < xs.length
    · obtain ⟨ad, A4, c4, rfl, h0, h1, h2, h3, h4, h5, hl, hr4⟩ := at_it HR.out hB.out k hlt
      have HR4 := Aside0.mk hr4
      have hm4 : (rd_T35 xs k).f4.length ≤ 140737488351232 := H4.out _ (by unfold rd_T35; rw [Int.toNat_natCast, List.getD_eq_getElem?_getD, List.getElem?_eq_getElem hlt]; exact List.getElem_mem hlt)
      clear hr4
      go_wp2_with ((with_reducible refine gate_builtin (b := .append) (xs := #[.tmp 21, .tmp 23]) rfl ?_); at_builtin; refine Kd.R_append_rows (Kd.int .u8) (w0 := wr) wr.heap.size rfl (.tmp 21) (.tmp 23) 33 5 (.int .u8 0) 1 rfl Try.underlying33 info5 rfl (by decide) (by decide) (.slice none 0 0) [] (rd_T35 xs k).f4 A4 (rd_T35 xs k).f4.length c4 (fun k => wr.heap.size + 1 ≤ k) (fun _ => False) rfl rfl (Kd.R_nil _ _ _ _ _) (Kd.C_below HR4.out ((Below.refl _ wr).alloc (Nat.le_refl _) _)) (fun _ _ h => h) (fun _ h => h.elim) (fun k h => by simp at h; omega) ((Below.refl _ wr).alloc (Nat.le_refl _) _) (by simp) (by simp; omega) ?_)
      intro v1 w1 hR1 hB1 hg1 hat1
      have k0 : w1.heap[wr.heap.size]? = some (.cells #[.string (rd_T35 xs k).f0, .int .u8 (rd_T35 xs k).f1, .int .i64 (rd_T35 xs k).f2, .int .i64 (rd_T35 xs k).f3, .slice A4 (rd_T35 xs k).f4.length c4, .string (rd_T35 xs k).f5] 35 (0, 0)) := cells_grown (blk_new wr _) hg1
      have HR1 := Aside0.mk hR1
      have HB1 := Aside0.mk hB1
      have K0 := Aside0.mk k0
      have hz1 : wr.heap.size < w1.heap.size := blk_lt k0
      clear hR1 hB1 hg1 hat1 k0 h0 h1 h2 h3 h4 h5
      go_wp2_with ((with_reducible refine gate_builtin (b := .append) (xs := #[.tmp 25, .tmp 26]) rfl ?_); at_builtin; refine Kd.R_append (Kd.int .u8) (w0 := wr) wr.heap.size rfl (.tmp 25) (.tmp 26) 33 5 (.int .u8 0) 1 rfl Try.underlying33 info5 rfl (by decide) (by decide) v1 (rd_T35 xs k).f4 201 [.int .u8 201] (fun k => wr.heap.size + 1 ≤ k) (fun _ => False) rfl rfl rfl (fun _ h => h.elim) (fun k h => by omega) HR1.out HB1.out HB1.out.size (by omega) ?_)
      intro v2 w2 hR2 hB2 hg2 hat2
      have k2 : w2.heap[wr.heap.size]? = some (.cells #[.string (rd_T35 xs k).f0, .int .u8 (rd_T35 xs k).f1, .int .i64 (rd_T35 xs k).f2, .int .i64 (rd_T35 xs k).f3, .slice A4 (rd_T35 xs k).f4.length c4, .string (rd_T35 xs k).f5] 35 (0, 0)) := blk_grown K0.out hg2 (fun e => by have : wr.heap.size + 1 ≤ wr.heap.size := HR1.out.1 _ e.symm; omega)
      have hl2 : ((rd_T35 xs k).f4 ++ [(201 : Int)]).length = (rd_T35 xs k).f4.length + 1 := by simp
      obtain ⟨g, cap, hv2, hcap, hcap2⟩ : ∃ g cap, v2 = .slice (some ⟨g, 0, none⟩) ((rd_T35 xs k).f4.length + 1) cap ∧ (rd_T35 xs k).f4.length + 1 ≤ cap ∧ cap ≤ 9223372036854775807 := by
        obtain ⟨inner, ho⟩ := Kd.R_own hR2
        rw [hl2] at ho
        exact cut_own (m := 0) ho
      subst hv2
      have hF2 := Kd.R_F hR2
      have c00 := (blk_cell k2 0).trans rfl
      have c01 := (blk_cell k2 1).trans rfl
      have c02 := (blk_cell k2 2).trans rfl
      have c03 := (blk_cell k2 3).trans rfl
      have c04 := (blk_cell k2 4).trans rfl
      have c05 := (blk_cell k2 5).trans rfl
      have f04 := blk_frozen k2 4
      have HF2 := Aside0.mk hF2
      have HB2 := Aside0.mk hB2
      have HN2 := Aside0.mk (Kd.N_below hN.out hB2)
      have hz2 : wr.heap.size < w2.heap.size := blk_lt k2
      clear hR2 hg2 hat2 hB2 hF2 k2 K0 HR1 HB1 hz1
      have hFK : Kd.FK kL (w2.setCell ⟨wr.heap.size, 4, none⟩ (.slice (some ⟨g, 0, none⟩) (rd_T35 xs k).f4.length cap)) (fun k => wr.heap.size + 1 ≤ k) (some (rd_T35 xs k)) [.string (rd_T35 xs k).f0, .int .u8 (rd_T35 xs k).f1, .int .i64 (rd_T35 xs k).f2, .int .i64 (rd_T35 xs k).f3, .slice (some ⟨g, 0, none⟩) (rd_T35 xs k).f4.length cap, .string (rd_T35 xs k).f5] := by
        have h1 := Kd.F_far HF2.out (p := ⟨wr.heap.size, 4, none⟩) (fun k (hk : wr.heap.size + 1 ≤ k) => by show k ≠ wr.heap.size; omega) (.slice (some ⟨g, 0, none⟩) (rd_T35 xs k).f4.length cap)
        refine Foot.imp h1 (fun W' hC => ?_)
        rw [← hl2] at hC
        obtain ⟨q1, q2⟩ := C_snoc hC
        exact ⟨_, _, rfl, hcap, hcap2, q1, q2⟩
      have HFK := Aside0.mk hFK
      have HBs := Aside0.mk (HB2.out.setCell (p := ⟨wr.heap.size, 4, none⟩) (Nat.le_refl _) (.slice (some ⟨g, 0, none⟩) (rd_T35 xs k).f4.length cap))
      have HNs := Aside0.mk (Kd.N_below hN.out HBs.out)
      have HBw := Aside0.mk (hB.out.trans (HBs.out.mono hB.out.size))
      have hsz : (w2.setCell ⟨wr.heap.size, 4, none⟩ (.slice (some ⟨g, 0, none⟩) (rd_T35 xs k).f4.length cap)).heap.size = w2.heap.size := by simp
      clear hFK
      go_wp2_with ((with_reducible refine gate_builtin (b := .append) (xs := #[.tmp 32, .tmp 34]) rfl ?_); at_builtin; refine Kd.N_append kL (w0 := w) w.heap.size rfl (.tmp 32) (.tmp 34) 22 35 (.agg #[.string ⟨#[]⟩, .int .u8 0, .int .i64 0, .int .i64 0, .slice none 0 0, .string ⟨#[]⟩]) 80 rfl Try.underlying22 info35 rfl (by decide) (by decide) _ ((xs.map some).take k) (some (rd_T35 xs k)) [.string (rd_T35 xs k).f0, .int .u8 (rd_T35 xs k).f1, .int .i64 (rd_T35 xs k).f2, .int .i64 (rd_T35 xs k).f3, .slice (some ⟨g, 0, none⟩) (rd_T35 xs k).f4.length cap, .string (rd_T35 xs k).f5] (fun k_ => w.heap.size ≤ k_) (fun k_ => wr.heap.size + 1 ≤ k_) rfl (by rw [hsz]; rfl) HFK.out (fun k_ h => ⟨Nat.le_trans hB.out.size (Nat.le_of_succ_le h), fun e => by have := Kd.N_lt hN.out k_ e.symm; omega⟩) (fun k_ h => by have := hB.out.size; omega) HNs.out HBw.out HBw.out.size (by simp; omega) ?_)
      intro v3 w3 hN3 hB3 hg3 hat3
      have hs : (xs.map some).take k ++ [some (rd_T35 xs k)] = (xs.map some).take (k + 1) := by
        rw [List.take_succ_eq_append_getElem (by rw [List.length_map]; exact hlt)]
        congr 1
        rw [List.getElem_map]
        unfold rd_T35
        rw [Int.toNat_natCast, List.getD_eq_getElem?_getD, List.getElem?_eq_getElem hlt]; rfl
      rw [hs] at hN3
      have HN3 := Aside0.mk hN3
      have HB3 := Aside0.mk hB3
      clear hN3 hB3 hg3 hat3 hs hsz c00 c01 c02 c03 c04 c05 f04
      go_wp2
      go_roundw
      case rel => exact ⟨k + 1, by omega, by go_num, HB3, HN3⟩
      case measure => simp [intOf]; omega
    · obtain rfl : k = xs.length := by omega
      have hN := hN.out
      rw [List.take_of_length_le (by rw [List.length_map]; exact Nat.le_refl _)] at hN
      have hfk : Kd.FK kL wr (fun k_ => wr.heap.size ≤ k_) none [.string ⟨#[109, 97, 114, 107]⟩, .int .u8 0, .int .i64 0, .int .i64 0, .slice none 0 0, .string ⟨#[]⟩] := fun W' _ => rfl
      have HN := Aside0.mk hN
      have HFK := Aside0.mk hfk
      clear hN hfk
      go_wp2_with ((with_reducible refine gate_builtin (b := .append) (xs := #[.tmp 36, .tmp 38]) rfl ?_); at_builtin; refine Kd.N_append kL (w0 := w) w.heap.size rfl (.tmp 36) (.tmp 38) 22 35 (.agg #[.string ⟨#[]⟩, .int .u8 0, .int .i64 0, .int .i64 0, .slice none 0 0, .string ⟨#[]⟩]) 80 rfl Try.underlying22 info35 rfl (by decide) (by decide) _ (xs.map some) none [.string ⟨#[109, 97, 114, 107]⟩, .int .u8 0, .int .i64 0, .int .i64 0, .slice none 0 0, .string ⟨#[]⟩] (fun k_ => w.heap.size ≤ k_) (fun k_ => wr.heap.size ≤ k_) rfl rfl HFK.out (fun k_ h => ⟨Nat.le_trans hB.out.size h, fun e => by have := Kd.N_lt HN.out k_ e.symm; omega⟩) (fun k_ h => Nat.le_trans hB.out.size h) HN.out hB.out hB.out.size (by simp; omega) ?_)
      intro v3 w3 hN3 hB3 hg3 hat3
      obtain ⟨A3, c3, rfl, hc3, hc3m⟩ := N_cap hN3
      have hl3 : (xs.map some ++ [(none : Option S35)]).length = xs.length + 1 := by simp
      rw [hl3] at hc3
      have hC := (Kd.N_reads' hN3).2.2
      rw [hl3] at hC
      have HC := Aside0.mk hC
      have HB3 := Aside0.mk hB3
      clear hN3 hB3 hg3 hat3 hC
      simp only [hl3]
      clear hl3
      go_wp2
      go_ret
      exact ⟨⟨_, _, rfl, hc3, hc3m, HC.out⟩, HB3.out⟩
set_option maxRecDepth 100000 in
set_option maxHeartbeats 4000000 in
theorem same_any (A : Option Addr) (c : Nat) (A1 : Option Addr) (c1 : Nat) (xs : List S35) (w : World) (hr : Kd.C k35 w A xs.length xs) (hc : xs.length ≤ c) (hr1 : Kd.C k35 w A1 xs.length xs) (hc1 : xs.length ≤ c1) (hx : xs.length ≤ 140737488355328) :
    Calls Try.prog 9 #[.slice A xs.length c, .slice A1 xs.length c1] w fun e w' => e = .returned (.bool true) ∧ Below w.heap.size w w' := by
  have HR := Aside0.mk hr
  have HR1 := Aside0.mk hr1
  clear hr hr1
  go_enter Try.func9, Try.ntmps9
  go_wp2
  go_loopw [5] (fun i wr => ∃ k : Nat, k ≤ xs.length ∧ i = .int .i64 k ∧ Aside0 (Below w.heap.size w wr)) (fun i _ => xs.length - (intOf i).toNat)
  case atStart => exact ⟨0, Nat.zero_le _, rfl, ⟨Below.refl _ _⟩⟩
  case round =>
    obtain ⟨k, hk, rfl, hB⟩ := hrel
    by_cases hlt : k < xs.length
    · obtain ⟨ad, A4, c4, rfl, h0, h1, h2, h3, h4, h5, hl, hr4⟩ := at_it HR.out hB.out k hlt
      obtain ⟨bd, B4, d4, rfl, g0, g1, g2, g3, g4, g5, gl, gr4⟩ := at_it HR1.out hB.out k hlt
      have lt0 := World.block_lt_of_cell? _ _ g0
      have hbx : Below wr.heap.size wr ((wr.alloc (.cells #[.string (rd_T35 xs k).f0, .int .u8 (rd_T35 xs k).f1, .int .i64 (rd_T35 xs k).f2, .int .i64 (rd_T35 xs k).f3, .slice A4 (rd_T35 xs k).f4.length c4, .string (rd_T35 xs k).f5] 35)).alloc (.cells #[.string (rd_T35 xs k).f0, .int .u8 (rd_T35 xs k).f1, .int .i64 (rd_T35 xs k).f2, .int .i64 (rd_T35 xs k).f3, .slice B4 (rd_T35 xs k).f4.length d4, .string (rd_T35 xs k).f5] 35)) := ((Below.refl _ _).alloc (Nat.le_refl _) _).alloc (by simp) _
      have hcv1 := Kd.C_string (P := Try.prog) (A := A4) (c := c4) Try.underlying33 Try.underlying5 Try.underlying9 (Kd.C_below hr4 hbx)
      have hcv2 := Kd.C_string (P := Try.prog) (A := B4) (c := d4) Try.underlying33 Try.underlying5 Try.underlying9 (Kd.C_below gr4 hbx)
      have HBX := Aside0.mk (hB.out.trans (hbx.mono hB.out.size))
      clear hr4 gr4 hbx
      go_wp2
      go_roundw
      case rel => exact ⟨k + 1, by omega, by go_num, HBX⟩
      case measure => simp [intOf]; omega
    · go_wp2
      go_ret
      exact ⟨rfl, hB.out⟩
theorem at_L {w W : World} {A : Option Addr} {xs : List S35} (h : kL.C w A (xs.length + 1) (xs.map some ++ [none])) (hb : Below w.heap.size w W) (i : Nat) (h1 : i < xs.length) :
    ∃ ad b c4, A = some ad ∧ W.cell? ⟨(ad.add (i * 6)).block, (ad.add (i * 6)).off + 4, none⟩ = some (.slice (some b) (rd_T35 xs i).f4.length c4) ∧ (rd_T35 xs i).f4.length + 1 ≤ c4 ∧ c4 ≤ 9223372036854775807 ∧ W.cell? (b.add (rd_T35 xs i).f4.length) = some (.int .u8 201) := by
  obtain ⟨ad, e, hr⟩ := h.2.2 (by omega)
  have hx : (xs.map some ++ [(none : Option S35)])[i]? = some (some (rd_T35 xs i)) := by
    rw [List.getElem?_append_left (by rw [List.length_map]; exact h1), List.getElem?_map, List.getElem?_eq_getElem h1]
    unfold rd_T35
    rw [Int.toNat_natCast, List.getD_eq_getElem?_getD, List.getElem?_eq_getElem h1]; rfl
  obtain ⟨c, hl, ⟨b, c4, rfl, q1, q2, q3, q4⟩, hc⟩ := hr i _ hx
  have st : ∀ {a : Addr} {v : Value}, w.cell? a = some v → W.cell? a = some v := fun {a v} hv => (hb.cell (World.block_lt_of_cell? w _ hv)).trans hv
  refine ⟨ad, b, c4, e, st ?_, q1, q2, st q4⟩
  rw [← add_field _ _ 4 (by omega)]
  exact hc 4 _ rfl
theorem at_mark {w W : World} {A : Option Addr} {xs : List S35} (h : kL.C w A (xs.length + 1) (xs.map some ++ [none])) (hb : Below w.heap.size w W) :
    ∃ ad, A = some ad ∧ W.cell? (ad.add (xs.length * 6)) = some (.string ⟨#[109, 97, 114, 107]⟩) := by
  obtain ⟨ad, e, hr⟩ := h.2.2 (by omega)
  obtain ⟨c, hl, hk, hc⟩ := hr xs.length none (by rw [List.getElem?_append_right (by simp)]; simp)
  rw [show c = _ from hk] at hc
  have := hc 0 _ rfl
  exact ⟨ad, e, (hb.cell (World.block_lt_of_cell? w _ this)).trans this⟩
set_option maxRecDepth 100000 in
set_option maxHeartbeats 4000000 in
theorem kept_any (A : Option Addr) (c : Nat) (A1 : Option Addr) (c1 : Nat) (xs : List S35) (w : World) (hL : kL.C w A (xs.length + 1) (xs.map some ++ [none])) (hc : xs.length + 1 ≤ c) (hcm : c ≤ 9223372036854775807) (hr1 : Kd.C k35 w A1 xs.length xs) (hc1 : xs.length ≤ c1) (hx : xs.length ≤ 140737488355000) :
    Calls Try.prog 13 #[.slice A xs.length c, .slice A1 xs.length c1] w fun e w' => e = .returned (.bool true) ∧ Below w.heap.size w w' := by
  have HL := Aside0.mk hL
  have HR1 := Aside0.mk hr1
  clear hL hr1
  go_enter Try.func13, Try.ntmps13
  go_wp2
  go_loopw [5] (fun i wr => ∃ k : Nat, k ≤ xs.length ∧ i = .int .i64 k ∧ wr = w) (fun i _ => xs.length - (intOf i).toNat)
  case atStart => exact ⟨0, Nat.zero_le _, rfl, rfl⟩
  case round =>
    obtain ⟨k, hk, rfl, rfl⟩ := hrel
    by_cases hlt : k < xs.length
    · obtain ⟨ad, b, c4, rfl, h4, hq, hqm, hm⟩ := at_L HL.out (Below.refl _ _) k hlt
      go_wp2
      go_roundw
      case rel => exact ⟨k + 1, by omega, by go_num, trivial⟩
      case measure => simp [intOf]; omega
    · obtain rfl : k = xs.length := by omega
      obtain ⟨ad, rfl, hmk⟩ := at_mark HL.out (Below.refl _ _)
      go_wp2_with fail
      refine (same_any _ c A1 c1 xs _ (lent_reads HL.out) (by omega) HR1.out hc1 (by omega)).mono ?_
      rintro e w1 ⟨rfl, hb⟩
      have hmk1 := (hb.cell (World.block_lt_of_cell? _ _ hmk)).trans hmk
      have HB := Aside0.mk hb
      clear hmk hb
      go_wp2
      go_ret
      exact ⟨rfl, HB.out⟩
end Go.Proofs.Ythpecpkncifngaa.X
namespace Go.Proofs.Ythpecpkncifngaa.X
open Go.RowKit Go.Shelf Go.Proofs.Ythpecpkncifngaa Go.Proofs.YthpecpkncifngaaW.PrintWords Go.Proofs.YthpecpkncifngaaW.PrintLast Go.Proofs.YthpecpkncifngaaW.PrintMore Go.Proofs.Ythpecpkncifngaa.Pure
theorem reffind_l0 (xs : List S35) (path : ByteArray) (hm : xs.length ≤ 140737488355328) (d : Nat) : ∀ i : Nat, i ≤ xs.length → xs.length - i = d →
    Ev (fun k => tabularyref11_Find.l0 k xs path (i : Int)) (if idxP (fun x => x.f0.toList == path.toList) xs i < 0 then (0, 4) else (idxP (fun x => x.f0.toList == path.toList) xs i, 0)) := by
  induction d with
  | zero =>
    intro i hi hd
    rw [idxP_end (by omega), if_pos (by decide)]
    exact Ev.step (fun k => by simp only [tabularyref11_Find.l0]; rw [if_neg (by omega)]) (Ev.now _)
  | succ d ih =>
    intro i hi hd
    have hlt : i < xs.length := by omega
    by_cases h : ((rd_T35 xs i).f0.toList == path.toList) = true
    · rw [idxP_yes hlt h, if_neg (by omega)]
      exact Ev.step (fun k => by simp only [tabularyref11_Find.l0]; rw [if_pos (by omega), if_pos (by omega), if_pos (by simpa using h)]) (Ev.now _)
    · have h' : ((rd_T35 xs i).f0.toList == path.toList) = false := by simpa using h
      have hw : wrap64 ((i : Int) + 1) = ((i + 1 : Nat) : Int) := wrap_succ (by omega)
      rw [idxP_no (p := fun x => x.f0.toList == path.toList) hlt h']
      exact Ev.step (fun k => by simp only [tabularyref11_Find.l0]; rw [if_pos (by omega), if_pos (by omega), if_neg (by simpa using h), hw]) (ih (i + 1) (by omega) (by omega))
theorem reffind_ev (xs : List S35) (path : ByteArray) (hm : xs.length ≤ 140737488355328) : Ev (fun k => tabularyref11_Find.f k xs path) (findP xs path) :=
  Ev.congr (fun k => rfl) (reffind_l0 xs path hm _ 0 (Nat.zero_le _) rfl)
theorem reffind_any (A : Option Addr) (c : Nat) (xs : List S35) (path : ByteArray) (w : World) (hr : Kd.C k35 w A xs.length xs) (hc : xs.length ≤ c) (hm : xs.length ≤ 140737488355328) :
    Calls Try.prog 8 #[.slice A xs.length c, .string path] w fun e w' => e = .returned (.tuple #[.int .i64 (findP xs path).1, .int .i64 (findP xs path).2]) ∧ Below w.heap.size w w' := by
  obtain ⟨k, hk⟩ := Ev.rounds (reffind_ev xs path hm)
  refine (tabularyref11_Find.calls k A c xs path (findP xs path).1 (findP xs path).2 w hr hc hk).mono ?_
  rintro e w1 ⟨rfl, hd⟩
  exact ⟨rfl, hd.below⟩
end Go.Proofs.Ythpecpkncifngaa.X
namespace Go.Proofs.Ythpecpkncifngaa.X
open Go.RowKit Go.Proofs.YthpecpkncifngaaW.PrintWords Go.Proofs.Ythpecpkncifngaa.Op2
theorem six {α : Type} {l : List α} (h : l.length = 6) : ∃ a b c d e f, l = [a, b, c, d, e, f] := by
  match l, h with
  | [a, b, c, d, e, f], _ => exact ⟨a, b, c, d, e, f, rfl⟩
end Go.Proofs.Ythpecpkncifngaa.X
namespace Go.Proofs.Ythpecpkncifngaa.X
open Go.RowKit Go.Proofs.Ythpecpkncifngaa Go.Proofs.YthpecpkncifngaaW.PrintWords Go.Proofs.Ythpecpkncifngaa.Op3
def GoodItU (x : S35) : Prop := x.f0.size ≤ 1048576 ∧ (Lit.int .u8 x.f1).wf = true ∧ (Lit.int .i64 x.f2).wf = true ∧ (Lit.int .i64 x.f3).wf = true ∧ (x.f4.length * 1 ≤ 140737488351232 ∧ x.f4.length ≤ 9223372036854775807 ∧ ∀ n ∈ x.f4, (Lit.int .u8 n).wf = true) ∧ x.f5.size ≤ 1048576
theorem opens_itemU {H : Type} {enc : TypeId × Value → H} {W : World} {base : Nat} {spare : Nat → Bool} {held : Bool} : Opens enc Try.prog W base spare held 35 k35 GoodItU := by
  intro fuel cs x h hw hu
  obtain ⟨xs, n, _, rfl, hl, hx, hel⟩ := DataW.trod_struct Try.underlying35 h
  have hc : Try.prog.cellsOf 35 = 6 := by kernel_rfl
  rw [hc] at hl
  obtain ⟨u0, u1, u2, u3, u4, u5, rfl⟩ := six hl
  obtain ⟨y0, y1, y2, y3, y4, y5, rfl⟩ := six (show xs.length = 6 from hx)
  simp only [DataW.weights, Try.underlying35] at hw
  simp only [Rows.uptoBulk, Rows.uptoBulkAll, List.map_cons, List.map_nil] at hu
  have c0 : Try.prog.cellsOf 9 = 1 := by kernel_rfl
  have c1 : Try.prog.cellsOf 32 = 1 := by kernel_rfl
  have c2 : Try.prog.cellsOf 3 = 1 := by kernel_rfl
  have c4 : Try.prog.cellsOf 33 = 1 := by kernel_rfl
  have e0 : DataW.trod enc Try.prog W base spare held n 9 (([u0, u1, u2, u3, u4, u5].drop 0).take (Try.prog.cellsOf 9)) = some y0 := hel 0 _ rfl
  rw [c0] at e0
  have e1 : DataW.trod enc Try.prog W base spare held n 32 (([u0, u1, u2, u3, u4, u5].drop 1).take (Try.prog.cellsOf 32)) = some y1 := hel 1 _ rfl
  rw [c1] at e1
  have e2 : DataW.trod enc Try.prog W base spare held n 3 (([u0, u1, u2, u3, u4, u5].drop 2).take (Try.prog.cellsOf 3)) = some y2 := hel 2 _ rfl
  rw [c2] at e2
  have e3 : DataW.trod enc Try.prog W base spare held n 3 (([u0, u1, u2, u3, u4, u5].drop 3).take (Try.prog.cellsOf 3)) = some y3 := hel 3 _ rfl
  rw [c2] at e3
  have e4 : DataW.trod enc Try.prog W base spare held n 33 (([u0, u1, u2, u3, u4, u5].drop 4).take (Try.prog.cellsOf 33)) = some y4 := hel 4 _ rfl
  rw [c4] at e4
  have e5 : DataW.trod enc Try.prog W base spare held n 9 (([u0, u1, u2, u3, u4, u5].drop 5).take (Try.prog.cellsOf 9)) = some y5 := hel 5 _ rfl
  rw [c0] at e5
  have wt : ∀ (j : Nat) (t : TypeId) (y : DataW H × List MemPlace), ((#[_, _, _, _, _, _] : Array Field).toList.map (·.type))[j]? = some t → [y0, y1, y2, y3, y4, y5][j]? = some y → ∀ m ∈ y.1.weights Try.prog t, m ≤ reachBytes :=
    fun j t y h1 h2 m hm => hw m (weightsEach_mem h1 (by rw [List.getElem?_map, h2]; rfl) hm)
  obtain ⟨z0, k0, g0⟩ := opens_string Try.underlying9 n _ _ e0 (wt 0 _ _ rfl rfl) (by omega)
  obtain ⟨z1, k1, g1⟩ := opens_int Try.underlying32 n _ _ e1 (wt 1 _ _ rfl rfl) (by omega)
  obtain ⟨z2, k2, g2⟩ := opens_int Try.underlying3 n _ _ e2 (wt 2 _ _ rfl rfl) (by omega)
  obtain ⟨z3, k3, g3⟩ := opens_int Try.underlying3 n _ _ e3 (wt 3 _ _ rfl rfl) (by omega)
  obtain ⟨z4, k4, g4⟩ := opens_slice (b := 1) Try.underlying33 (by kernel_rfl) (by kernel_rfl) (opens_int Try.underlying5) n _ _ e4 (wt 4 _ _ rfl rfl) (by omega)
  obtain ⟨z5, k5, g5⟩ := opens_string Try.underlying9 n _ _ e5 (wt 5 _ _ rfl rfl) (by omega)
  exact ⟨⟨z0, z1, z2, z3, z4, z5⟩, ⟨_, _, rfl, k0, ⟨_, _, rfl, k1, ⟨_, _, rfl, k2, ⟨_, _, rfl, k3, ⟨_, _, rfl, k4, k5⟩⟩⟩⟩⟩, g0, g1, g2, g3, g4, g5⟩
end Go.Proofs.Ythpecpkncifngaa.X
namespace Go.Proofs.Ythpecpkncifngaa.X
open Go Go.RowKit Go.Shelf Go.Proofs.Ythpecpkncifngaa Go.Proofs.YthpecpkncifngaaW.PrintWords Go.Proofs.YthpecpkncifngaaW.PrintLast Go.Proofs.YthpecpkncifngaaW.PrintMore Go.Proofs.Ythpecpkncifngaa.Pure
theorem lays6 : So.Lays Try.prog 6 where
  mixed := by kernel_rfl
  fswap := Try.func47
  frot := Try.func42
  fsym := Try.func36
  fst := Try.func28
  fins := enters_of Try.func35 (by decide) rfl
  t0 := Try.underlying0
  a0 := Try.isAgg0
  z0 := Try.sizeOf0
  v0 := Try.zeroValue0
  t3 := Try.underlying3
  a3 := Try.isAgg3
  z3 := Try.sizeOf3
  v3 := Try.zeroValue3
  t104 := Try.underlying60
  t4 := Try.underlying4
  a4 := Try.isAgg4
  z4 := Try.sizeOf4
  v4 := Try.zeroValue4
  t22 := Try.underlying22
  a22 := Try.isAgg22
  z22 := Try.sizeOf22
  v22 := Try.zeroValue22
  aE := Try.isAgg35
  zE := Try.sizeOf35
def ren20 : Shelf.Ren := ⟨fun _ => 35, fun n => if n = 22 then 22 else if n = 24 then 35 else if n = 25 then 39 else n, fun n => n⟩
theorem lays20 : SlLaysF0.n20 Try.prog ren20 where
  mixed := by kernel_rfl
  f20 := ⟨"slices.insertionSortCmpFunc[tabulary/api.Item]", by decide, Try.func35.trans (congrArg some (by kernel_rfl))⟩
  t0 := Try.underlying0
  a0 := Try.isAgg0
  z0 := Try.sizeOf0
  v0 := Try.zeroValue0
  t3 := Try.underlying3
  a3 := Try.isAgg3
  z3 := Try.sizeOf3
  v3 := Try.zeroValue3
  t4 := Try.underlying4
  a4 := Try.isAgg4
  z4 := Try.sizeOf4
  v4 := Try.zeroValue4
  t22 := Try.underlying22
  a22 := Try.isAgg22
  z22 := Try.sizeOf22
  v22 := Try.zeroValue22
  t25 := Try.underlying39
  a25 := Try.isAgg39
  z25 := Try.sizeOf39
  v25 := Try.zeroValue39
def Cel : Type := { p : S35 × Option Addr × Nat // p.1.f0.size ≤ 140737488355328 }
instance : Inhabited Cel := ⟨⟨(⟨⟨#[]⟩, 0, 0, 0, [], ⟨#[]⟩⟩, none, 0), by decide⟩⟩
def Cel.it (z : Cel) : S35 := z.1.1
def encC (z : Cel) : List Value := (cellsIt z.1.1 z.1.2.1 z.1.2.2).toList
def cfC (x y : Cel) : Int := cmpI x.it y.it
theorem encC_len (z : Cel) : (encC z).length = 6 := rfl
theorem encC_one (z : Cel) : ∀ v ∈ encC z, v.oneCell' = true := by
  intro v hv
  simp only [encC, cellsIt, List.mem_cons, List.not_mem_nil, or_false] at hv
  rcases hv with rfl | rfl | rfl | rfl | rfl | rfl <;> rfl
theorem lt_cfC (x y : Cel) : ltOf cfC x y = true ↔ cmpI x.it y.it < 0 := decide_eq_true_iff
theorem nlt_cfC (x y : Cel) : ltOf cfC x y = false ↔ 0 ≤ cmpI x.it y.it := decide_eq_false_iff_not.trans Int.not_lt
theorem cmpI_neg (x y : S35) : cmpI y x = - cmpI x y := Nm.cmp_neg _ _
theorem wo_cfC : So.Wo (ltOf cfC) where
  irr x := (nlt_cfC x x).2 (by unfold cmpI; rw [Nm.cmp_self]; exact Int.le_refl _)
  tr x y z h1 h2 := (lt_cfC x z).2 (Nm.cmp_lt_le ((lt_cfC x y).1 h1) (by have := (lt_cfC y z).1 h2; unfold cmpI at this; omega))
  nt x y z h1 h2 := by
    have e1 := (nlt_cfC x y).1 h1
    have e2 := (nlt_cfC y z).1 h2
    refine (nlt_cfC x z).2 ?_
    have n1 := cmpI_neg x.it y.it
    have n2 := cmpI_neg y.it z.it
    have n3 := cmpI_neg x.it z.it
    have : cmpI z.it x.it ≤ 0 := Nm.cmp_le_trans (y := Nm.texts y.it.f0.data.toList) (by show cmpI z.it y.it ≤ 0; omega) (by show cmpI y.it x.it ≤ 0; omega)
    omega
theorem bypath_grows (x y : S35) (A4 B4 : Option Addr) (c4 d4 : Nat) (w : World) (hx : x.f0.size ≤ 140737488355328) (hy : y.f0.size ≤ 140737488355328) :
    Calls Try.prog 17 #[.agg (cellsIt x A4 c4), .agg (cellsIt y B4 d4)] w fun e w' => e = .returned (.int .i64 (cmpI x y)) ∧ ∃ q os, w' = Sort.grow (w.drewN q) os := by
  unfold cellsIt
  go_enter Try.func17, Try.ntmps17
  go_wp2_with fail
  refine (compare_any _ _ _ hx hy).mono ?_
  rintro e w1 ⟨rfl, n, rfl⟩
  go_wp2
  go_ret
  refine ⟨rfl, n, #[.cells #[.string x.f0, .int .u8 x.f1, .int .i64 x.f2, .int .i64 x.f3, .slice A4 x.f4.length c4, .string x.f5] 35] ++ #[.cells #[.string y.f0, .int .u8 y.f1, .int .i64 y.f2, .int .i64 y.f3, .slice B4 y.f4.length d4, .string y.f5] 35], ?_⟩
  rw [← Sort.grow_grow, ← Sort.alloc_eq_grow, ← Sort.alloc_eq_grow]
  rfl
theorem cmpLays (blk off size : Nat) (w : World) : CmpLays Try.prog 17 #[] encC 6 cfC blk off size w := fun m os dk hdk x y =>
  (bypath_grows x.it y.it x.1.2.1 y.1.2.1 x.1.2.2 y.1.2.2 _ x.2 y.2).mono fun e w' h => h
theorem insertsTo (blk off cap : Nat) (d0 : Array Cel) (w0 : World) (size : Nat) (R : RowK encC 6 w0 blk off d0) (hs : d0.size = size) (hsz : size < 1152921504606846976) : So.InsertsTo Try.prog encC 6 cfC 17 #[] blk off cap w0 size := by
  intro a b d w A X B hds S hd ha hb
  subst hds
  have eg : ∀ args w, (callFunc 17 args).run Try.prog w = .ok (.enter 17 args) w := enters_of Try.func17 (by decide) rfl
  have hdl : d.size = A.length + X.length + B.length := by rw [← Array.length_toList, hd]; simp; omega
  have h := AnyQ.insertionSortCmpFunc lays20 6 Try.isAgg35 Try.sizeOf35 encC encC_len encC_one cfC 17 #[] blk off cap a b d w eg (cmpLays _ _ _ _) (S.holds R.hblk R.hH hs.symm) (S.lt R.hblk) (by omega) (by omega) (by omega)
  refine h.mono ?_
  rintro e w' ⟨rfl, n, os, rfl⟩
  have hl := So.insertion_list (A := A) (X := X) (B := B) (a := a) (b := b) wo_cfC hd ha (by rw [hb, ha])
  have hz : (Sort.insertionSort (ltOf cfC) d a b).size = d.size := by rw [← Array.length_toList, hl, List.length_append, List.length_append, So.isort_len]; omega
  exact ⟨rfl, _, hz, hl, S.on R.hblk n _ os hz⟩
theorem sortStable_any (g cap : Nat) (d : Array Cel) (w : World) (hH : Sort.HoldsK encC 6 w g 0 d) (hg : g < w.heap.size) (hsz : d.size < 1152921504606846976) (hcap : d.size ≤ cap) :
    Calls Try.prog 16 #[.slice (some ⟨g, 0, none⟩) d.size cap, .func (.func 17) #[] #[]] w fun e w' =>
      e = .returned (.tuple #[]) ∧ ∃ dk : Array Cel, dk.size = d.size ∧ dk.toList = So.isort (ltOf cfC) d.toList ∧ SWK encC 6 w g 0 dk w' := by
  have eg : ∀ args w, (callFunc 17 args).run Try.prog w = .ok (.enter 17 args) w := enters_of Try.func17 (by decide) rfl
  have R : RowK encC 6 w g 0 d := ⟨encC_len, encC_one, hH, hg⟩
  have h := So.stable_any lays6 encC cfC 17 #[] g 0 cap d d w w wo_cfC eg (cmpLays _ _ _ _) R rfl (SWK.start hH) hsz (insertsTo g 0 cap d w d.size R rfl hsz)
  generalize d.size = n at h ⊢
  generalize d.toList = l at h ⊢
  clear R hH eg
  go_enter Try.func16, Try.ntmps16
  go_wp2_with fail
  refine h.mono ?_
  rintro e w1 ⟨rfl, hr⟩
  have HR := Aside0.mk hr
  clear hr h
  go_wp2_with fail
  go_end0
  exact ⟨rfl, HR.out⟩
theorem insertion_nil (A : Option Addr) (c : Nat) (w : World) :
    Calls Try.prog 35 #[.slice A 0 c, .int .i64 0, .int .i64 0, .func (.func 17) #[] #[]] w fun e w' => e = .returned (.tuple #[]) ∧ w' = w := by
  go_enter Try.func35, Try.ntmps35
  go_wp2
  go_loopw [8] (fun i wr => i = .int .i64 1 ∧ wr = w) (fun _ _ => 0)
  case atStart => exact ⟨rfl, rfl⟩
  case round =>
    obtain ⟨rfl, rfl⟩ := hrel
    go_wp2
    go_end0
    exact ⟨rfl, rfl⟩
theorem stable_nil (A : Option Addr) (c : Nat) (w : World) :
    Calls Try.prog 28 #[.slice A 0 c, .int .i64 0, .func (.func 17) #[] #[]] w fun e w' => e = .returned (.tuple #[]) ∧ w' = w := by
  go_enter Try.func28, Try.ntmps28
  go_wp2
  go_loopw [7, 8] (fun a b wr => a = .int .i64 0 ∧ b = .int .i64 20 ∧ wr = w) (fun _ _ _ => 0)
  case atStart => exact ⟨rfl, rfl, rfl⟩
  case round =>
    obtain ⟨rfl, rfl, rfl⟩ := hrel
    go_wp2_with fail
    refine (insertion_nil A c _).mono ?_
    rintro e w1 ⟨rfl, rfl⟩
    go_wp2
    go_loopw [6] (fun s wr => s = .int .i64 20 ∧ wr = w1) (fun _ _ => 0)
    case atStart => exact ⟨rfl, rfl⟩
    case round =>
      obtain ⟨rfl, rfl⟩ := hrel
      go_wp2
      go_end0
      exact ⟨rfl, rfl⟩
theorem sortStable_nil (A : Option Addr) (c : Nat) (w : World) :
    Calls Try.prog 16 #[.slice A 0 c, .func (.func 17) #[] #[]] w fun e w' => e = .returned (.tuple #[]) ∧ w' = w := by
  go_enter Try.func16, Try.ntmps16
  go_wp2_with fail
  refine (stable_nil A c _).mono ?_
  rintro e w1 ⟨rfl, rfl⟩
  go_wp2
  go_end0
  exact ⟨rfl, rfl⟩
end Go.Proofs.Ythpecpkncifngaa.X
namespace Go.Proofs.Ythpecpkncifngaa.X
open Go Go.RowKit Go.Shelf Go.Proofs.Ythpecpkncifngaa Go.Proofs.YthpecpkncifngaaW.PrintWords Go.Proofs.YthpecpkncifngaaW.PrintLast Go.Proofs.YthpecpkncifngaaW.PrintMore Go.Proofs.Ythpecpkncifngaa.Pure
def ltI (x y : S35) : Bool := decide (cmpI x y < 0)
theorem isort_it : ∀ zs : List Cel, (So.isort (ltOf cfC) zs).map Cel.it = So.isort ltI (zs.map Cel.it)
  | [] => rfl
  | z :: zs => by
    have ins : ∀ ys : List Cel, (So.insF (ltOf cfC) z ys).map Cel.it = So.insF ltI z.it (ys.map Cel.it) := by
      intro ys
      induction ys with
      | nil => rfl
      | cons y ys ih =>
        have e : ltOf cfC y z = ltI y.it z.it := rfl
        simp only [So.insF, List.map_cons, e]
        split
        · rw [List.map_cons, ih]
        · rfl
    rw [List.map_cons, So.isort, So.isort, ins, isort_it zs]
theorem cels_of {w : World} {ok : Nat → Prop} : ∀ (xs : List S35) (rows : List (List Value)), rows.length = xs.length → (∀ (j : Nat) (x : S35) (c : List Value), xs[j]? = some x → rows[j]? = some c → Kd.FK k35 w ok x c) → (∀ x ∈ xs, x.f0.size ≤ 140737488355328) →
    ∃ zs : List Cel, zs.map Cel.it = xs ∧ zs.map encC = rows ∧ ∀ z ∈ zs, Kd.FK k35 w ok z.it (encC z)
  | [], [], _, _, _ => ⟨[], rfl, rfl, fun z hz => by cases hz⟩
  | [], _ :: _, h, _, _ => by simp at h
  | _ :: _, [], h, _, _ => by simp at h
  | x :: xs, c :: rows, hl, hf, hs => by
    obtain ⟨zs, h1, h2, h3⟩ := cels_of xs rows (by simpa using hl) (fun j y d hy hd => hf (j + 1) y d (by simpa using hy) (by simpa using hd)) (fun y hy => hs y (List.mem_cons_of_mem _ hy))
    have hx := hf 0 x c rfl rfl
    obtain ⟨A4, c4, rfl, hl4, hF4⟩ := k35_openF hx
    have hsx := hs x (List.mem_cons_self ..)
    obtain ⟨q, hq1, hq2⟩ : ∃ q : Cel, q.it = x ∧ encC q = [.string x.f0, .int .u8 x.f1, .int .i64 x.f2, .int .i64 x.f3, .slice A4 x.f4.length c4, .string x.f5] := ⟨⟨(x, A4, c4), hsx⟩, rfl, rfl⟩
    refine ⟨q :: zs, by rw [List.map_cons, h1, hq1], by rw [List.map_cons, h2, hq2], fun z hz => ?_⟩
    rcases List.mem_cons.1 hz with rfl | hz
    · rw [hq1, hq2]; exact hx
    · exact h3 z hz
open Go.Sort in
theorem swk_heap {α : Type} [Inhabited α] {enc : α → List Value} {k : Nat} {w w' : World} {g : Nat} {dk : Array α} (h : SWK enc k w g 0 dk w') : w'.os = w.os ∧ w'.tape = w.tape ∧ w'.output = w.output ∧ w.heap.size ≤ w'.heap.size ∧ (∀ b, b < w.heap.size → b ≠ g → w'.heap[b]? = w.heap[b]?) ∧
    (∀ cur t fr, w.heap[g]? = some (.cells cur t fr) → w'.heap[g]? = some (.cells (putCells id 0 (flatK enc k dk) cur) t fr)) := by
  obtain ⟨n, os, rfl⟩ := h
  unfold sortWorldK putRowK putRow mapBlock grow
  refine ⟨rfl, rfl, rfl, by simp, fun b hb hne => ?_, fun cur t fr hc => ?_⟩
  · show (Array.modify _ _ _ ++ os)[b]? = _
    rw [Array.getElem?_append_left (by simpa using hb), Array.getElem?_modify, if_neg (Ne.symm hne)]
    rfl
  · show (Array.modify _ _ _ ++ os)[g]? = _
    have hg : g < w.heap.size := blk_lt hc
    rw [Array.getElem?_append_left (by simpa using hg), Array.getElem?_modify, if_pos rfl]
    show Option.map _ w.heap[g]? = _
    rw [hc]; rfl
open Go.Sort in
theorem putCells_take {α : Type} [Inhabited α] {enc : α → List Value} {k : Nat} (dk : Array α) (cur : Array Value) (h : dk.size * k ≤ cur.size) : (putCells id 0 (flatK enc k dk) cur).size = cur.size ∧ (putCells id 0 (flatK enc k dk) cur).toList.take (dk.size * k) = (flatK enc k dk).toList := by
  refine ⟨by simp [putCells], List.ext_getElem? fun i => ?_⟩
  rw [List.getElem?_take]
  split
  · rename_i hi
    have hf : i < (flatK enc k dk).size := by rw [size_flatK]; exact hi
    rw [Array.getElem?_toList, Array.getElem?_toList, Array.getElem?_eq_getElem hf]
    simp only [putCells, Array.getElem?_mapIdx]
    rw [Array.getElem?_eq_getElem (by omega), Option.map_some, if_pos ⟨Nat.zero_le _, by omega⟩, Nat.sub_zero, getElem!_pos _ i hf]
    rfl
  · rename_i hi
    rw [List.getElem?_eq_none]
    rw [Array.length_toList, size_flatK]; omega
open Go.Sort in
theorem reps_flat {α : Type} [Inhabited α] {enc : α → List Value} {k : Nat} (hk : ∀ x, (enc x).length = k) (h1 : ∀ x, ∀ v ∈ enc x, v.oneCell' = true) (w : World) (dk : Array α) : Reps ((Kd.raw k).K w) k (dk.toList.map enc) (flatK enc k dk).toList := by
  refine ⟨by rw [Array.length_toList, size_flatK, List.length_map, Array.length_toList], fun j p hj => ?_⟩
  rw [List.getElem?_map] at hj
  obtain ⟨x, hx, rfl⟩ := Option.map_eq_some_iff.1 hj
  obtain ⟨hjl, hjx⟩ := List.getElem?_eq_some_iff.1 hx
  rw [Array.length_toList] at hjl
  have hxj : dk[j]! = x := by rw [getElem!_pos dk j hjl]; simpa using hjx
  have hb : j * k + k ≤ dk.size * k := rowK_bnd dk k j hjl
  have e : ((flatK enc k dk).toList.drop (j * k)).take k = enc x := by
   refine List.ext_getElem? fun i => ?_
   rw [List.getElem?_take, List.getElem?_drop]
   split
   · rename_i hi
     have hlt : j * k + i < (flatK enc k dk).size := by rw [size_flatK]; omega
     have e1 : (j * k + i) / k = j := (blk_iff k j _ (by omega)).1 ⟨by omega, by omega⟩
     have e2 : (j * k + i) % k = i := by rw [Nat.mod_eq_sub_div_mul, e1]; omega
     have hgf := get_flatK enc k dk (j * k + i) (by rw [size_flatK] at hlt; exact hlt)
     rw [e1, e2, hxj, getElem!_pos (flatK enc k dk) (j * k + i) hlt] at hgf
     rw [Array.getElem?_toList, Array.getElem?_eq_getElem hlt, hgf, getElem!_pos (enc x) i (by rw [hk]; exact hi)]
     exact (List.getElem?_eq_getElem _).symm
   · rename_i hi
     rw [List.getElem?_eq_none]
     rw [hk]; omega
  exact ⟨e, by rw [e]; exact hk x, by rw [e]; exact h1 x⟩
open Go.Sort in
theorem swk_own {w w' : World} {g c : Nat} {base : Nat} {ok : Nat → Prop} {zs : List Cel} {dk : Array Cel} (hbase : base ≤ g) (hN : Kd.N k35 35 w base ok (.slice (some ⟨g, 0, none⟩) zs.length c) (zs.map Cel.it)) (hf : ∀ z ∈ zs, Kd.FK k35 w (fun k => ok k ∧ some k ≠ some g) z.it (encC z))
    (hS : SWK encC 6 w g 0 dk w') (hsz : dk.size = zs.length) (hm : ∀ z ∈ dk.toList, z ∈ zs) : Kd.N k35 35 w' base ok (.slice (some ⟨g, 0, none⟩) zs.length c) (dk.toList.map Cel.it) := by
  obtain ⟨_, _, _, hws, hkeep, hrow⟩ := swk_heap hS
  obtain ⟨hokg, rows, hrl, hR, _⟩ := hN
  obtain ⟨inner, ho⟩ := Kd.R_own hR
  have hl : dk.toList.length = zs.length := by rw [Array.length_toList]; exact hsz
  have hwg : g < w.heap.size := Kd.R_lt hR g rfl
  rw [hrl, List.length_map] at ho
  refine ⟨fun k hk => ?_, dk.toList.map encC, by simp, ⟨fun k hk => hk.symm, (flatK encC 6 dk).toList, ?_, ?_⟩, fun j x cs hx hc => ?_⟩
  · have : g = k := by simpa [Value.ownBlock] using hk
    exact this ▸ hokg g rfl
  · rw [List.length_map, hl]
    obtain ⟨hil, ho⟩ := ho
    refine ⟨by rw [Array.length_toList, size_flatK, hsz]; rfl, .inr ?_⟩
    rcases ho with ⟨he, h0⟩ | ⟨g', cap, cur, he, h1, h2, h3, h4, h5, h6⟩
    · cases he
    · injection he with e1 e2 e3
      injection e1 with e1
      injection e1 with e1
      subst e1
      subst e3
      have hcs : dk.size * 6 ≤ cur.size := by
        rw [h5]
        have := Nat.mul_le_mul_right 6 h3
        rw [hsz]; exact this
      obtain ⟨p1, p2⟩ := putCells_take (enc := encC) (k := 6) dk cur hcs
      refine ⟨g, c, _, rfl, hbase, hrow cur _ _ h2, h3, h4, p1.trans h5, ?_⟩
      rw [hsz] at p2
      exact p2
  · exact reps_flat encC_len encC_one w' dk
  · rw [List.getElem?_map] at hx hc
    obtain ⟨z, hz, rfl⟩ := Option.map_eq_some_iff.1 hx
    rw [hz] at hc
    obtain rfl : encC z = cs := Option.some.inj hc
    refine Foot.step (hf z (hm z (List.mem_of_getElem? hz))) (fun k hk hlt => hkeep k hlt ?_)
    rintro rfl
    exact hk.2 rfl
theorem cels_of_N {w : World} {base g n c : Nat} {ok : Nat → Prop} {xs : List S35} (hN : Kd.N k35 35 w base ok (.slice (some ⟨g, 0, none⟩) n c) xs) (h0 : 0 < xs.length) (hs : ∀ x ∈ xs, x.f0.size ≤ 140737488355328) :
    ∃ zs : List Cel, zs.map Cel.it = xs ∧ (∀ z ∈ zs, Kd.FK k35 w (fun k => ok k ∧ some k ≠ some g) z.it (encC z)) ∧ Sort.HoldsK encC 6 w g 0 zs.toArray := by
  obtain ⟨_, rows, hrl, hR, hfk⟩ := id hN
  obtain ⟨zs, hz1, hz2, hz3⟩ := cels_of xs rows hrl hfk hs
  obtain ⟨g', cap, he, hbase, hlt, cells, hcells⟩ := Kd.N_form hN h0
  injection he with e1 e2 e3
  injection e1 with e1
  injection e1 with e1
  subst e1
  refine ⟨zs, hz1, hz3, fun t ht => ?_⟩
  rw [Sort.size_flatK] at ht
  have hj : t / 6 < zs.length := by rw [List.size_toArray] at ht; omega
  obtain ⟨ad, hae, hcell⟩ := (Kd.R_reads' hR).2.2.2.2 (by rw [hrl]; exact h0)
  injection hae with hae
  subst hae
  obtain ⟨cs, hcl, hK, hcc⟩ := hcell (t / 6) (encC zs[t / 6]) (by rw [← hz2, List.getElem?_map, List.getElem?_eq_getElem hj]; rfl)
  obtain ⟨rfl, _, _⟩ := hK
  have hc6 : t % 6 < (encC zs[t / 6]).length := by rw [encC_len]; omega
  have : w.cell? ((⟨g, 0, none⟩ : Addr).add (t / 6 * 6 + t % 6)) = _ := hcc (t % 6) _ (List.getElem?_eq_getElem hc6)
  rw [show (⟨g, 0, none⟩ : Addr).add (t / 6 * 6 + t % 6) = ⟨g, 0 + t, none⟩ by rw [Addr.add_lit]; congr 1; omega] at this
  refine ⟨?_, blk_frozen hcells _⟩
  rw [Sort.get_flatK _ _ _ _ ht, this]
  have e1 : zs.toArray[t / 6]! = zs[t / 6] := by rw [getElem!_pos _ _ (by rw [List.size_toArray]; exact hj)]; simp
  rw [e1, getElem!_pos (encC zs[t / 6]) _ hc6]
  rfl
theorem sort1_tells (w : World) : Tells 15 #[] (fun _ => true) w := by
  intro W x A4 c4 hB hl hr
  unfold cellsIt
  go_enter Try.func15, Try.ntmps15
  go_wp2
  go_ret
  exact ⟨rfl, (Below.refl _ W).alloc (Nat.le_refl _) _⟩
set_option maxRecDepth 100000 in
set_option maxHeartbeats 4000000 in
theorem sort_own (A : Option Addr) (c : Nat) (xs : List S35) (w : World) (hr : Kd.C k35 w A xs.length xs) (hm : xs.length * 80 ≤ 140737488351232) (hb4 : ∀ x ∈ xs, x.f4.length ≤ 140737488355328) (hb0 : ∀ x ∈ xs, x.f0.size ≤ 140737488355328) :
    Calls Try.prog 5 #[.slice A xs.length c] w fun e w' => (∃ A' c', e = .returned (.slice A' xs.length xs.length) ∧ xs.length ≤ c' ∧ Kd.N k35 35 w' w.heap.size (fun k => w.heap.size ≤ k) (.slice A' xs.length c') (So.isort ltI xs)) ∧ Below w.heap.size w w' := by
  have hcall : ∀ (args : Array Value) (W : World), (callFunc 15 args).run Try.prog W = .ok (.enter 15 args) W := fun args W => by kernel_rfl
  have h := some_own 15 #[] (fun _ => true) A c xs w hr hm hb4 hcall (sort1_tells w)
  have hk : keepP (fun _ => true) xs xs.length = xs := by rw [keepP_all]; simp
  rw [hk] at h
  have H0 := Aside0.mk hb0
  clear hr hb4 hb0 hcall hk
  go_enter Try.func5, Try.ntmps5
  go_wp2_with fail
  refine h.mono ?_
  rintro e w1 ⟨⟨A', c', rfl, hN⟩, hb⟩
  have hcc := (Kd.N_reads' hN).2.1
  rcases Nat.eq_zero_or_pos xs.length with h0 | h0
  · obtain rfl : xs = [] := List.eq_nil_of_length_eq_zero h0
    have HN := Aside0.mk hN
    have HB := Aside0.mk hb
    clear hN hb h
    go_wp2_with fail
    refine (sortStable_nil A' 0 _).mono ?_
    rintro e w2 ⟨rfl, rfl⟩
    go_wp2
    go_ret
    exact ⟨⟨A', c', rfl, hcc, HN.out⟩, HB.out⟩
  · obtain ⟨g, cap, he, hbase, hlt, cells, hcells⟩ := Kd.N_form hN h0
    injection he with e1 e2 e3
    subst e1
    subst e3
    obtain ⟨zs, hz1, hz3, hH⟩ := cels_of_N hN h0 H0.out
    have hzl : zs.length = xs.length := by rw [← hz1, List.length_map]
    have hds : zs.toArray.size = xs.length := by rw [List.size_toArray]; exact hzl
    have hst := sortStable_any g xs.length zs.toArray w1 hH hlt (by rw [hds]; omega) (by rw [hds]; exact Nat.le_refl _)
    rw [hds] at hst
    have HN := Aside0.mk hN
    have HB := Aside0.mk hb
    have HZ1 := Aside0.mk hz1
    have HZ3 := Aside0.mk hz3
    have HCC := Aside0.mk hcc
    clear hN hb h hz1 hz3 hH hcells hds hcc
    go_wp2_with fail
    refine hst.mono ?_
    rintro e w2 ⟨rfl, dk, hdk1, hdk2, hS⟩
    have HS := Aside0.mk hS
    have HDK := Aside0.mk hdk2
    clear hst hS hdk2
    go_wp2
    go_ret
    have hS := HS.out
    have hst := So.isort_stab (lt := ltOf cfC) wo_cfC zs
    have hres := swk_own (dk := dk) hbase (by rw [HZ1.out, hzl]; exact HN.out) HZ3.out hS (by rw [hdk1, hzl]) (fun z hz => by rw [HDK.out] at hz; exact (hst.symm).mem wo_cfC hz)
    have hit : dk.toList.map Cel.it = So.isort ltI xs := by rw [HDK.out, isort_it]; exact congrArg _ HZ1.out
    rw [hit, hzl] at hres
    refine ⟨⟨_, _, rfl, HCC.out, hres⟩, ?_⟩
    obtain ⟨q1, q2, q3, q4, q5, _⟩ := swk_heap hS
    exact HB.out.trans ⟨q1, q2, q3, q4, fun k hk => q5 k (by have := HB.out.size; omega) (by omega)⟩
end Go.Proofs.Ythpecpkncifngaa.X
end

/- The contracts of tree.Same and of the reference's Same, of any two lists. -/
section
namespace Go.Proofs.Ythpecpkncifngaa.X
open Go Go.RowKit Go.Shelf Go.Proofs.Ythpecpkncifngaa Go.Proofs.YthpecpkncifngaaW.PrintWords Go.Proofs.YthpecpkncifngaaW.PrintLast Go.Proofs.YthpecpkncifngaaW.PrintMore Go.Proofs.Ythpecpkncifngaa.Pure
def sameI (x y : S35) : Bool := (x.f0.toList == y.f0.toList) && ((x.f1 == y.f1) && ((x.f2 == y.f2) && ((x.f3 == y.f3) && ((x.f5.toList == y.f5.toList) && ((strOfNums x.f4).toList == (strOfNums y.f4).toList)))))
set_option maxRecDepth 100000 in
set_option maxHeartbeats 8000000 in
theorem equal_any (x y : S35) (A4 B4 : Option Addr) (c4 d4 : Nat) (w : World) (hl : x.f4.length ≤ c4) (hk : y.f4.length ≤ d4) (hr4 : (Kd.int .u8).C w A4 x.f4.length x.f4) (gr4 : (Kd.int .u8).C w B4 y.f4.length y.f4) :
    Calls Try.prog 25 #[.agg (cellsIt x A4 c4), .agg (cellsIt y B4 d4)] w fun e w' => e = .returned (.bool (sameI x y)) ∧ Below w.heap.size w w' := by
  have hbx : Below w.heap.size w ((w.alloc (.cells (cellsIt x A4 c4) 35)).alloc (.cells (cellsIt y B4 d4) 35)) := ((Below.refl _ _).alloc (Nat.le_refl _) _).alloc (by simp) _
  have hcv1 := Kd.C_string (P := Try.prog) (A := A4) (c := c4) Try.underlying33 Try.underlying5 Try.underlying9 (Kd.C_below hr4 hbx)
  have hcv2 := Kd.C_string (P := Try.prog) (A := B4) (c := d4) Try.underlying33 Try.underlying5 Try.underlying9 (Kd.C_below gr4 hbx)
  have HBX := Aside0.mk hbx
  clear hr4 gr4 hbx
  unfold cellsIt at hcv1 hcv2 HBX
  unfold cellsIt
  have HS := Lib.hid (show sameI x y = ((x.f0.toList == y.f0.toList) && ((x.f1 == y.f1) && ((x.f2 == y.f2) && ((x.f3 == y.f3) && ((x.f5.toList == y.f5.toList) && ((strOfNums x.f4).toList == (strOfNums y.f4).toList)))))) from rfl)
  generalize sameI x y = r at *
  go_enter Try.func25, Try.ntmps25
  by_cases h0 : x.f0.toList = y.f0.toList
  · have e0 : (x.f0.toList == y.f0.toList) = true := by simpa using h0
    rw [e0, Bool.true_and] at HS
    by_cases h1 : x.f1 = y.f1
    · have e1 : (x.f1 == y.f1) = true := by simpa using h1
      clear h1
      rw [e1, Bool.true_and] at HS
      by_cases h2 : x.f2 = y.f2
      · have e2 : (x.f2 == y.f2) = true := by simpa using h2
        clear h2
        rw [e2, Bool.true_and] at HS
        by_cases h3 : x.f3 = y.f3
        · have e3 : (x.f3 == y.f3) = true := by simpa using h3
          clear h3
          rw [e3, Bool.true_and] at HS
          by_cases h5 : x.f5.toList = y.f5.toList
          · have e5 : (x.f5.toList == y.f5.toList) = true := by simpa using h5
            rw [e5, Bool.true_and] at HS
            go_wp2
            go_ret
            exact ⟨by rw [HS.out]; rfl, ((Below.refl _ _).alloc (Nat.le_refl _) _).alloc (by simp) _⟩
          · have e5 : (x.f5.toList == y.f5.toList) = false := by simpa using h5
            rw [e5, Bool.false_and] at HS
            go_wp2
            go_ret
            exact ⟨by rw [HS.out]; rfl, ((Below.refl _ _).alloc (Nat.le_refl _) _).alloc (by simp) _⟩
        · have e3 : (x.f3 == y.f3) = false := by simpa using h3
          rw [e3, Bool.false_and] at HS
          go_wp2
          go_ret
          exact ⟨by rw [HS.out]; rfl, ((Below.refl _ _).alloc (Nat.le_refl _) _).alloc (by simp) _⟩
      · have e2 : (x.f2 == y.f2) = false := by simpa using h2
        rw [e2, Bool.false_and] at HS
        go_wp2
        go_ret
        exact ⟨by rw [HS.out]; rfl, ((Below.refl _ _).alloc (Nat.le_refl _) _).alloc (by simp) _⟩
    · have e1 : (x.f1 == y.f1) = false := by simpa using h1
      rw [e1, Bool.false_and] at HS
      go_wp2
      go_ret
      exact ⟨by rw [HS.out]; rfl, ((Below.refl _ _).alloc (Nat.le_refl _) _).alloc (by simp) _⟩
  · have e0 : (x.f0.toList == y.f0.toList) = false := by simpa using h0
    rw [e0, Bool.false_and] at HS
    go_wp2
    go_ret
    exact ⟨by rw [HS.out]; rfl, ((Below.refl _ _).alloc (Nat.le_refl _) _).alloc (by simp) _⟩
noncomputable def sameFrom (xs ys : List S35) (k : Nat) : Bool := @ite Bool (∀ j : Nat, k ≤ j → j < xs.length → sameI (rd_T35 xs j) (rd_T35 ys j) = true) (Classical.propDecidable _) true false
theorem sameFrom_yes {xs ys : List S35} {k : Nat} (h : ∀ j : Nat, k ≤ j → j < xs.length → sameI (rd_T35 xs j) (rd_T35 ys j) = true) : sameFrom xs ys k = true := by unfold sameFrom; exact if_pos h
theorem sameFrom_no {xs ys : List S35} {k : Nat} (h : ¬ ∀ j : Nat, k ≤ j → j < xs.length → sameI (rd_T35 xs j) (rd_T35 ys j) = true) : sameFrom xs ys k = false := by unfold sameFrom; exact if_neg h
theorem sameFrom_end {xs ys : List S35} {k : Nat} (h : xs.length ≤ k) : sameFrom xs ys k = true := sameFrom_yes (fun j h1 h2 => by omega)
theorem sameFrom_go {xs ys : List S35} {k : Nat} (hk : k < xs.length) (h : sameI (rd_T35 xs k) (rd_T35 ys k) = true) : sameFrom xs ys k = sameFrom xs ys (k + 1) := by
  by_cases H : ∀ j : Nat, k + 1 ≤ j → j < xs.length → sameI (rd_T35 xs j) (rd_T35 ys j) = true
  · rw [sameFrom_yes H]
    refine sameFrom_yes (fun j h1 h2 => ?_)
    rcases Nat.eq_or_lt_of_le h1 with e | e
    · rw [← e]; exact h
    · exact H j e h2
  · rw [sameFrom_no H]
    exact sameFrom_no (fun h' => H (fun j h1 h2 => h' j (by omega) h2))
theorem sameFrom_stop {xs ys : List S35} {k : Nat} (hk : k < xs.length) (h : sameI (rd_T35 xs k) (rd_T35 ys k) = false) : sameFrom xs ys k = false :=
  sameFrom_no (fun H => by rw [H k (Nat.le_refl _) hk] at h; cases h)
noncomputable def sameP (xs ys : List S35) : Bool := if xs.length = ys.length then sameFrom xs ys 0 else false
theorem sameI_self (x : S35) : sameI x x = true := by simp [sameI]
theorem sameP_self (xs : List S35) : sameP xs xs = true := by
  unfold sameP
  rw [if_pos rfl]
  exact sameFrom_yes (fun j _ _ => sameI_self _)
set_option maxRecDepth 100000 in
set_option maxHeartbeats 8000000 in
theorem equalFunc_any (A : Option Addr) (c : Nat) (xs : List S35) (B : Option Addr) (d : Nat) (ys : List S35) (w : World) (hr : Kd.C k35 w A xs.length xs) (hs : Kd.C k35 w B ys.length ys) (hx : xs.length ≤ 140737488355328) (hy : ys.length ≤ 140737488355328) :
    Calls Try.prog 24 #[.slice A xs.length c, .slice B ys.length d, .func (.func 25) #[] #[]] w fun e w' => e = .returned (.bool (sameP xs ys)) ∧ Below w.heap.size w w' := by
  have HR := Aside0.mk hr
  have HS := Aside0.mk hs
  clear hr hs
  have hcall : ∀ (args : Array Value) (W : World), (callFunc 25 args).run Try.prog W = .ok (.enter 25 args) W := fun args W => by kernel_rfl
  obtain ⟨r, hr⟩ : ∃ r, r = sameP xs ys := ⟨_, rfl⟩
  have HP := Lib.hid hr.symm
  rw [← hr]
  clear hr
  go_enter Try.func24, Try.ntmps24
  by_cases hn : xs.length = ys.length
  case neg =>
    have hz : ¬ ((xs.length : Int) = (ys.length : Int)) := by omega
    have hr : r = false := by rw [← HP.out]; unfold sameP; rw [if_neg hn]
    subst hr
    go_wp2
    go_ret
    exact ⟨rfl, Below.refl _ _⟩
  have HN := Aside0.mk (show sameFrom xs ys 0 = r by rw [← HP.out]; unfold sameP; rw [if_pos hn])
  have hn1 : xs.length ≤ ys.length := by omega
  have hn2 : ys.length ≤ xs.length := by omega
  have hnz : ((xs.length : Int) == (ys.length : Int)) = true := by rw [beq_iff_eq]; omega
  have hnd : ¬ (¬ xs.length = ys.length) := by simpa using hn
  go_wp2_with fail
  clear hn hnd
  go_loopw [7, 8, 9, 17] (fun _ _ _ i wr => ∃ k : Nat, k ≤ xs.length ∧ i = .int .i64 k ∧ Aside0 (Below w.heap.size w wr) ∧ Aside0 (sameFrom xs ys k = r)) (fun _ _ _ i _ => xs.length - (intOf i).toNat)
  case atStart => exact ⟨0, Nat.zero_le _, rfl, ⟨Below.refl _ _⟩, HN⟩
  case round =>
    obtain ⟨k, hk, rfl, hB, HK⟩ := hrel
    by_cases hlt : k < xs.length
    · obtain ⟨ad, A4, c4, rfl, h0, h1, h2, h3, h4, h5, hl, hr4⟩ := at_it HR.out hB.out k hlt
      obtain ⟨bd, B4, d4, rfl, g0, g1, g2, g3, g4, g5, gl, gr4⟩ := at_it HS.out hB.out k (by omega)
      have hlt2 : k < ys.length := by omega
      have HR4 := Aside0.mk hr4
      have GR4 := Aside0.mk gr4
      have lt0 := World.block_lt_of_cell? _ _ g0
      clear hr4 gr4
      go_wp2_with fail
      refine (equal_any (rd_T35 xs k) (rd_T35 ys k) A4 B4 c4 d4 _ hl gl (Kd.C_below HR4.out (((Below.refl _ wr).alloc (Nat.le_refl _) _).alloc (by simp) _)) (Kd.C_below GR4.out (((Below.refl _ wr).alloc (Nat.le_refl _) _).alloc (by simp) _))).mono ?_
      rintro e w1 ⟨rfl, hb⟩
      have HB1 := Aside0.mk (hB.out.trans ((((Below.refl _ wr).alloc (Nat.le_refl _) _).alloc (by simp) _).trans (hb.mono (by simp; omega)) |>.mono hB.out.size))
      clear hb h0 h1 h2 h3 h4 h5 g0 g1 g2 g3 g4 g5
      cases hs : sameI (rd_T35 xs k) (rd_T35 ys k) with
      | true =>
        have HK2 := Aside0.mk ((sameFrom_go hlt hs).symm.trans HK.out)
        clear hs
        go_wp2
        go_roundw
        case rel => exact ⟨k + 1, by omega, by go_num, HB1, HK2⟩
        case measure => simp [intOf]; omega
      | false =>
        have hr : false = r := (sameFrom_stop hlt hs).symm.trans HK.out
        subst hr
        clear hs
        go_wp2
        go_ret
        exact ⟨rfl, HB1.out⟩
    · obtain rfl : k = xs.length := by omega
      have hr : true = r := by rw [← HK.out]; exact (sameFrom_end (Nat.le_refl _)).symm
      subst hr
      go_wp2
      go_ret
      exact ⟨rfl, hB.out⟩
theorem treesame_any (A : Option Addr) (c : Nat) (xs : List S35) (B : Option Addr) (d : Nat) (ys : List S35) (w : World) (hr : Kd.C k35 w A xs.length xs) (hs : Kd.C k35 w B ys.length ys) (hx : xs.length ≤ 140737488355328) (hy : ys.length ≤ 140737488355328) :
    Calls Try.prog 12 #[.slice A xs.length c, .slice B ys.length d] w fun e w' => e = .returned (.bool (sameP xs ys)) ∧ Below w.heap.size w w' := by
  have h := equalFunc_any A c xs B d ys w hr hs hx hy
  generalize sameP xs ys = r at h ⊢
  clear hr hs
  go_enter Try.func12, Try.ntmps12
  go_wp2_with fail
  refine h.mono ?_
  rintro e w1 ⟨rfl, hb⟩
  have HB := Aside0.mk hb
  clear hb h
  go_wp2
  go_ret
  exact ⟨rfl, HB.out⟩
end Go.Proofs.Ythpecpkncifngaa.X
end

/- The contracts of the reference's Sort, Beneath and Same, of any lists. -/
section
namespace Go.Proofs.Ythpecpkncifngaa.X
open Go.RowKit Go.Shelf Go.Proofs.Ythpecpkncifngaa Go.Proofs.YthpecpkncifngaaW.PrintWords Go.Proofs.YthpecpkncifngaaW.PrintLast Go.Proofs.YthpecpkncifngaaW.PrintMore Go.Proofs.Ythpecpkncifngaa.Pure
theorem wo_ltI : So.Wo ltI where
  irr x := by
    refine decide_eq_false ?_
    have : cmpI x x = 0 := Nm.cmp_self _
    omega
  tr x y z h1 h2 := by
    have a1 := of_decide_eq_true h1
    have a2 := of_decide_eq_true h2
    exact decide_eq_true (Nm.cmp_lt_le a1 (by show cmpI y z ≤ 0; omega))
  nt x y z h1 h2 := by
    have a1 := of_decide_eq_false h1
    have a2 := of_decide_eq_false h2
    have n1 := cmpI_neg x y
    have n2 := cmpI_neg y z
    have n3 := cmpI_neg x z
    refine decide_eq_false ?_
    have : cmpI z x ≤ 0 := Nm.cmp_le_trans (y := Nm.texts y.f0.data.toList) (by show cmpI z y ≤ 0; omega) (by show cmpI y x ≤ 0; omega)
    omega
theorem insS_good {out : List S35} (x : S35) (hs : So.Sorted ltI out) : So.Sorted ltI (insS out x) ∧ So.Stab ltI (out ++ [x]) (insS out x) := by
  have hp := place_le out x out.length
  obtain ⟨p, hpe⟩ : ∃ p, p = place out x out.length := ⟨_, rfl⟩
  have hb : ∀ z ∈ out.drop p, cmpI z x = 1 := by
    intro z hz
    obtain ⟨t, ht, rfl⟩ := List.getElem_of_mem hz
    rw [List.length_drop] at ht
    rw [List.getElem_drop]
    have := place_behind out x out.length (p + t) (by omega) (by omega)
    rwa [rd_get out (p + t) (by omega)] at this
  have ha : ∀ z ∈ out.take p, cmpI z x ≤ 0 := by
    intro z hz
    obtain ⟨t, ht, rfl⟩ := List.getElem_of_mem hz
    rw [List.length_take] at ht
    rw [List.getElem_take]
    have h1 := place_ahead out x out.length (p - 1) (by omega)
    rw [rd_get out (p - 1) (by omega)] at h1
    have h2 : cmpI out[p - 1] x ≤ 0 := by
      rcases Nm.cmp_vals (Nm.texts out[p - 1].f0.data.toList) (Nm.texts x.f0.data.toList) with e | e | e
      · show Nm.cmpL _ _ ≤ 0; omega
      · show Nm.cmpL _ _ ≤ 0; omega
      · exact absurd e h1
    rcases Nat.lt_or_ge t (p - 1) with h | h
    · have h3 := List.pairwise_iff_getElem.1 hs t (p - 1) (by omega) (by omega) h
      have h4 := of_decide_eq_false h3
      have h5 := cmpI_neg out[p - 1] out[t]
      exact Nm.cmp_le_trans (y := Nm.texts out[p - 1].f0.data.toList) (by show cmpI out[t] out[p - 1] ≤ 0; omega) h2
    · have : t = p - 1 := by omega
      subst this
      exact h2
  have hd : So.Sorted ltI (out.take p ++ out.drop p) := by rw [List.take_append_drop]; exact hs
  obtain ⟨s1, s2, s3⟩ := So.sorted_app.1 hd
  unfold insS
  rw [← hpe]
  constructor
  · refine So.sorted_app.2 ⟨So.sorted_app.2 ⟨s1, by simp [So.Sorted], fun z hz v hv => ?_⟩, s2, fun z hz v hv => ?_⟩
    · obtain rfl : v = x := by simpa using hv
      have h1 := ha z hz
      have h2 := cmpI_neg z v
      refine decide_eq_false ?_
      omega
    · rcases List.mem_append.1 hz with hz | hz
      · exact s3 z hz v hv
      · obtain rfl : z = x := by simpa using hz
        have h1 := hb v hv
        refine decide_eq_false ?_
        omega
  · have e1 : So.Stab ltI (out.drop p ++ [x]) ([x] ++ out.drop p) := So.Stab.swap wo_ltI (fun z hz v hv => by
      obtain rfl : v = x := by simpa using hv
      have h1 := hb z hz
      have h2 := cmpI_neg z v
      refine decide_eq_true ?_
      omega)
    have e2 := (So.Stab.refl (lt := ltI) (out.take p)).append e1
    rw [← List.append_assoc, List.take_append_drop, ← List.append_assoc] at e2
    exact e2
theorem sortP_fold : ∀ (xs out : List S35), So.Sorted ltI out → So.Sorted ltI (xs.foldl insS out) ∧ So.Stab ltI (out ++ xs) (xs.foldl insS out)
  | [], out, h => ⟨h, by rw [List.append_nil]; exact So.Stab.refl _⟩
  | x :: xs, out, h => by
    obtain ⟨h1, h2⟩ := insS_good x h
    obtain ⟨h3, h4⟩ := sortP_fold xs (insS out x) h1
    refine ⟨h3, ?_⟩
    have := (h2.append (So.Stab.refl (lt := ltI) xs)).trans h4
    simpa using this
theorem sortP_isort (xs : List S35) : sortP xs = So.isort ltI xs := by
  obtain ⟨h1, h2⟩ := sortP_fold xs [] List.Pairwise.nil
  exact (So.isort_eq wo_ltI h1 h2).symm
theorem heap_item : Kd.Heap k35 := Kd.heap_iso _ (Kd.heap_pair Kd.heap_string (Kd.heap_pair (Kd.heap_int _) (Kd.heap_pair (Kd.heap_int _) (Kd.heap_pair (Kd.heap_int _) (Kd.heap_pair (Kd.heap_slice _ (Kd.heap_int _)) Kd.heap_string)))))
theorem C_V {w : World} {A : Option Addr} {c : Nat} {xs : List S35} (hr : Kd.C k35 w A xs.length xs) (hc : xs.length ≤ c) : Kd.V k35 35 w w.heap.size (fun k => k < w.heap.size) (.slice A xs.length c) xs := Kd.V_mk hc (Kd.C_F heap_item hr)
theorem refsort_any (A : Option Addr) (c : Nat) (xs : List S35) (w : World) (hr : Kd.C k35 w A xs.length xs) (hc : xs.length ≤ c) (hm : xs.length ≤ 1099511627775) (hs : ∀ x ∈ xs, x.f0.size ≤ 1099511627776) :
    Calls Try.prog 10 #[.slice A xs.length c] w fun e w' => (∃ A' c', e = .returned (.slice A' (So.isort ltI xs).length c') ∧ (So.isort ltI xs).length ≤ c' ∧ Kd.C k35 w' A' (So.isort ltI xs).length (So.isort ltI xs)) ∧ Below w.heap.size w w' := by
  obtain ⟨k, hk⟩ := Ev.rounds (sort_ev xs hm hs)
  refine (tabularyref11_Sort.calls k (fun k => k < w.heap.size) A c xs (sortP xs) w (C_V hr hc) hk).mono ?_
  rintro e w' ⟨v, rfl, hN, hb⟩
  rw [sortP_isort] at hN
  obtain ⟨A', c', rfl⟩ := Kd.N_slice hN
  have h := Kd.N_reads' hN
  exact ⟨⟨A', c', rfl, h.2.1, h.2.2⟩, hb⟩
theorem refben_l0 (xs : List S35) (root : ByteArray) (hm : xs.length ≤ 1099511627775) (d : Nat) : ∀ (i : Nat) (out : List S35), i ≤ xs.length → xs.length - i = d → out.length ≤ i →
    Ev (fun k => tabularyref11_Beneath.l0 k xs root out (i : Int)) (out ++ (xs.drop i).filter (fun x => ben root.data.toList x.f0.data.toList)) := by
  induction d with
  | zero =>
    intro i out hi hd ho
    obtain rfl : i = xs.length := by omega
    rw [List.drop_length, List.filter_nil, List.append_nil]
    exact Ev.step (fun k => by simp only [tabularyref11_Beneath.l0]; rw [if_neg (by omega)]) (Ev.now _)
  | succ d ih =>
    intro i out hi hd ho
    have hlt : i < xs.length := by omega
    have hw : wrap64 ((i : Int) + 1) = ((i + 1 : Nat) : Int) := wrap_succ (by omega)
    rw [rd_drop xs i hlt]
    refine Ev.step (fun k => by simp only [tabularyref11_Beneath.l0]; rw [if_pos (by omega), if_pos (by omega)]) (Ev.bind (refbeneath_ev root (rd_T35 xs i).f0) ?_)
    by_cases hb : ben root.data.toList (rd_T35 xs i).f0.data.toList = true
    · rw [List.filter_cons_of_pos (p := fun x : S35 => ben root.data.toList x.f0.data.toList) hb]
      have e : out ++ (rd_T35 xs i :: (xs.drop (i + 1)).filter (fun x => ben root.data.toList x.f0.data.toList)) = (out ++ [rd_T35 xs i]) ++ (xs.drop (i + 1)).filter (fun x => ben root.data.toList x.f0.data.toList) := by simp
      rw [e]
      refine Ev.congr (fun k => by rw [if_pos hb, if_pos (by omega), hw, it_eta]) (ih (i + 1) (out ++ [rd_T35 xs i]) (by omega) (by omega) (by simp; omega))
    · have hb' : ben root.data.toList (rd_T35 xs i).f0.data.toList = false := by simpa using hb
      rw [List.filter_cons_of_neg (p := fun x : S35 => ben root.data.toList x.f0.data.toList) (by simpa using hb)]
      refine Ev.congr (fun k => by rw [if_neg hb, hw]) (ih (i + 1) out (by omega) (by omega) (by omega))
theorem refbeneath_any (A : Option Addr) (c : Nat) (xs : List S35) (root : ByteArray) (w : World) (hr : Kd.C k35 w A xs.length xs) (hc : xs.length ≤ c) (hm : xs.length ≤ 1099511627775) :
    Calls Try.prog 11 #[.slice A xs.length c, .string root] w fun e w' => (∃ A' c', e = .returned (.slice A' (beneathP xs root).length c') ∧ (beneathP xs root).length ≤ c' ∧ Kd.C k35 w' A' (beneathP xs root).length (beneathP xs root)) ∧ Below w.heap.size w w' := by
  have hev : Ev (fun k => tabularyref11_Beneath.f k xs root) (beneathP xs root) := by
    have := refben_l0 xs root hm _ 0 [] (Nat.zero_le _) rfl (Nat.le_refl _)
    have e : beneathP xs root = [] ++ (xs.drop 0).filter (fun x => ben root.data.toList x.f0.data.toList) := keepP_all _ _
    rw [e]
    exact Ev.congr (fun k => rfl) this
  obtain ⟨k, hk⟩ := Ev.rounds hev
  refine (tabularyref11_Beneath.calls k (fun k => k < w.heap.size) A c xs root (beneathP xs root) w (C_V hr hc) hk).mono ?_
  rintro e w' ⟨v, rfl, hN, hb⟩
  obtain ⟨A', c', rfl⟩ := Kd.N_slice hN
  have h := Kd.N_reads' hN
  exact ⟨⟨A', c', rfl, h.2.1, h.2.2⟩, hb⟩
theorem refsame_l0 (xs ys : List S35) (hn : xs.length = ys.length) (hm : xs.length ≤ 1099511627775) (d : Nat) : ∀ i : Nat, i ≤ xs.length → xs.length - i = d → Ev (fun k => tabularyref11_Same.l0 k xs ys (i : Int)) (sameFrom xs ys i) := by
  induction d with
  | zero =>
    intro i hi hd
    rw [sameFrom_end (by omega)]
    exact Ev.step (fun k => by simp only [tabularyref11_Same.l0]; rw [if_neg (by omega)]) (Ev.now _)
  | succ d ih =>
    intro i hi hd
    have hlt : i < xs.length := by omega
    have hw : wrap64 ((i : Int) + 1) = ((i + 1 : Nat) : Int) := wrap_succ (by omega)
    cases hs : sameI (rd_T35 xs i) (rd_T35 ys i) with
    | true =>
      rw [sameFrom_go hlt hs]
      simp only [sameI, Bool.and_eq_true, beq_iff_eq] at hs
      obtain ⟨s0, s1, s2, s3, s5, s4⟩ := hs
      exact Ev.step (fun k => by simp only [tabularyref11_Same.l0]; rw [if_pos (by omega), if_pos (by omega), if_pos (by omega), if_pos s0, if_pos s1, if_pos s2, if_pos s3, if_pos s5, if_pos s4, hw]) (ih (i + 1) (by omega) (by omega))
    | false =>
      rw [sameFrom_stop hlt hs]
      refine Ev.step (f := fun _ => some false) (fun k => ?_) (Ev.now _)
      simp only [tabularyref11_Same.l0]
      rw [if_pos (by omega), if_pos (by omega), if_pos (by omega)]
      by_cases s0 : (rd_T35 xs i).f0.toList = (rd_T35 ys i).f0.toList
      · rw [if_pos s0]
        by_cases s1 : (rd_T35 xs i).f1 = (rd_T35 ys i).f1
        · rw [if_pos s1]
          by_cases s2 : (rd_T35 xs i).f2 = (rd_T35 ys i).f2
          · rw [if_pos s2]
            by_cases s3 : (rd_T35 xs i).f3 = (rd_T35 ys i).f3
            · rw [if_pos s3]
              by_cases s5 : (rd_T35 xs i).f5.toList = (rd_T35 ys i).f5.toList
              · rw [if_pos s5]
                by_cases s4 : (strOfNums (rd_T35 xs i).f4).toList = (strOfNums (rd_T35 ys i).f4).toList
                · exfalso
                  have : sameI (rd_T35 xs i) (rd_T35 ys i) = true := by simp only [sameI, Bool.and_eq_true, beq_iff_eq]; exact ⟨s0, s1, s2, s3, s5, s4⟩
                  rw [this] at hs; cases hs
                · rw [if_neg s4]
              · rw [if_neg s5]
            · rw [if_neg s3]
          · rw [if_neg s2]
        · rw [if_neg s1]
      · rw [if_neg s0]
theorem refsame_any (A : Option Addr) (c : Nat) (xs : List S35) (B : Option Addr) (d : Nat) (ys : List S35) (w : World) (hr : Kd.C k35 w A xs.length xs) (hc : xs.length ≤ c) (hs : Kd.C k35 w B ys.length ys) (hd : ys.length ≤ d) (hm : xs.length ≤ 1099511627775) :
    Calls Try.prog 9 #[.slice A xs.length c, .slice B ys.length d] w fun e w' => e = .returned (.bool (sameP xs ys)) ∧ Below w.heap.size w w' := by
  have hev : Ev (fun k => tabularyref11_Same.f k xs ys) (sameP xs ys) := by
    unfold sameP
    by_cases hn : xs.length = ys.length
    · rw [if_pos hn]
      refine Ev.congr (fun k => by rw [tabularyref11_Same.f, if_pos (by omega)]; rfl) (refsame_l0 xs ys hn hm _ 0 (Nat.zero_le _) rfl)
    · rw [if_neg hn]
      exact Ev.congr (fun k => by rw [tabularyref11_Same.f, if_neg (by omega)]) (Ev.now _)
  obtain ⟨k, hk⟩ := Ev.rounds hev
  exact tabularyref11_Same.calls k A c xs B d ys (sameP xs ys) w hr hc hs hd hk
end Go.Proofs.Ythpecpkncifngaa.X
end

/- TreeSorts: the law's walk. -/
section
namespace Go.Proofs.Ythpecpkncifngaa.X
open Go Go.RowKit Go.Shelf Go.Proofs.Ythpecpkncifngaa Go.Proofs.YthpecpkncifngaaW.PrintWords Go.Proofs.YthpecpkncifngaaW.PrintLast Go.Proofs.YthpecpkncifngaaW.PrintMore Go.Proofs.Ythpecpkncifngaa.Pure
set_option maxRecDepth 100000 in
set_option maxHeartbeats 8000000 in
theorem treeSorts_walk (A : Option Addr) (c : Nat) (xs : List S35) (B : Option Addr) (d : Nat) (ys : List S35) (path : ByteArray) (w : World) (hr : Kd.C k35 w A xs.length xs) (hc : xs.length ≤ c) (hm : xs.length * 80 ≤ 140737488351232) (hb4 : ∀ x ∈ xs, x.f4.length ≤ 140737488351232) (hb0 : ∀ x ∈ xs, x.f0.size ≤ 1048576) (hs : Kd.C k35 w B ys.length ys) (hd : ys.length ≤ d) (hmy : ys.length * 80 ≤ 140737488351232) (hp : path.size ≤ 1048576) (hxl : xs.length ≤ 1048576) :
    Calls Try.prog 3 #[.slice A xs.length c, .slice B ys.length d, .string path] w fun e w' => e = .returned (.bool true) ∧ Below w.heap.size w w' := by
  have HR := Aside0.mk hr
  have HS := Aside0.mk hs
  have H4 := Aside0.mk hb4
  have H4' := Aside0.mk (show ∀ x ∈ xs, x.f4.length ≤ 140737488355328 from fun x hx => Nat.le_trans (hb4 x hx) (by decide))
  have H0 := Aside0.mk (show ∀ x ∈ xs, x.f0.size ≤ 140737488355328 from fun x hx => Nat.le_trans (hb0 x hx) (by decide))
  have H0' := Aside0.mk (show ∀ x ∈ xs, x.f0.size ≤ 1099511627776 from fun x hx => Nat.le_trans (hb0 x hx) (by decide))
  have hyl : ys.length ≤ 140737488355328 := by omega
  clear hr hs hb4 hb0
  go_enter Try.func3, Try.ntmps3
  go_wp2_with fail
  refine (lent_any A c xs _ HR.out hm H4.out).mono ?_
  rintro e w1 ⟨⟨A', c', rfl, hc', hcm', hL⟩, hb⟩
  have HB1 := Aside0.mk hb
  have HL1 := Aside0.mk hL
  clear hb hL
  go_wp2_with fail
  refine (sort_own A' c' xs _ (lent_reads HL1.out) hm H4'.out H0.out).mono ?_
  rintro e w2 ⟨⟨A2, c2, rfl, hc2, hN2⟩, hb⟩
  have HB2 := Aside0.mk (HB1.out.trans (hb.mono HB1.out.size))
  have HL2 := Aside0.mk (Kd.C_below HL1.out hb)
  have hil := So.isort_len (lt := ltI) xs
  have HC2 := Aside0.mk (show Kd.C k35 w2 A2 (So.isort ltI xs).length (So.isort ltI xs) from (Kd.N_reads' hN2).2.2)
  clear hb hN2 HB1 HL1
  go_wp2_with fail
  refine (find_any A' c' xs path _ (lent_reads HL2.out) (by omega)).mono ?_
  rintro e w3 ⟨rfl, hb⟩
  have HB3 := Aside0.mk (HB2.out.trans (hb.mono HB2.out.size))
  have HL3 := Aside0.mk (Kd.C_below HL2.out hb)
  have HC3 := Aside0.mk (Kd.C_below HC2.out hb)
  clear hb HB2 HL2 HC2
  go_wp2_with fail
  refine (tree_beneath A' c' xs path _ (lent_reads HL3.out) hm H4'.out).mono ?_
  rintro e w4 ⟨⟨v4, rfl, hV4⟩, hb⟩
  obtain ⟨A4, c4, rfl⟩ := Kd.V_slice hV4
  have HB4 := Aside0.mk (HB3.out.trans (hb.mono HB3.out.size))
  have HL4 := Aside0.mk (Kd.C_below HL3.out hb)
  have HC4 := Aside0.mk (Kd.C_below HC3.out hb)
  have HE4 := Aside0.mk (Kd.V_reads' hV4)
  clear hb hV4 HB3 HL3 HC3
  go_wp2_with fail
  refine (reffind_any A c xs path _ (Kd.C_below HR.out HB4.out) hc (by omega)).mono ?_
  rintro e w5 ⟨rfl, hb⟩
  have HB5 := Aside0.mk (HB4.out.trans (hb.mono HB4.out.size))
  have HL5 := Aside0.mk (Kd.C_below HL4.out hb)
  have HC5 := Aside0.mk (Kd.C_below HC4.out hb)
  have HE5 := Aside0.mk (And.intro HE4.out.2.1 (Kd.C_below HE4.out.2.2 hb))
  clear hb HB4 HL4 HC4 HE4
  have e1 : ((findP xs path).1 == (findP xs path).1) = true := beq_self_eq_true _
  have e2 : ((findP xs path).2 == (findP xs path).2) = true := beq_self_eq_true _
  obtain ⟨zs, hzs⟩ : ∃ zs, zs = So.isort ltI xs := ⟨_, rfl⟩
  have HZ := Aside0.mk hzs
  rw [← hzs] at hil HC5
  have hzl : zs.length ≤ xs.length := by omega
  have hzl2 : xs.length ≤ zs.length := by omega
  have hcall := refsort_any A c xs w5 (Kd.C_below HR.out HB5.out) hc (by omega) H0'.out
  rw [← hzs] at hcall
  have HCALL := Aside0.mk hcall
  clear hcall hzs
  have HZL := Aside0.mk hil
  clear hil
  go_wp2_with fail
  refine HCALL.out.mono ?_
  rintro e w6 ⟨⟨A6, c6, rfl, hc6, hC6⟩, hb⟩
  have HB6 := Aside0.mk (HB5.out.trans (hb.mono HB5.out.size))
  have HL6 := Aside0.mk (Kd.C_below HL5.out hb)
  have HC6 := Aside0.mk (Kd.C_below HC5.out hb)
  have HD6 := Aside0.mk hC6
  have HE6 := Aside0.mk (And.intro HE5.out.1 (Kd.C_below HE5.out.2 hb))
  clear hb hC6 HB5 HL5 HC5 HE5 HCALL
  have hsame := same_any A2 zs.length A6 c6 zs w6 HC6.out (Nat.le_refl _) HD6.out hc6 (by omega)
  rw [HZL.out] at hsame
  go_wp2_with fail
  rw [HZL.out]
  refine hsame.mono ?_
  rintro e w7 ⟨rfl, hb⟩
  have HB7 := Aside0.mk (HB6.out.trans (hb.mono HB6.out.size))
  have HL7 := Aside0.mk (Kd.C_below HL6.out hb)
  have HE7 := Aside0.mk (And.intro HE6.out.1 (Kd.C_below HE6.out.2 hb))
  clear hb HB6 HL6 HC6 HD6 HE6 hsame HZL HZ hzl hzl2
  go_wp2_with fail
  refine (refbeneath_any A c xs path _ (Kd.C_below HR.out HB7.out) hc (by omega)).mono ?_
  rintro e w8 ⟨⟨A8, c8, rfl, hc8, hC8⟩, hb⟩
  have HB8 := Aside0.mk (HB7.out.trans (hb.mono HB7.out.size))
  have HL8 := Aside0.mk (Kd.C_below HL7.out hb)
  have HE8 := Aside0.mk (Kd.C_below HE7.out.2 hb)
  have HD8 := Aside0.mk hC8
  have hbl : (beneathP xs path).length ≤ xs.length := keepP_len _ _ _
  clear hb hC8 HB7 HL7
  go_wp2_with fail
  refine (same_any A4 c4 A8 c8 (beneathP xs path) _ HE8.out HE7.out.1 HD8.out hc8 (by omega)).mono ?_
  rintro e w9 ⟨rfl, hb⟩
  have HB9 := Aside0.mk (HB8.out.trans (hb.mono HB8.out.size))
  have HL9 := Aside0.mk (Kd.C_below HL8.out hb)
  clear hb HB8 HL8 HE8 HD8 HE7 hc8 hbl
  obtain ⟨q, hq⟩ : ∃ q, q = sameP xs ys := ⟨_, rfl⟩
  have h10 := treesame_any A c xs B d ys w9 (Kd.C_below HR.out HB9.out) (Kd.C_below HS.out HB9.out) (by omega) hyl
  rw [← hq] at h10
  have H10 := Aside0.mk h10
  have HQ := Aside0.mk hq
  clear h10 hq
  have hqq : (q == q) = true := beq_self_eq_true q
  go_wp2_with fail
  refine H10.out.mono ?_
  rintro e w10 ⟨rfl, hb⟩
  have HB10 := Aside0.mk (HB9.out.trans (hb.mono HB9.out.size))
  have HL10 := Aside0.mk (Kd.C_below HL9.out hb)
  clear hb HB9 HL9 H10
  have h11 := refsame_any A c xs B d ys w10 (Kd.C_below HR.out HB10.out) hc (Kd.C_below HS.out HB10.out) hd (by omega)
  rw [← HQ.out] at h11
  have H11 := Aside0.mk h11
  clear h11
  go_wp2_with fail
  refine H11.out.mono ?_
  rintro e w11 ⟨rfl, hb⟩
  have HB11 := Aside0.mk (HB10.out.trans (hb.mono HB10.out.size))
  have HL11 := Aside0.mk (Kd.C_below HL10.out hb)
  clear hb HB10 HL10 H11
  have h12 := treesame_any A' c' xs A c xs w11 (lent_reads HL11.out) (Kd.C_below HR.out HB11.out) (by omega) (by omega)
  rw [sameP_self] at h12
  have H12 := Aside0.mk h12
  clear h12
  go_wp2_with fail
  refine H12.out.mono ?_
  rintro e w12 ⟨rfl, hb⟩
  have HB12 := Aside0.mk (HB11.out.trans (hb.mono HB11.out.size))
  have HL12 := Aside0.mk (Kd.C_below HL11.out hb)
  clear hb HB11 HL11 H12
  go_wp2_with fail
  refine (kept_any A' c' A c xs _ HL12.out hc' hcm' (Kd.C_below HR.out HB12.out) hc (by omega)).mono ?_
  rintro e w13 ⟨rfl, hb⟩
  have HB13 := Aside0.mk (HB12.out.trans (hb.mono HB12.out.size))
  clear hb
  go_wp2
  go_ret
  exact ⟨rfl, HB13.out⟩
end Go.Proofs.Ythpecpkncifngaa.X
end

/- A list of items laid open: its length is no greater than its bulk. -/
section
namespace Go.Proofs.Ythpecpkncifngaa.Op3
open Go.RowKit Go.Proofs.YthpecpkncifngaaW.PrintWords
section
variable {H : Type} {enc : TypeId × Value → H} {P : Program} {W : World} {base : Nat} {spare : Nat → Bool} {held : Bool}
theorem bulk_pos {H : Type} (d : DataW H) : 1 ≤ Rows.uptoBulk d := by
  cases d with
  | lit x => cases x <;> simp [Rows.uptoBulk]
  | _ => simp [Rows.uptoBulk]
theorem bulk_len {H : Type} : ∀ l : List (DataW H), l.length ≤ Rows.uptoBulkAll l
  | [] => Nat.zero_le _
  | d :: r => by
    have h1 := bulk_pos d
    have h2 := bulk_len r
    simp only [List.length_cons, Rows.uptoBulkAll]
    omega
theorem opens_sliceL {t e : TypeId} {α : Type} {d : Kd α} {G : α → Prop} {b : Nat} (ht : P.underlying t = some (.slice e)) (hc : P.cellsOf e = d.sz) (hb : P.bytesOf e = b) (he : Opens enc P W base spare held e d G) :
    Opens enc P W base spare held t (Kd.slice e d) (fun xs => xs.length * b ≤ 140737488351232 ∧ xs.length ≤ 1048576 ∧ ∀ x ∈ xs, G x) := by
  intro fuel cs x h hw hu
  rcases DataW.trod_slice ht h with ⟨rfl, rfl⟩ | ⟨a, len, cap, elems, rest, n, _, rfl, rfl, hbs, hl, hm, hlen, hel, _, _⟩
  · exact ⟨[], ⟨none, 0, rfl, Nat.le_refl _, Kd.C_nil _ _⟩, by simp, by simp, by simp⟩
  · simp only [DataW.weights, ht] at hw
    simp only [Rows.uptoBulk] at hu
    have h1 := hw ((List.map (·.1) elems).length + (List.map (·.1) rest).length |> (· * P.bytesOf e)) List.mem_cons_self
    have each : ∀ i y, elems[i]? = some y → ∃ z, (∃ c, c.length = d.sz ∧ d.K W z c ∧ ∀ j u, c[j]? = some u → W.cell? (a.add (i * d.sz + j)) = some u) ∧ G z := by
      intro i y hy
      have hi : i < len := by rw [← hlen]; exact (List.getElem?_eq_some_iff.1 hy).1
      have hq := hel i hi
      rw [hy, Option.bind_eq_some_iff] at hq
      obtain ⟨c, hcs, hy'⟩ := hq
      obtain ⟨z, hz, hg⟩ := he n c y hy' (fun m hm' => hw m (List.mem_cons_of_mem _ (List.mem_append_left _ (weightsAll_mem (List.mem_map.2 ⟨y, List.mem_of_getElem? hy, rfl⟩) hm')))) (by have := bulk_mem (List.mem_map.2 ⟨y, List.mem_of_getElem? hy, rfl⟩ : y.1 ∈ elems.map (·.1)); omega)
      rw [hc] at hcs
      obtain ⟨q1, q2⟩ := cells_all hcs
      refine ⟨z, ⟨c, q1, hz, fun j u hu => ?_⟩, hg⟩
      have := q2 j u hu
      rwa [add_add] at this
    obtain ⟨zs, hzl, hz⟩ := choose_list elems each
    have hzlen : zs.length = len := hzl.trans hlen
    have get : ∀ i z, zs[i]? = some z → (∃ c, c.length = d.sz ∧ d.K W z c ∧ ∀ j u, c[j]? = some u → W.cell? (a.add (i * d.sz + j)) = some u) ∧ G z := by
      intro i z hzi
      have hi : i < elems.length := by rw [← hzl]; exact (List.getElem?_eq_some_iff.1 hzi).1
      exact hz i _ z (List.getElem?_eq_getElem hi) hzi
    have hmx : cap ≤ 9223372036854775807 := by unfold maxLen at hm; omega
    refine ⟨zs, ⟨some a, cap, by rw [hzlen], by omega, ⟨hzlen ▸ rfl, by omega, fun _ => ⟨a, rfl, fun j p hj => (get j p hj).1⟩⟩⟩, ?_, by have h9 := bulk_len (elems.map (·.1)); rw [List.length_map] at h9; omega, ?_⟩
    · rw [hzlen, ← hlen]
      rw [hb] at h1
      simp only [List.length_map] at h1
      have : elems.length * b ≤ (elems.length + rest.length) * b := Nat.mul_le_mul_right _ (Nat.le_add_right _ _)
      exact Nat.le_trans this h1
    · intro z hz'
      obtain ⟨i, hi⟩ := List.getElem?_of_mem hz'
      exact (get i z hi).2
end
end Go.Proofs.Ythpecpkncifngaa.Op3
namespace Go.Proofs.Ythpecpkncifngaa.X
open Go.RowKit Go.Proofs.YthpecpkncifngaaW.PrintWords Go.Proofs.Ythpecpkncifngaa.Op3
theorem opens_itemsLU {H : Type} {enc : TypeId × Value → H} {W : World} {base : Nat} {spare : Nat → Bool} {held : Bool} : Opens enc Try.prog W base spare held 22 (Kd.slice 35 k35) (fun xs => xs.length * 80 ≤ 140737488351232 ∧ xs.length ≤ 1048576 ∧ ∀ x ∈ xs, GoodItU x) :=
  opens_sliceL Try.underlying22 (by kernel_rfl) (by kernel_rfl) opens_itemU
end Go.Proofs.Ythpecpkncifngaa.X
end

section
namespace Go.Proofs.Ythpecpkncifngaa.treeSortsRow
open Go.ChangeShapes Go.WideShapes Go.ChangeAt Go.RowKit
open Go.ChangeMaps (open_string shut_string)
theorem own : ownKnob Try.prog.godebug = none := by kernel_rfl
open Go.Proofs.Ythpecpkncifngaa Go.Proofs.YthpecpkncifngaaW.PrintWords
theorem laidOut : laidOutB Try.prog = true := by kernel_rfl
theorem walk (A0 : Option Addr) (c0 : Nat) (a0 : List X.S35) (A1 : Option Addr) (c1 : Nat) (a1 : List X.S35) (a2 : ByteArray) (w : World) (h0 : Kd.C X.k35 w A0 a0.length a0) (hc0 : a0.length ≤ c0) (hg0 : a0.length * 80 ≤ 140737488351232 ∧ a0.length ≤ 1048576 ∧ ∀ x ∈ a0, X.GoodItU x) (h1 : Kd.C X.k35 w A1 a1.length a1) (hc1 : a1.length ≤ c1) (hg1 : a1.length * 80 ≤ 140737488351232 ∧ a1.length ≤ 1048576 ∧ ∀ x ∈ a1, X.GoodItU x) (h2 : a2.size ≤ 1048576) : Calls Try.prog 3 #[.slice A0 a0.length c0, .slice A1 a1.length c1, .string a2] w fun e w' => e = .returned (.bool true) ∧ Below w.heap.size w w' := by
  exact X.treeSorts_walk A0 c0 a0 A1 c1 a1 a2 w h0 hc0 hg0.1 (fun x hx => by have := (hg0.2.2 x hx).2.2.2.2.1.1; omega) (fun x hx => (hg0.2.2 x hx).1) h1 hc1 hg1.1 h2 hg0.2.1
set_option maxRecDepth 100000 in
theorem contract (H : Type) (enc : TypeId × Value → H) (W : World) (base : Nat) (args : Array Value) (ds gs : List (DataW H)) (before : List MemPlace)
    (hval : ∀ (j : Nat) t v, Try.f3.params[j]? = some t → args[j]? = some v → Value.okWide Try.prog W .any base t v)
    (hW : DataW.Whole enc Try.prog Try.f3.params.toList Rows.treeSortsSpec.vars false W args.toList ds gs before) (hk : Rows.uptoSmall H (ds ++ gs) = true) (hsz0 : (DataW.weightsEach Try.prog (Try.f3.params.toList ++ Rows.treeSortsSpec.plain.varTypes Try.prog) (ds ++ gs)).all (· ≤ reachBytes) = true) :
    Calls Try.prog 3 args W fun e W' => ∃ v, e = .returned v ∧ Rows.treeSortsSpec.post enc Try.prog Try.f3 false true false false W args v W' := by
  have hW' := hW
  obtain ⟨p, q, hA0, hV, rfl, hfz, hnd⟩ := hW
  have hA : DataW.TrodAll enc Try.prog W 0 (fun _ => true) true Try.f3.params.toList args.toList ds p := hA0
  have hsz := hsz0
  rw [Try.params3] at hA hval hsz
  obtain ⟨v0, vs0, d0, ds0, p0, q0, hargs, rfl, rfl, h0, r0⟩ := trodAll_cons hA
  obtain ⟨v1, vs1, d1, ds1, p1, q1, rfl, rfl, rfl, h1, r1⟩ := trodAll_cons r0
  obtain ⟨v2, vs2, d2, ds2, p2, q2, rfl, rfl, rfl, h2, r2⟩ := trodAll_cons r1
  obtain ⟨rfl, rfl, rfl⟩ := trodAll_nil r2
  obtain rfl : args = #[v0, v1, v2] := by cases args; simp_all
  obtain ⟨rfl, rfl⟩ := trodVars_none hV
  have hkb : Rows.uptoBulkAll _ ≤ 1048576 := of_decide_eq_true hk
  simp only [List.append_nil, Rows.uptoBulkAll] at hkb
  have k0 := h0
  have lt0 : ∀ x ∈ p0, x.block < W.heap.size := by obtain ⟨m, hm⟩ := k0; exact DataW.trod_lt m _ _ _ hm
  obtain ⟨va0, vl0, vc0, rfl⟩ := okWide_slice Try.underlying22 (hval 0 22 v0 rfl rfl)
  obtain ⟨m0, hm0⟩ := h0
  obtain ⟨a0, hK0, w0⟩ := X.opens_itemsLU m0 _ _ hm0 (fun n hn => of_decide_eq_true (List.all_eq_true.1 hsz n (DataW.weights_mem_each (j := 0) rfl rfl n hn))) (show Rows.uptoBulk d0 ≤ 1048576 by omega)
  obtain ⟨A0, c0, he0, wc0, wK0⟩ := hK0
  obtain ⟨ea0, el0, ec0⟩ : va0 = A0 ∧ vl0 = a0.length ∧ vc0 = c0 := by simpa [Value.cells] using he0
  obtain rfl : A0 = va0 := ea0.symm
  obtain rfl : a0.length = vl0 := el0.symm
  obtain rfl : c0 = vc0 := ec0.symm
  have k1 := h1
  have lt1 : ∀ x ∈ p1, x.block < W.heap.size := by obtain ⟨m, hm⟩ := k1; exact DataW.trod_lt m _ _ _ hm
  obtain ⟨va1, vl1, vc1, rfl⟩ := okWide_slice Try.underlying22 (hval 1 22 v1 rfl rfl)
  obtain ⟨m1, hm1⟩ := h1
  obtain ⟨a1, hK1, w1⟩ := X.opens_itemsLU m1 _ _ hm1 (fun n hn => of_decide_eq_true (List.all_eq_true.1 hsz n (DataW.weights_mem_each (j := 1) rfl rfl n hn))) (show Rows.uptoBulk d1 ≤ 1048576 by omega)
  obtain ⟨A1, c1, he1, wc1, wK1⟩ := hK1
  obtain ⟨ea1, el1, ec1⟩ : va1 = A1 ∧ vl1 = a1.length ∧ vc1 = c1 := by simpa [Value.cells] using he1
  obtain rfl : A1 = va1 := ea1.symm
  obtain rfl : a1.length = vl1 := el1.symm
  obtain rfl : c1 = vc1 := ec1.symm
  obtain ⟨a2, rfl, rfl, rfl, y2⟩ := open_string Try.underlying9 (hval 2 9 v2 rfl rfl) h2
  have hk2 : Rows.uptoBulkAll _ ≤ 1048576 := of_decide_eq_true hk
  simp only [List.append_nil, Rows.uptoBulkAll, Rows.uptoBulk] at hk2
  have e2 : a2.data.toList.length = a2.size := by rw [Array.length_toList]; rfl
  have w2 : a2.size ≤ 1048576 := by omega
  clear hA0
  refine (walk A0 c0 a0 A1 c1 a1 a2 W wK0 wc0 w0 wK1 wc1 w1 w2).mono fun e W' ⟨he, bel⟩ => ?_
  subst he
  exact ⟨_, rfl, _, _, _, [], _, [], hW', trodAll_mk1 (shut_bool Try.underlying4 _), (trodAll_cons_mk (Below.trod laidOut (by kernel_rfl) (of_decide_eq_true (by kernel_rfl)) k0 bel lt0) (trodAll_cons_mk (Below.trod laidOut (by kernel_rfl) (of_decide_eq_true (by kernel_rfl)) k1 bel lt1) (trodAll_cons_mk (shut_string Try.underlying9 y2) trodAll_mk0))), rfl, bel.frame _, fun h => by cases h⟩
set_option maxRecDepth 100000 in
theorem lifted (os : Os) (started : os.Started) (H : Type) (enc : TypeId × Value → H) (F : Stop.Interp) :
    ReturnsInHanded {} Try.checked os 3 .any ((Rows.OpenSpec.upto Rows.treeSortsSpec).pre6 enc Try.prog Try.f3 Rows.treeSortsUptoRow.domain false) (((Rows.OpenSpec.upto Rows.treeSortsSpec).at F).post enc Try.prog Try.f3 false true false false) := by
  refine returnsInHanded_of_cond_sized (C := Try.checked) (s := Rows.OpenSpec.upto Rows.treeSortsSpec) (k := Rows.uptoSmall) rfl own started (by kernel_rfl) Try.func3
    (OpenSpec.witness (enc := enc) (C := Try.checked) (s := Rows.OpenSpec.upto Rows.treeSortsSpec) (k := Rows.uptoSmall) rfl false ⟨#[], #[.slice none 0 0, .slice none 0 0, .string ByteArray.empty], []⟩ 8 (by kernel_rfl) (by kernel_rfl) (by kernel_rfl)
      (x := ([.nil, .nil, .lit (.string [])], [], [])) (by kernel_rfl) rfl (by kernel_rfl)) ?_
  intro W base args ds gs before hval hW _ hk hsz0 _
  exact contract H enc W base args ds gs before hval hW hk hsz0
theorem proved : Rows.TreeSortsUptoSaid :=
  OpenClaim.holds_of_cond 3 Try.f3 rfl rfl rfl rfl rfl rfl rfl ⟨rfl, rfl, rfl, rfl, rfl⟩ rfl rfl rfl rfl rfl (by kernel_rfl) Try.func3 (by kernel_rfl)
    (of_decide_eq_true (by kernel_rfl)) (by unfold Func.isWrapper; first | (rw [if_pos (by decide +kernel)]; kernel_rfl) | (rw [if_neg (by decide +kernel)]; exact ⟨rfl, rfl⟩))
    (fun os started H enc _ F => lifted os started H enc F)
end Go.Proofs.Ythpecpkncifngaa.treeSortsRow
namespace Go.Proofs.Ythpecpkncifngaa
theorem treeSortsUpto_holds : Rows.TreeSortsUptoSaid := treeSortsRow.proved
#print axioms treeSortsUpto_holds
end Go.Proofs.Ythpecpkncifngaa
end
