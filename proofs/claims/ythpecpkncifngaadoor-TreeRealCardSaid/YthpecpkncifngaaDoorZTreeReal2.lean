/- The row of the law tabulary/tabularylaw11.TreeReal: for every input the call returns true, and each argument reads behind the call as it read before. -/
import Derived.Test.YthpecpkncifngaaDoorZTreeReal1
import Derived.Shelf.Spec.SlicesInsertGrow
import Derived.Laws.CopyOwn
import Derived.DataElems
import Derived.Deep.LoopGhost
import Derived.Lib.TrimByte
import Derived.Deep.DeepCutAuto
import Derived.Test.YthpecpkncifngaaDoorWMore
import Derived.ChangeArms
import Derived.DataReads
import Derived.SizedLaws
import Derived.ProofKit
import Derived.Test.YthpecpkncifngaaDoorCards
import Derived.Test.YthpecpkncifngaaDoorTie
import Derived.WalkKit
import Derived.OpenShut
import Derived.ShutString
import Derived.ChangeOld
import Derived.Below
import Derived.JoinedCond
import Derived.Deep.DeepHandedRow
import Derived.Lib.LaidTab
set_option linter.unusedVariables false
set_option linter.unusedSimpArgs false
/- NameBeneath, NameCompares: the pure statements. -/
section
namespace Go.Proofs.YthpecpkncifngaaDoor.Pure
open Go.RowKit Go.Proofs.YthpecpkncifngaaDoor.X Go.Proofs.YthpecpkncifngaaDoorW.PrintWords Go.Proofs.YthpecpkncifngaaDoorW.PrintLast Go.Proofs.YthpecpkncifngaaDoorW.PrintMore
open Go.Proofs.YthpecpkncifngaaDoor
noncomputable def ben (a p : List UInt8) : Bool := @ite Bool ((Nm.check p).2 = 0 ∧ (a = [] ∨ ∃ b, p = a ++ 47 :: b)) (Classical.propDecidable _) true false
theorem ben_true {a p : List UInt8} (h : (Nm.check p).2 = 0 ∧ (a = [] ∨ ∃ b, p = a ++ 47 :: b)) : ben a p = true := by unfold ben; exact if_pos h
theorem ben_false {a p : List UInt8} (h : ¬ ((Nm.check p).2 = 0 ∧ (a = [] ∨ ∃ b, p = a ++ 47 :: b))) : ben a p = false := by unfold ben; exact if_neg h
theorem prefix_iff (a p : ByteArray) : (a.size < p.size ∧ p.data.toList.take a.size = a.data.toList ∧ p.data.toList[a.size]? = some 47) ↔ ∃ b, p.data.toList = a.data.toList ++ 47 :: b := by
  have hl := len_eq a
  have hp := len_eq p
  constructor
  · rintro ⟨h1, h2, h3⟩
    refine ⟨p.data.toList.drop (a.size + 1), ?_⟩
    obtain ⟨h4, h5⟩ := List.getElem?_eq_some_iff.1 h3
    have := List.drop_eq_getElem_cons h4
    rw [h5] at this
    rw [← this, ← h2]
    exact (List.take_append_drop _ _).symm
  · rintro ⟨b, h⟩
    have hlen := congrArg List.length h
    rw [List.length_append, List.length_cons] at hlen
    refine ⟨by omega, ?_, ?_⟩
    · rw [h, ← hl, List.take_left]
    · rw [h, ← hl, List.getElem?_append_right (Nat.le_refl _)]
      simp
theorem nbeneath (a p : ByteArray) : name_Beneath.f a p = some (ben a.data.toList p.data.toList) := by
  have hl := len_eq a
  have hlp := len_eq p
  simp only [name_Beneath.f, ncheck, Option.bind_some, strings_HasPrefix.f, stringslite_HasPrefix.f, toList_eq]
  by_cases h1 : (Nm.check p.data.toList).2 = 0
  · rw [if_pos (by simp [h1])]
    by_cases h2 : a.data.toList = []
    · rw [if_pos h2, ben_true ⟨h1, .inl h2⟩]
    · rw [if_neg h2]
      by_cases h3 : p.size < a.size
      · rw [if_neg (by omega)]
        simp only [Option.bind_some, Bool.false_eq_true, if_false]
        rw [ben_false]
        rintro ⟨_, h5 | h5⟩
        · exact h2 h5
        · have := ((prefix_iff a p).2 h5).1; omega
      · rw [if_pos (by omega), if_pos (by omega), if_pos (by omega)]
        simp only [Option.bind_some, Int.toNat_natCast, Lib.extract_data, List.drop_zero, Nat.sub_zero, beq_iff_eq]
        by_cases h4 : p.data.toList.take a.size = a.data.toList
        · rw [if_pos h4]
          by_cases h5 : a.size < p.size
          · rw [if_pos (by omega), if_pos (by omega), if_pos (by omega)]
            obtain ⟨c, _, hb, hc⟩ := drop_at p a.size h5
            rw [hb]
            by_cases h6 : c = 47
            · rw [ben_true ⟨h1, .inr ((prefix_iff a p).1 ⟨h5, h4, by rw [hc, h6]⟩)⟩, h6]; rfl
            · rw [ben_false]
              · have : ¬ ((c.toNat : Int) = 47) := fun e => h6 ((toNat_eq c 47).1 e)
                simpa using this
              · rintro ⟨_, h7 | h7⟩
                · exact h2 h7
                · have := ((prefix_iff a p).2 h7).2.2
                  rw [hc] at this
                  exact h6 (Option.some.inj this)
          · rw [if_neg (by omega), ben_false]
            rintro ⟨_, h7 | h7⟩
            · exact h2 h7
            · have := ((prefix_iff a p).2 h7).1; omega
        · rw [if_neg h4, ben_false]
          rintro ⟨_, h7 | h7⟩
          · exact h2 h7
          · exact h4 ((prefix_iff a p).2 h7).2.1
  · rw [if_neg (by simp; omega), ben_false (fun h => h1 h.1)]
theorem cmp_ev (a b : ByteArray) : cmp_Compare_string.f a b = some (if Op.bytesLess a.data.toList b.data.toList = true then -1 else if Op.bytesLess b.data.toList a.data.toList = true then 1 else 0) := by
  have n : ∀ x : ByteArray, cmp_isNaN_string.f x = some false := fun x => by simp [cmp_isNaN_string.f]
  simp only [cmp_Compare_string.f, n, Option.bind_some, Bool.false_eq_true, if_false, toList_eq]
  split
  · rfl
  · split <;> rfl
theorem ib (p : ByteArray) : strings_IndexByte.f p 47 = some (Lib.indexByte p.data.toList 47) := rfl
theorem texts_none {l : List UInt8} (h : Lib.indexByte l 47 = -1) : Nm.texts l = [l] := by simp [Nm.texts, Nm.pieces_none l 0 h]
theorem texts_some {l : List UInt8} {n : Nat} (h : Lib.indexByte l 47 = n) : Nm.texts l = l.take n :: Nm.texts (l.drop (n + 1)) := by
  rw [Nm.texts, Nm.pieces_some l 0 n h, List.map_cons, Nm.pieces_texts]
theorem cmp_cases (x y : List UInt8) : (Op.bytesLess x y = true) ∨ (Op.bytesLess x y = false ∧ Op.bytesLess y x = true) ∨ (Op.bytesLess x y = false ∧ Op.bytesLess y x = false) := by
  cases Op.bytesLess x y <;> cases Op.bytesLess y x <;> simp
theorem ncompare_j2 (a b X Y : ByteArray) (i j r : Int) (A B : List (List UInt8))
    (h : ∀ c : Bool, c = (if i < 0 then decide (j < 0) else false) → Ev (fun k => name_Compare.j3 k a b i j c) (Nm.cmpL A B))
    (hr : r = Nm.cmpL (X.data.toList :: A) (Y.data.toList :: B)) : Ev (fun k => name_Compare.j2 k a b i j X Y) r := by
  subst hr
  have s : ∀ k, name_Compare.j2 (k + 1) a b i j X Y = if (if Op.bytesLess X.data.toList Y.data.toList = true then (-1 : Int) else if Op.bytesLess Y.data.toList X.data.toList = true then 1 else 0) = 0 then name_Compare.j3 k a b i j (if i < 0 then decide (j < 0) else false) else some (if Op.bytesLess X.data.toList Y.data.toList = true then (-1 : Int) else if Op.bytesLess Y.data.toList X.data.toList = true then 1 else 0) := fun k => by
    simp only [name_Compare.j2]
    rw [cmp_ev, Option.bind_some]
    by_cases hi : i < 0
    · simp only [hi, if_true]
    · simp only [hi, if_false]
  rcases cmp_cases X.data.toList Y.data.toList with h1 | ⟨h1, h2⟩ | ⟨h1, h2⟩
  · simp only [h1, if_true] at s
    simp only [Nm.cmpL, h1, if_true]
    exact Ev.step s (Ev.congr (fun k => by rw [if_neg (by decide)]) (Ev.now _))
  · simp only [h1, h2, Bool.false_eq_true, if_false, if_true] at s
    simp only [Nm.cmpL, h1, h2, Bool.false_eq_true, if_false, if_true]
    exact Ev.step s (Ev.congr (fun k => by rw [if_neg (by decide)]) (Ev.now _))
  · simp only [h1, h2, Bool.false_eq_true, if_false, if_true] at s
    simp only [Nm.cmpL, h1, h2, Bool.false_eq_true, if_false]
    exact Ev.step s (h _ rfl)
theorem ncompare_j1 (a b X : ByteArray) (i r : Int) (A B : List (List UInt8)) (Y : List UInt8) (hB : Nm.texts b.data.toList = Y :: B)
    (h : ∀ c : Bool, c = (if i < 0 then decide (Lib.indexByte b.data.toList 47 < 0) else false) → Ev (fun k => name_Compare.j3 k a b i (Lib.indexByte b.data.toList 47) c) (Nm.cmpL A B))
    (hr : r = Nm.cmpL (X.data.toList :: A) (Y :: B)) : Ev (fun k => name_Compare.j1 k a b i (Lib.indexByte b.data.toList 47) X b) r := by
  by_cases hj : Lib.indexByte b.data.toList 47 = -1
  · rw [texts_none hj] at hB
    injection hB with h1 h2
    subst h1
    have s : ∀ k, name_Compare.j1 (k + 1) a b i (Lib.indexByte b.data.toList 47) X b = name_Compare.j2 k a b i (Lib.indexByte b.data.toList 47) X b := fun k => by
      simp only [name_Compare.j1]
      rw [if_neg (by omega)]
    exact Ev.step s (ncompare_j2 a b X b i _ r A B h hr)
  · have := Lib.indexByte_ge b.data.toList 47
    obtain ⟨n, hn⟩ : ∃ n : Nat, Lib.indexByte b.data.toList 47 = n := ⟨(Lib.indexByte b.data.toList 47).toNat, by omega⟩
    rw [texts_some hn] at hB
    injection hB with h1 h2
    subst h1
    have hlt := (Nm.pc_some _ 0 n hn).1
    rw [len_eq] at hlt
    have s : ∀ k, name_Compare.j1 (k + 1) a b i (Lib.indexByte b.data.toList 47) X b = name_Compare.j2 k a b i (Lib.indexByte b.data.toList 47) X (b.extract 0 n) := fun k => by
      simp only [name_Compare.j1]
      rw [if_pos (by omega), if_pos (by omega), if_pos (by omega), hn, Int.toNat_natCast]
    refine Ev.step s (ncompare_j2 a b X (b.extract 0 n) i _ r A B h ?_)
    rw [hr, Lib.extract_data]
    simp
theorem ncompare_one (a b : ByteArray) (hai : Lib.indexByte a.data.toList 47 = -1) :
    Ev (fun k => name_Compare.l0 k a b) (Nm.cmpL (Nm.texts a.data.toList) (Nm.texts b.data.toList)) := by
  have s : ∀ k, name_Compare.l0 (k + 1) a b = name_Compare.j1 k a b (-1) (Lib.indexByte b.data.toList 47) a b := fun k => by
    simp only [name_Compare.l0]
    rw [ib, ib, Option.bind_some, Option.bind_some, hai, if_neg (by omega)]
  refine Ev.step s ?_
  obtain ⟨Y, B, hB⟩ : ∃ Y B, Nm.texts b.data.toList = Y :: B := ⟨_, _, rfl⟩
  refine ncompare_j1 a b a (-1) _ [] B Y hB ?_ (by rw [texts_none hai, hB])
  rintro c rfl
  rw [if_pos (by omega)]
  by_cases hj : Lib.indexByte b.data.toList 47 = -1
  · rw [texts_none hj] at hB
    injection hB with h1 h2
    subst h2
    refine Ev.step (fun k => ?_) (Ev.now _)
    simp only [name_Compare.j3, hj]
    rw [if_pos (by decide)]
    rfl
  · have := Lib.indexByte_ge b.data.toList 47
    obtain ⟨m, hm⟩ : ∃ m : Nat, Lib.indexByte b.data.toList 47 = m := ⟨(Lib.indexByte b.data.toList 47).toNat, by omega⟩
    rw [texts_some hm] at hB
    injection hB with h1 h2
    subst h2
    obtain ⟨Z, C, hC⟩ : ∃ Z C, Nm.texts (b.data.toList.drop (m + 1)) = Z :: C := ⟨_, _, rfl⟩
    rw [hC]
    refine Ev.step (fun k => ?_) (Ev.now _)
    simp only [name_Compare.j3, hm]
    rw [if_neg (by simp), if_pos (by omega)]
    rfl
theorem ncompare_l0 (d : Nat) : ∀ (a b : ByteArray), a.size ≤ d → a.size ≤ 140737488355328 → b.size ≤ 140737488355328 →
    Ev (fun k => name_Compare.l0 k a b) (Nm.cmpL (Nm.texts a.data.toList) (Nm.texts b.data.toList)) := by
  induction d with
  | zero =>
    intro a b h0 ha hb
    have hai : Lib.indexByte a.data.toList 47 = -1 := by
      have e : a.data.toList = [] := List.eq_nil_of_length_eq_zero (by rw [len_eq]; omega)
      rw [e]; rfl
    exact ncompare_one a b hai
  | succ d ih =>
    intro a b h0 ha hb
    by_cases hai : Lib.indexByte a.data.toList 47 = -1
    · exact ncompare_one a b hai
    · have := Lib.indexByte_ge a.data.toList 47
      obtain ⟨n, hn⟩ : ∃ n : Nat, Lib.indexByte a.data.toList 47 = n := ⟨(Lib.indexByte a.data.toList 47).toNat, by omega⟩
      have hlt := (Nm.pc_some _ 0 n hn).1
      rw [len_eq] at hlt
      have s : ∀ k, name_Compare.l0 (k + 1) a b = name_Compare.j1 k a b (n : Int) (Lib.indexByte b.data.toList 47) (a.extract 0 n) b := fun k => by
        simp only [name_Compare.l0]
        rw [ib, ib, Option.bind_some, Option.bind_some, hn, if_pos (by omega), if_pos (by omega), if_pos (by omega), Int.toNat_natCast]
      refine Ev.step s ?_
      obtain ⟨Y, B, hB⟩ : ∃ Y B, Nm.texts b.data.toList = Y :: B := ⟨_, _, rfl⟩
      refine ncompare_j1 a b (a.extract 0 n) n _ (Nm.texts (a.data.toList.drop (n + 1))) B Y hB ?_ (by rw [texts_some hn, hB, Lib.extract_data]; simp)
      rintro c rfl
      rw [if_neg (by omega)]
      obtain ⟨Z, C, hC⟩ : ∃ Z C, Nm.texts (a.data.toList.drop (n + 1)) = Z :: C := ⟨_, _, rfl⟩
      by_cases hj : Lib.indexByte b.data.toList 47 = -1
      · rw [texts_none hj] at hB
        injection hB with h1 h2
        subst h2
        rw [hC]
        refine Ev.step (fun k => ?_) (Ev.now _)
        simp only [name_Compare.j3, Bool.false_eq_true, if_false]
        rw [if_neg (by omega), if_pos (by omega)]
        rfl
      · have := Lib.indexByte_ge b.data.toList 47
        obtain ⟨m, hm⟩ : ∃ m : Nat, Lib.indexByte b.data.toList 47 = m := ⟨(Lib.indexByte b.data.toList 47).toNat, by omega⟩
        have hlt2 := (Nm.pc_some _ 0 m hm).1
        rw [len_eq] at hlt2
        rw [texts_some hm] at hB
        injection hB with h1 h2
        subst h2
        have s2 : ∀ k, name_Compare.j3 (k + 1) a b (n : Int) (Lib.indexByte b.data.toList 47) false = name_Compare.l0 k (a.extract (n + 1) a.size) (b.extract (m + 1) b.size) := fun k => by
          simp only [name_Compare.j3, Bool.false_eq_true, if_false]
          rw [if_neg (by omega), if_neg (by omega), hm, wrap_succ (by omega), wrap_succ (by omega), if_pos (by omega), if_pos (by omega), if_pos (by omega), if_pos (by omega), Int.toNat_natCast, Int.toNat_natCast]
        refine Ev.step s2 ?_
        have e1 : (a.extract (n + 1) a.size).data.toList = a.data.toList.drop (n + 1) := Lib.extract_to_end a (n + 1)
        have e2 : (b.extract (m + 1) b.size).data.toList = b.data.toList.drop (m + 1) := Lib.extract_to_end b (m + 1)
        have l1 : (a.extract (n + 1) a.size).size = a.size - (n + 1) := by rw [← len_eq, e1, List.length_drop, len_eq]
        have l2 : (b.extract (m + 1) b.size).size = b.size - (m + 1) := by rw [← len_eq, e2, List.length_drop, len_eq]
        have := ih (a.extract (n + 1) a.size) (b.extract (m + 1) b.size) (by omega) (by omega) (by omega)
        rw [e1, e2] at this
        exact this
end Go.Proofs.YthpecpkncifngaaDoor.Pure
end

/- The contract of tree.Check. -/
section
namespace Go.Proofs.YthpecpkncifngaaDoor.X
open Go.RowKit Go.Shelf Go.Proofs.YthpecpkncifngaaDoor Go.Proofs.YthpecpkncifngaaDoorW.PrintWords Go.Proofs.YthpecpkncifngaaDoorW.PrintLast Go.Proofs.YthpecpkncifngaaDoorW.PrintMore Go.Proofs.YthpecpkncifngaaDoor.Pure
theorem Ev.some_ {α : Type} {g : Nat → Option α} {r : α} (h : Ev g r) : ∃ k, g k = some r := h.imp fun K hK => hK K (Nat.le_refl _)
theorem compare_any (a b : ByteArray) (w : World) (ha : a.size ≤ 140737488355328) (hb : b.size ≤ 140737488355328) :
    Calls Tryd.prog 36 #[.string a, .string b] w fun e w' => e = .returned (.int .i64 (Nm.cmpL (Nm.texts a.data.toList) (Nm.texts b.data.toList))) ∧ ∃ n, w' = w.drewN n := by
  obtain ⟨k, hk⟩ := Ev.some_ (ncompare_l0 a.size a b (Nat.le_refl _) ha hb)
  refine (name_Compare.calls k a b _ w hk).mono ?_
  rintro e w' ⟨rfl, h⟩
  exact ⟨rfl, h.out⟩
theorem up_any (p : ByteArray) (w : World) (hp : p.size ≤ 1099511627776) :
    Calls Tryd.prog 27 #[.string p] w fun e w' => e = .returned (.string (upB p)) ∧ Below w.heap.size w w' := by
  obtain ⟨k, hk⟩ := Ev.some_ (up_ev p hp)
  exact name_Up.calls k p _ w hk
def kd (xs : List S26) : Nat → ByteArray → Int
  | 0, _ => 0
  | k + 1, s => if (rd_T26 xs k).f0 = s then (rd_T26 xs k).f1 else kd xs k s
def kinds (xs : List S26) : Nat → List (ByteArray × Value)
  | 0 => []
  | k + 1 => Mp.mput (kinds xs k) (rd_T26 xs k).f0 (.int .u8 (rd_T26 xs k).f1)
theorem kinds_get (xs : List S26) (k : Nat) (s : ByteArray) : (Mp.mget (kinds xs k) s).getD (.int .u8 0) = .int .u8 (kd xs k s) := by
  induction k with
  | zero => rfl
  | succ k ih =>
    simp only [kinds, Mp.mget_put, kd]
    split
    · rfl
    · exact ih
def cmpA (xs : List S26) (k : Nat) : Int := Nm.cmpL (Nm.texts (rd_T26 xs (k - 1 : Nat)).f0.data.toList) (Nm.texts (rd_T26 xs k).f0.data.toList)
def stepP (xs : List S26) (k : Nat) : Int :=
  if mayP (rd_T26 xs k) ≠ 0 then mayP (rd_T26 xs k) else
  if 0 < k ∧ 0 ≤ cmpA xs k then 111 else
  if (upB (rd_T26 xs k).f0).toList ≠ [] ∧ kd xs k (upB (rd_T26 xs k).f0) ≠ 2 then 112 else
  if (rd_T26 xs k).f1 = 3 ∧ kd xs k (rd_T26 xs k).f5 ≠ 1 then 113 else 0
def chkP (xs : List S26) : Nat → Int × Int
  | k => if h : k < xs.length then (if stepP xs k = 0 then chkP xs (k + 1) else ((k : Int), stepP xs k)) else (0, 0)
termination_by k => xs.length - k
theorem chkP_go {xs : List S26} {k : Nat} (h : k < xs.length) (hs : stepP xs k = 0) : chkP xs k = chkP xs (k + 1) := by rw [chkP, dif_pos h, if_pos hs]
theorem chkP_stop {xs : List S26} {k : Nat} {e : Int} (h : k < xs.length) (hs : stepP xs k = e) (h0 : e ≠ 0) : chkP xs k = ((k : Int), e) := by rw [chkP, dif_pos h, if_neg (by rw [hs]; exact h0), hs]
theorem chkP_end {xs : List S26} {k : Nat} (h : xs.length ≤ k) : chkP xs k = (0, 0) := by rw [chkP, dif_neg (by omega)]
def checkP (xs : List S26) : Int × Int := if 256 < xs.length then (256, 3) else chkP xs 0
theorem may_size {x : S26} (h : mayP x = 0) : x.f0.size ≤ 400 := by
  unfold mayP at h
  split at h
  · rename_i hne
    omega
  · rename_i hne
    have hl := Pure.len_eq x.f0
    unfold Nm.check at hne
    by_cases h4 : 400 < x.f0.data.toList.length
    · rw [if_pos h4] at hne; simp at hne
    · omega
section
variable {xs : List S26} {k : Nat}
theorem step1 (h : mayP (rd_T26 xs k) ≠ 0) : stepP xs k = mayP (rd_T26 xs k) := by rw [stepP, if_pos h]
theorem step2 (h : mayP (rd_T26 xs k) = 0) (h2 : 0 < k ∧ 0 ≤ cmpA xs k) : stepP xs k = 111 := by rw [stepP, if_neg (by simp [h]), if_pos h2]
theorem step3 (h : mayP (rd_T26 xs k) = 0) (h2 : ¬ (0 < k ∧ 0 ≤ cmpA xs k)) (h3 : (upB (rd_T26 xs k).f0).toList ≠ [] ∧ kd xs k (upB (rd_T26 xs k).f0) ≠ 2) : stepP xs k = 112 := by rw [stepP, if_neg (by simp [h]), if_neg h2, if_pos h3]
theorem step4 (h : mayP (rd_T26 xs k) = 0) (h2 : ¬ (0 < k ∧ 0 ≤ cmpA xs k)) (h3 : ¬ ((upB (rd_T26 xs k).f0).toList ≠ [] ∧ kd xs k (upB (rd_T26 xs k).f0) ≠ 2)) (h4 : (rd_T26 xs k).f1 = 3 ∧ kd xs k (rd_T26 xs k).f5 ≠ 1) : stepP xs k = 113 := by rw [stepP, if_neg (by simp [h]), if_neg h2, if_neg h3, if_pos h4]
theorem step5 (h : mayP (rd_T26 xs k) = 0) (h2 : ¬ (0 < k ∧ 0 ≤ cmpA xs k)) (h3 : ¬ ((upB (rd_T26 xs k).f0).toList ≠ [] ∧ kd xs k (upB (rd_T26 xs k).f0) ≠ 2)) (h4 : ¬ ((rd_T26 xs k).f1 = 3 ∧ kd xs k (rd_T26 xs k).f5 ≠ 1)) : stepP xs k = 0 := by rw [stepP, if_neg (by simp [h]), if_neg h2, if_neg h3, if_neg h4]
end
theorem zero23 (w : World) : (zeroValue 23).run Tryd.prog w = .ok (.int .u8 0) w := by kernel_rfl
set_option maxRecDepth 100000 in
set_option maxHeartbeats 4000000 in
theorem check_list (A : Option Addr) (c : Nat) (xs : List S26) (w : World) (hr : Kd.C k26 w A xs.length xs) (hm : xs.length ≤ 256) :
    Calls Tryd.prog 13 #[.slice A xs.length c] w fun e w' => e = .returned (.tuple #[.int .i64 (chkP xs 0).1, .int .i64 (chkP xs 0).2]) ∧ Below w.heap.size w w' := by
  have hmm := @run_makeMap Tryd.prog
  have HR := Aside0.mk hr
  have hd : decide ((256 : Int) < (xs.length : Int)) = false := decide_eq_false (by omega)
  have hd' : decide (256 < xs.length) = false := decide_eq_false (by omega)
  clear hr
  go_enter Tryd.func13, Tryd.ntmps13
  go_wp2
  clear hd hd'
  go_loopw [15] (fun i wr => ∃ k : Nat, k ≤ xs.length ∧ i = .int .i64 k ∧ Hid (chkP xs 0 = chkP xs k) ∧ Aside0 (Below w.heap.size w wr) ∧ Aside0 (Mp.At Mp.strKey wr w.heap.size (kinds xs k)) ∧ Aside0 (0 < k → mayP (rd_T26 xs (k - 1 : Nat)) = 0)) (fun i _ => xs.length - (intOf i).toNat)
  case atStart => exact ⟨0, Nat.zero_le _, rfl, Lib.hid rfl, ⟨(Below.refl _ _).alloc (Nat.le_refl _) _⟩, ⟨Mp.at_made w⟩, ⟨fun h => absurd h (Nat.lt_irrefl 0)⟩⟩
  case round =>
    obtain ⟨k, hk, rfl, hi, hB, hM, hP⟩ := hrel
    by_cases hlt : k < xs.length
    · obtain ⟨ad, A4, c4, rfl, h0, h1, h2, h3, h4, h5, hl, hr4⟩ := at_it HR.out hB.out k hlt
      have HR4 := Aside0.mk hr4
      clear hr4
      go_wp2_with fail
      refine (may_any (rd_T26 xs k) A4 c4 _ hl (Kd.C_below HR4.out ((Below.refl _ _).alloc (Nat.le_refl _) _))).mono ?_
      rintro e w1 ⟨rfl, hb⟩
      obtain ⟨a0, a1, a2, a3, a4, a5, az⟩ := box_it (rd_T26 xs k) A4 c4 hb
      have HB1 := Aside0.mk (hB.out.trans (((Below.refl _ wr).alloc (Nat.le_refl _) _).trans (hb.mono (by simp)) |>.mono hB.out.size))
      have HM1 := Aside0.mk (hM.out.below (((Below.refl _ wr).alloc (Nat.le_refl _) _).trans (hb.mono (by simp))))
      clear hb h0 h1 h2 h3 h4 h5
      by_cases hmay : mayP (rd_T26 xs k) = 0
      case neg =>
        have hne : (mayP (rd_T26 xs k) != 0) = true := by simpa using hmay
        have HI := Lib.hid (hi.out.trans (chkP_stop hlt (step1 hmay) hmay))
        clear hi hmay
        go_wp2
        go_ret2
        exact ⟨by rw [HI.out]; rfl, HB1.out⟩
      have hne : (mayP (rd_T26 xs k) != 0) = false := by simpa using hmay
      have HMay := Lib.hid hmay
      have HSz := Lib.hid (may_size hmay)
      clear hmay
      by_cases hk0 : 0 < k
      · have d0 : decide ((0 : Int) < (k : Int)) = true := decide_eq_true (by omega)
        obtain ⟨ad', A4', c4', ea, p0, -⟩ := at_it HR.out HB1.out (k - 1) (by omega)
        cases ea
        have HPs := Lib.hid (may_size (hP.out hk0))
        by_cases hcm : 0 ≤ cmpA xs k
        · have d1 : decide (0 ≤ Nm.cmpL (Nm.texts (rd_T26 xs (k - 1 : Nat)).f0.data.toList) (Nm.texts (rd_T26 xs k).f0.data.toList)) = true := decide_eq_true hcm
          have HI := Lib.hid (hi.out.trans (chkP_stop hlt (step2 HMay.out ⟨hk0, hcm⟩) (by decide)))
          clear hi hcm
          go_wp2
          go_quiet (exact Calls.quiet_of (compare_any _ _ _ (by have := HPs.out; omega) (by have := HSz.out; omega)))
          go_wp2
          go_ret2
          exact ⟨by rw [HI.out]; rfl, pw_below_drewN HB1.out _⟩
        · have H2 := Lib.hid (show ¬ (0 < k ∧ 0 ≤ cmpA xs k) from fun h => hcm h.2)
          have d1 : decide (0 ≤ Nm.cmpL (Nm.texts (rd_T26 xs (k - 1 : Nat)).f0.data.toList) (Nm.texts (rd_T26 xs k).f0.data.toList)) = false := decide_eq_false hcm
          clear hcm
          go_wp2
          go_quiet (exact Calls.quiet_of (compare_any _ _ _ (by have := HPs.out; omega) (by have := HSz.out; omega)))
          go_wp2_with fail
          refine (up_any _ _ (by have := HSz.out; omega)).mono ?_
          rintro e w2 ⟨rfl, hb⟩
          have st : ∀ {j : Nat} {v : Value}, w1.cell? ⟨wr.heap.size, j, none⟩ = some v → w2.cell? ⟨wr.heap.size, j, none⟩ = some v := fun {j v} hv => (hb.cell (p := ⟨wr.heap.size, j, none⟩) az).trans hv
          have b0 := st a0
          have b1 := st a1
          have b5 := st a5
          have HB2 := Aside0.mk ((pw_below_drewN HB1.out nq).trans (hb.mono HB1.out.size))
          have HM2 := Aside0.mk ((HM1.out.move (W' := w1.drewN nq) rfl).below hb)
          clear hb st a0 a1 a2 a3 a4 a5 HB1 HM1
          have hrun1 : (Instr.lookup 63 (.map (some w.heap.size)) (.string (upB (rd_T26 xs k).f0)) false).run Tryd.prog w2 = .ok (.int .u8 (kd xs k (upB (rd_T26 xs k).f0))) w2 := by
            rw [← kinds_get]; exact HM2.out.lookup (K := Mp.strKey) Tryd.underlying63 Tryd.underlying9 _ zero23 false
          have hrun2 : (Instr.lookup 63 (.map (some w.heap.size)) (.string (rd_T26 xs k).f5) false).run Tryd.prog w2 = .ok (.int .u8 (kd xs k (rd_T26 xs k).f5)) w2 := by
            rw [← kinds_get]; exact HM2.out.lookup (K := Mp.strKey) Tryd.underlying63 Tryd.underlying9 _ zero23 false
          obtain ⟨o, ho, hrun3, hM3⟩ := HM2.out.update (K := Mp.strKey) Tryd.underlying63 Tryd.underlying9 (rd_T26 xs k).f0 (.int .u8 (rd_T26 xs k).f1)
          have HM3 := Aside0.mk hM3
          have hrun4 : (Instr.mapUpdate 63 (.map (some w.heap.size)) (.string (rd_T26 xs k).f0) (.int .u8 (rd_T26 xs k).f1)).run Tryd.prog w2 = .ok () (w2.putObj w.heap.size o) := hrun3
          clear hM3 hrun3
          by_cases k3 : (upB (rd_T26 xs k).f0).toList ≠ [] ∧ kd xs k (upB (rd_T26 xs k).f0) ≠ 2
          · have HI := Lib.hid (hi.out.trans (chkP_stop hlt (step3 HMay.out H2.out k3) (by decide)))
            have e1 : (upB (rd_T26 xs k).f0).toList.isEmpty = false := by simpa using k3.1
            have e2 : (kd xs k (upB (rd_T26 xs k).f0) != 2) = true := by simpa using k3.2
            clear hi k3
            go_wp2
            go_ret2
            exact ⟨by rw [HI.out]; rfl, HB2.out⟩
          have H3 := Lib.hid k3
          have E3 : ((upB (rd_T26 xs k).f0).toList.isEmpty = false ∧ (kd xs k (upB (rd_T26 xs k).f0) != 2) = false) ∨ (upB (rd_T26 xs k).f0).toList.isEmpty = true := by
            by_cases q : (upB (rd_T26 xs k).f0).toList = []
            · right; simpa using q
            · left; exact ⟨by simpa using q, by simpa using fun h => k3 ⟨q, h⟩⟩
          clear k3
          by_cases k4 : (rd_T26 xs k).f1 = 3 ∧ kd xs k (rd_T26 xs k).f5 ≠ 1
          · have HI := Lib.hid (hi.out.trans (chkP_stop hlt (step4 HMay.out H2.out H3.out k4) (by decide)))
            have e3 : ((rd_T26 xs k).f1 == 3) = true := by simpa using k4.1
            have e4 : (kd xs k (rd_T26 xs k).f5 != 1) = true := by simpa using k4.2
            clear hi k4
            rcases E3 with ⟨e1, e2⟩ | e1
            all_goals
              go_wp2
              go_ret2
              exact ⟨by rw [HI.out]; rfl, HB2.out⟩
          have HI := Lib.hid (hi.out.trans (chkP_go hlt (step5 HMay.out H2.out H3.out k4)))
          have E4 : ((rd_T26 xs k).f1 == 3) = false ∨ (((rd_T26 xs k).f1 == 3) = true ∧ (kd xs k (rd_T26 xs k).f5 != 1) = false) := by
            by_cases q : (rd_T26 xs k).f1 = 3
            · right; exact ⟨by simpa using q, by simpa using fun h => k4 ⟨q, h⟩⟩
            · left; simpa using q
          clear hi k4
          rcases E3 with ⟨e1, e2⟩ | e1 <;> rcases E4 with e3 | ⟨e3, e4⟩
          all_goals
            go_wp2
            go_roundw
            case rel => exact ⟨k + 1, by omega, by go_num, HI, ⟨HB2.out.grown (grownBy_putObj' _ _ _) HB2.out.size (fun j hj => by cases hj; exact Nat.le_refl _)⟩, HM3, ⟨fun _ => by rw [Nat.add_sub_cancel]; exact HMay.out⟩⟩
            case measure => simp [intOf]; omega
      · have H2 := Lib.hid (show ¬ (0 < k ∧ 0 ≤ cmpA xs k) from fun h => hk0 h.1)
        have d0 : decide ((0 : Int) < (k : Int)) = false := decide_eq_false (by omega)
        go_wp2
        go_quiet (fail)
        go_wp2_with fail
        refine (up_any _ _ (by have := HSz.out; omega)).mono ?_
        rintro e w2 ⟨rfl, hb⟩
        have st : ∀ {j : Nat} {v : Value}, w1.cell? ⟨wr.heap.size, j, none⟩ = some v → w2.cell? ⟨wr.heap.size, j, none⟩ = some v := fun {j v} hv => (hb.cell (p := ⟨wr.heap.size, j, none⟩) az).trans hv
        have b0 := st a0
        have b1 := st a1
        have b5 := st a5
        have HB2 := Aside0.mk ((pw_below_drewN HB1.out nq).trans (hb.mono HB1.out.size))
        have HM2 := Aside0.mk ((HM1.out.move (W' := w1.drewN nq) rfl).below hb)
        clear hb st a0 a1 a2 a3 a4 a5 HB1 HM1
        have hrun1 : (Instr.lookup 63 (.map (some w.heap.size)) (.string (upB (rd_T26 xs k).f0)) false).run Tryd.prog w2 = .ok (.int .u8 (kd xs k (upB (rd_T26 xs k).f0))) w2 := by
          rw [← kinds_get]; exact HM2.out.lookup (K := Mp.strKey) Tryd.underlying63 Tryd.underlying9 _ zero23 false
        have hrun2 : (Instr.lookup 63 (.map (some w.heap.size)) (.string (rd_T26 xs k).f5) false).run Tryd.prog w2 = .ok (.int .u8 (kd xs k (rd_T26 xs k).f5)) w2 := by
          rw [← kinds_get]; exact HM2.out.lookup (K := Mp.strKey) Tryd.underlying63 Tryd.underlying9 _ zero23 false
        obtain ⟨o, ho, hrun3, hM3⟩ := HM2.out.update (K := Mp.strKey) Tryd.underlying63 Tryd.underlying9 (rd_T26 xs k).f0 (.int .u8 (rd_T26 xs k).f1)
        have HM3 := Aside0.mk hM3
        have hrun4 : (Instr.mapUpdate 63 (.map (some w.heap.size)) (.string (rd_T26 xs k).f0) (.int .u8 (rd_T26 xs k).f1)).run Tryd.prog w2 = .ok () (w2.putObj w.heap.size o) := hrun3
        clear hM3 hrun3
        by_cases k3 : (upB (rd_T26 xs k).f0).toList ≠ [] ∧ kd xs k (upB (rd_T26 xs k).f0) ≠ 2
        · have HI := Lib.hid (hi.out.trans (chkP_stop hlt (step3 HMay.out H2.out k3) (by decide)))
          have e1 : (upB (rd_T26 xs k).f0).toList.isEmpty = false := by simpa using k3.1
          have e2 : (kd xs k (upB (rd_T26 xs k).f0) != 2) = true := by simpa using k3.2
          clear hi k3
          go_wp2
          go_ret2
          exact ⟨by rw [HI.out]; rfl, HB2.out⟩
        have H3 := Lib.hid k3
        have E3 : ((upB (rd_T26 xs k).f0).toList.isEmpty = false ∧ (kd xs k (upB (rd_T26 xs k).f0) != 2) = false) ∨ (upB (rd_T26 xs k).f0).toList.isEmpty = true := by
          by_cases q : (upB (rd_T26 xs k).f0).toList = []
          · right; simpa using q
          · left; exact ⟨by simpa using q, by simpa using fun h => k3 ⟨q, h⟩⟩
        clear k3
        by_cases k4 : (rd_T26 xs k).f1 = 3 ∧ kd xs k (rd_T26 xs k).f5 ≠ 1
        · have HI := Lib.hid (hi.out.trans (chkP_stop hlt (step4 HMay.out H2.out H3.out k4) (by decide)))
          have e3 : ((rd_T26 xs k).f1 == 3) = true := by simpa using k4.1
          have e4 : (kd xs k (rd_T26 xs k).f5 != 1) = true := by simpa using k4.2
          clear hi k4
          rcases E3 with ⟨e1, e2⟩ | e1
          all_goals
            go_wp2
            go_ret2
            exact ⟨by rw [HI.out]; rfl, HB2.out⟩
        have HI := Lib.hid (hi.out.trans (chkP_go hlt (step5 HMay.out H2.out H3.out k4)))
        have E4 : ((rd_T26 xs k).f1 == 3) = false ∨ (((rd_T26 xs k).f1 == 3) = true ∧ (kd xs k (rd_T26 xs k).f5 != 1) = false) := by
          by_cases q : (rd_T26 xs k).f1 = 3
          · right; exact ⟨by simpa using q, by simpa using fun h => k4 ⟨q, h⟩⟩
          · left; simpa using q
        clear hi k4
        rcases E3 with ⟨e1, e2⟩ | e1 <;> rcases E4 with e3 | ⟨e3, e4⟩
        all_goals
          go_wp2
          go_roundw
          case rel => exact ⟨k + 1, by omega, by go_num, HI, ⟨HB2.out.grown (grownBy_putObj' _ _ _) HB2.out.size (fun j hj => by cases hj; exact Nat.le_refl _)⟩, HM3, ⟨fun _ => by rw [Nat.add_sub_cancel]; exact HMay.out⟩⟩
          case measure => simp [intOf]; omega
    · have HI := Lib.hid (hi.out.trans (chkP_end (by omega)))
      clear hi
      go_wp2
      go_ret2
      exact ⟨by rw [HI.out]; rfl, hB.out⟩
theorem check_tree (A : Option Addr) (c : Nat) (xs : List S26) (w : World) (hr : Kd.C k26 w A xs.length xs) :
    Calls Tryd.prog 13 #[.slice A xs.length c] w fun e w' => e = .returned (.tuple #[.int .i64 (checkP xs).1, .int .i64 (checkP xs).2]) ∧ Below w.heap.size w w' := by
  by_cases h : 256 < xs.length
  · have hd : decide ((256 : Int) < (xs.length : Int)) = true := decide_eq_true (by omega)
    have hd' : decide (256 < xs.length) = true := decide_eq_true (by omega)
    have H := Lib.hid h
    clear h hr
    go_enter Tryd.func13, Tryd.ntmps13
    go_wp2
    go_ret2
    exact ⟨by unfold checkP; rw [if_pos H.out]; rfl, Below.refl _ _⟩
  · unfold checkP
    rw [if_neg h]
    exact check_list A c xs w hr (by omega)
end Go.Proofs.YthpecpkncifngaaDoor.X
end

/- The contracts of slices.Clip, tree.own and tree.some. -/
section
namespace Go.Proofs.YthpecpkncifngaaDoor.X
open Go.RowKit Go.Shelf Go.Proofs.YthpecpkncifngaaDoor Go.Proofs.YthpecpkncifngaaDoorW.PrintWords Go.Proofs.YthpecpkncifngaaDoorW.PrintLast Go.Proofs.YthpecpkncifngaaDoorW.PrintMore Go.Proofs.YthpecpkncifngaaDoor.Pure
theorem clip_bytes (A : Option Addr) (n c : Nat) (w : World) (hc : n ≤ c) (hn : c ≤ 9223372036854775807) :
    Calls Tryd.prog 82 #[.slice A n c] w fun e w' => e = .returned (.slice A n n) ∧ w' = w := by
  go_enter Tryd.func82, Tryd.ntmps82
  go_wp2
  go_ret
  exact ⟨rfl, rfl⟩
theorem clip_items (A : Option Addr) (n c : Nat) (w : World) (hc : n ≤ c) (hn : c ≤ 9223372036854775807) :
    Calls Tryd.prog 54 #[.slice A n c] w fun e w' => e = .returned (.slice A n n) ∧ w' = w := by
  go_enter Tryd.func54, Tryd.ntmps54
  go_wp2
  go_ret
  exact ⟨rfl, rfl⟩
theorem cells_grown {W w1 : World} {g t : Nat} {cs : Array Value} (h : W.heap[g]? = some (.cells cs t (0, 0))) (hg : W.grownBy w1 none) : w1.heap[g]? = some (.cells cs t (0, 0)) := blk_grown h hg (by simp)
set_option maxRecDepth 100000 in
set_option maxHeartbeats 4000000 in
theorem own_any (x : S26) (A4 : Option Addr) (c4 : Nat) (w : World) (hl : x.f4.length ≤ c4) (hm : x.f4.length ≤ 140737488355328) (hr : (Kd.int .u8).C w A4 x.f4.length x.f4) :
    Calls Tryd.prog 56 #[.agg (cellsIt x A4 c4)] w fun e w' => (∃ A, e = .returned (.agg (cellsIt x A x.f4.length)) ∧ Kd.F (Kd.int .u8) w' (fun k => w.heap.size ≤ k) A x.f4.length x.f4) ∧ Below w.heap.size w w' := by
  have HR := Aside0.mk hr
  clear hr
  unfold cellsIt
  go_enter Tryd.func56, Tryd.ntmps56
  go_wp2_with (refine Kd.R_append_rows (Kd.int .u8) (w0 := w) w.heap.size rfl _ _ 24 5 (.int .u8 0) 1 rfl Tryd.underlying24 info5 rfl (by decide) (by decide) (.slice none 0 0) [] x.f4 A4 x.f4.length c4 (fun k => w.heap.size + 2 ≤ k) (fun _ => False) rfl rfl (Kd.R_nil _ _ _ _ _) (Kd.C_below HR.out (((Below.refl _ w).alloc (Nat.le_refl _) _).alloc (by simp) _)) (fun _ _ h => h) (fun _ h => h.elim) (fun k h => by simp at h; omega) (((Below.refl _ w).alloc (Nat.le_refl _) _).alloc (by simp) _) (by simp; omega) (by simp; omega) ?_)
  intro v1 w1 hR hB hg hat
  obtain ⟨A, c, rfl, hc, hC⟩ := Kd.R_reads hR
  have hcm : c ≤ 9223372036854775807 := by
    obtain ⟨inner, ho⟩ := Kd.R_own hR
    rcases ho.2 with ⟨he, h0⟩ | ⟨g, cap, cur, he, _, _, _, hcm, _⟩
    · injection he with _ _ e3; omega
    · injection he with _ _ e3; unfold maxLen at hcm; omega
  have k0 : w1.heap[w.heap.size]? = some (.cells #[.string x.f0, .int .u8 x.f1, .int .i64 x.f2, .int .i64 x.f3, .slice A4 x.f4.length c4, .string x.f5] 26 (0, 0)) := by
    refine cells_grown ?_ hg
    exact ((Below.refl _ (w.alloc (.cells #[.string x.f0, .int .u8 x.f1, .int .i64 x.f2, .int .i64 x.f3, .slice A4 x.f4.length c4, .string x.f5] 26))).alloc (Nat.le_refl _) _).block w.heap.size (by simp) |>.trans (blk_new w _)
  have k1 : w1.heap[w.heap.size + 1]? = some (.cells #[.string ⟨#[]⟩, .int .u8 0, .int .i64 0, .int .i64 0, .slice none 0 0, .string ⟨#[]⟩] 26 (0, 0)) := by
    refine cells_grown ?_ hg
    have := blk_new (w.alloc (.cells #[.string x.f0, .int .u8 x.f1, .int .i64 x.f2, .int .i64 x.f3, .slice A4 x.f4.length c4, .string x.f5] 26)) (.cells #[.string ⟨#[]⟩, .int .u8 0, .int .i64 0, .int .i64 0, .slice none 0 0, .string ⟨#[]⟩] 26)
    rw [World.size_alloc] at this
    exact this
  have c00 := (blk_cell k0 0).trans rfl
  have c01 := (blk_cell k0 1).trans rfl
  have c02 := (blk_cell k0 2).trans rfl
  have c03 := (blk_cell k0 3).trans rfl
  have c04 := (blk_cell k0 4).trans rfl
  have c05 := (blk_cell k0 5).trans rfl
  have f04 := blk_frozen k0 4
  have c10 := (blk_cell k1 0).trans rfl
  have c11 := (blk_cell k1 1).trans rfl
  have c12 := (blk_cell k1 2).trans rfl
  have c13 := (blk_cell k1 3).trans rfl
  have c14 := (blk_cell k1 4).trans rfl
  have c15 := (blk_cell k1 5).trans rfl
  have f10 := blk_frozen k1 0
  have f11 := blk_frozen k1 1
  have f12 := blk_frozen k1 2
  have f13 := blk_frozen k1 3
  have f14 := blk_frozen k1 4
  have f15 := blk_frozen k1 5
  have HRR := Aside0.mk hR
  have HB := Aside0.mk hB
  have HG := Aside0.mk hg
  clear hR hB hg hat k0 k1 hC
  go_wp2_with fail
  refine (clip_bytes A x.f4.length c _ hc hcm).mono ?_
  rintro e w2 ⟨rfl, rfl⟩
  go_wp2
  have hF0 := Kd.R_F HRR.out
  have hok0 : ∀ k, w.heap.size + 2 ≤ k → ∀ j, k ≠ (⟨w.heap.size, j, none⟩ : Addr).block := fun k hk j => by simp; omega
  have hok1 : ∀ k, w.heap.size + 2 ≤ k → ∀ j, k ≠ (⟨w.heap.size + 1, j, none⟩ : Addr).block := fun k hk j => by simp; omega
  refine bodyPost_ret (v := .agg #[.string x.f0, .int .u8 x.f1, .int .i64 x.f2, .int .i64 x.f3, .slice A x.f4.length x.f4.length, .string x.f5]) (by simp [results, Tryd.results56, go_sem, c00, c01, c02, c03, c04, c05, c10, c11, c12, c13, c14, c15]) rfl ⟨⟨A, rfl, ?_⟩, ?_⟩
  · refine Kd.F_mono ?_ (fun k (hk : w.heap.size + 2 ≤ k) => (by omega : w.heap.size ≤ k))
    exact Kd.F_far (Kd.F_far (Kd.F_far (Kd.F_far (Kd.F_far (Kd.F_far (Kd.F_far (Kd.F_far hF0 (fun k hk => hok0 k hk 4) _) (fun k hk => hok0 k hk 4) _) (fun k hk => hok1 k hk 0) _) (fun k hk => hok1 k hk 1) _) (fun k hk => hok1 k hk 2) _) (fun k hk => hok1 k hk 3) _) (fun k hk => hok1 k hk 4) _) (fun k hk => hok1 k hk 5) _
  · exact below_set (below_set (below_set (below_set (below_set (below_set (below_set (below_set HB.out (Nat.le_refl _)) (Nat.le_refl _)) (Nat.le_succ _)) (Nat.le_succ _)) (Nat.le_succ _)) (Nat.le_succ _)) (Nat.le_succ _)) (Nat.le_succ _)
theorem N_cap {α : Type} {d : Kd α} {e : Nat} {w : World} {base : Nat} {ok : Nat → Prop} {v : Value} {xs : List α} (h : Kd.N d e w base ok v xs) : ∃ A c, v = .slice A xs.length c ∧ xs.length ≤ c ∧ c ≤ 9223372036854775807 := by
  obtain ⟨A, c, rfl, hc, _⟩ := Kd.N_reads h
  refine ⟨A, c, rfl, hc, ?_⟩
  obtain ⟨_, rows, _, hR, _⟩ := h
  obtain ⟨inner, ho⟩ := Kd.R_own hR
  rcases ho.2 with ⟨he, h0⟩ | ⟨g, cap, cur, he, _, _, _, hcm, _⟩
  · injection he with _ _ e3; omega
  · injection he with _ _ e3; unfold maxLen at hcm; omega
def keepP (p : S26 → Bool) (xs : List S26) : Nat → List S26
  | 0 => []
  | k + 1 => if p (rd_T26 xs k) then keepP p xs k ++ [rd_T26 xs k] else keepP p xs k
theorem keepP_len (p : S26 → Bool) (xs : List S26) (k : Nat) : (keepP p xs k).length ≤ k := by
  induction k with
  | zero => exact Nat.le_refl _
  | succ k ih =>
    simp only [keepP]
    split
    · rw [List.length_append, List.length_singleton]; omega
    · omega
set_option maxRecDepth 100000 in
set_option maxHeartbeats 4000000 in
theorem some_clip (g : Nat) (cap : Array Value) (p : S26 → Bool) (A : Option Addr) (c : Nat) (xs : List S26) (w : World) (hr : Kd.C k26 w A xs.length xs) (hm : xs.length * 80 ≤ 140737488351232) (hb4 : ∀ x ∈ xs, x.f4.length ≤ 140737488355328)
    (hcall : ∀ (args : Array Value) (W : World), (callFunc g args).run Tryd.prog W = .ok (.enter g args) W) (hp : Tells g cap p w) :
    Calls Tryd.prog 46 #[.slice A xs.length c, .func (.func g) #[] cap] w fun e w' => (∃ A', e = .returned (.slice A' (keepP p xs xs.length).length (keepP p xs xs.length).length) ∧ Kd.V k26 26 w' w.heap.size (fun k => w.heap.size ≤ k) (.slice A' (keepP p xs xs.length).length (keepP p xs xs.length).length) (keepP p xs xs.length)) ∧ Below w.heap.size w w' := by
  have HR := Aside0.mk hr
  have HP := Aside0.mk hp
  have H4 := Aside0.mk hb4
  clear hr hp hb4
  go_enter Tryd.func46, Tryd.ntmps46
  go_wp2
  go_loopw [5, 10] (fun v i wr => ∃ k : Nat, k ≤ xs.length ∧ i = .int .i64 k ∧ Aside0 (Below w.heap.size w wr) ∧ Aside0 (Kd.N k26 26 wr w.heap.size (fun k => w.heap.size ≤ k) v (keepP p xs k))) (fun _ i _ => xs.length - (intOf i).toNat)
  case atStart => exact ⟨0, Nat.zero_le _, rfl, ⟨Below.refl _ _⟩, ⟨Kd.N_nil _ _ _ _ _⟩⟩
  case round =>
    obtain ⟨k, hk, rfl, hB, hN⟩ := hrel
    by_cases hlt : k < xs.length
    · obtain ⟨ad, A4, c4, rfl, h0, h1, h2, h3, h4, h5, hl, hr4⟩ := at_it HR.out hB.out k hlt
      have HR4 := Aside0.mk hr4
      clear hr4
      go_wp2_with fail
      refine (HP.out _ (rd_T26 xs k) A4 c4 (hB.out.trans (((Below.refl _ wr).alloc (Nat.le_refl _) _).mono hB.out.size)) hl (Kd.C_below HR4.out ((Below.refl _ _).alloc (Nat.le_refl _) _))).mono ?_
      rintro e w1 ⟨rfl, hb⟩
      obtain ⟨a0, a1, a2, a3, a4, a5, az⟩ := box_it (rd_T26 xs k) A4 c4 hb
      have hbw := ((Below.refl _ wr).alloc (Nat.le_refl _) (.cells (cellsIt (rd_T26 xs k) A4 c4) 26)).trans (hb.mono (by simp))
      have HB1 := Aside0.mk (hB.out.trans (hbw.mono hB.out.size))
      have HBW := Aside0.mk hbw
      have HN1 := Aside0.mk (Kd.N_below hN.out hbw)
      clear hb hbw h0 h1 h2 h3 h4 h5
      by_cases hpk : p (rd_T26 xs k) = true
      · have HK := Lib.hid hpk
        have HS := Lib.hid (show keepP p xs (k + 1) = keepP p xs k ++ [rd_T26 xs k] by rw [keepP, if_pos hpk])
        rw [hpk]
        clear hpk
        have hm4 : (rd_T26 xs k).f4.length ≤ 140737488355328 := H4.out _ (by unfold rd_T26; rw [Int.toNat_natCast, List.getD_eq_getElem?_getD, List.getElem?_eq_getElem hlt]; exact List.getElem_mem hlt)
        go_wp2_with fail
        refine (own_any (rd_T26 xs k) A4 c4 _ hl hm4 (Kd.C_below HR4.out HBW.out)).mono ?_
        rintro e w2 ⟨⟨A', rfl, hF⟩, hb2⟩
        unfold cellsIt
        have HF := Aside0.mk hF
        have HN2 := Aside0.mk (Kd.N_below HN1.out hb2)
        have HB2 := Aside0.mk (HB1.out.trans (hb2.mono HB1.out.size))
        have hlt1 := HBW.out.size
        have hkl := keepP_len p xs k
        clear hF hb2 a0 a1 a2 a3 a4 a5
        go_wp2_with ((with_reducible refine gate_builtin (b := .append) (xs := #[.tmp 17, .tmp 20]) rfl ?_); at_builtin; refine Kd.N_append k26 (w0 := w) w.heap.size rfl (.tmp 17) (.tmp 20) 22 26 (.agg #[.string ⟨#[]⟩, .int .u8 0, .int .i64 0, .int .i64 0, .slice none 0 0, .string ⟨#[]⟩]) 80 rfl Tryd.underlying22 info26 rfl (by decide) (by decide) _ (keepP p xs k) (rd_T26 xs k) [.string (rd_T26 xs k).f0, .int .u8 (rd_T26 xs k).f1, .int .i64 (rd_T26 xs k).f2, .int .i64 (rd_T26 xs k).f3, .slice A' (rd_T26 xs k).f4.length (rd_T26 xs k).f4.length, .string (rd_T26 xs k).f5] (fun k_ => w.heap.size ≤ k_) (fun k_ => w1.heap.size ≤ k_) rfl rfl (k26_mkF _ _ _ (Nat.le_refl _) HF.out) (fun k_ h => ⟨Nat.le_trans HB1.out.size h, fun e => by have := Kd.N_lt HN1.out k_ e.symm; omega⟩) (fun k_ h => Nat.le_trans HB2.out.size h) HN2.out HB2.out HB2.out.size (by omega) ?_)
        intro v1 w3 hN3 hB3 hg hat
        rw [← HS.out] at hN3
        have HN3 := Aside0.mk hN3
        have HB3 := Aside0.mk hB3
        clear hN3 hB3 hg hat hlt1 hkl
        go_wp2
        go_roundw
        case rel => exact ⟨k + 1, by omega, by go_num, HB3, HN3⟩
        case measure => simp [intOf]; omega
      · have hpk' : p (rd_T26 xs k) = false := by simpa using hpk
        have HS := Lib.hid (show keepP p xs (k + 1) = keepP p xs k by rw [keepP, if_neg hpk])
        rw [hpk']
        clear hpk hpk'
        have hN3 := HN1.out
        rw [← HS.out] at hN3
        have HN3 := Aside0.mk hN3
        clear hN3 a0 a1 a2 a3 a4 a5
        go_wp2
        go_roundw
        case rel => exact ⟨k + 1, by omega, by go_num, HB1, HN3⟩
        case measure => simp [intOf]; omega
    · obtain rfl : k = xs.length := by omega
      obtain ⟨A', c', rfl, hc', hcm'⟩ := N_cap hN.out
      have hF := Kd.N_F hN.out
      have HF := Aside0.mk hF
      clear hF
      go_wp2_with fail
      refine (clip_items A' (keepP p xs xs.length).length c' _ hc' hcm').mono ?_
      rintro e w2 ⟨rfl, rfl⟩
      go_wp2
      go_ret
      exact ⟨⟨_, rfl, Kd.V_mk (Nat.le_refl _) HF.out⟩, hB.out⟩
theorem some_any (g : Nat) (cap : Array Value) (p : S26 → Bool) (A : Option Addr) (c : Nat) (xs : List S26) (w : World) (hr : Kd.C k26 w A xs.length xs) (hm : xs.length * 80 ≤ 140737488351232) (hb4 : ∀ x ∈ xs, x.f4.length ≤ 140737488355328)
    (hcall : ∀ (args : Array Value) (W : World), (callFunc g args).run Tryd.prog W = .ok (.enter g args) W) (hp : Tells g cap p w) :
    Calls Tryd.prog 46 #[.slice A xs.length c, .func (.func g) #[] cap] w fun e w' => (∃ v, e = .returned v ∧ Kd.V k26 26 w' w.heap.size (fun k => w.heap.size ≤ k) v (keepP p xs xs.length)) ∧ Below w.heap.size w w' := by
  refine (some_clip g cap p A c xs w hr hm hb4 hcall hp).mono ?_
  rintro e w1 ⟨⟨A', rfl, hV⟩, hb⟩
  exact ⟨⟨_, rfl, hV⟩, hb⟩
end Go.Proofs.YthpecpkncifngaaDoor.X
end

/- The contracts of tree.Beneath, tree.checked, tree.Without. -/
section
namespace Go.Proofs.YthpecpkncifngaaDoor.X
open Go.RowKit Go.Shelf Go.Proofs.YthpecpkncifngaaDoor Go.Proofs.YthpecpkncifngaaDoorW.PrintWords Go.Proofs.YthpecpkncifngaaDoorW.PrintLast Go.Proofs.YthpecpkncifngaaDoorW.PrintMore Go.Proofs.YthpecpkncifngaaDoor.Pure
theorem ben_any (a p : ByteArray) (w : World) :
    Calls Tryd.prog 48 #[.string a, .string p] w fun e w' => e = .returned (.bool (ben a.data.toList p.data.toList)) ∧ Below w.heap.size w w' :=
  name_Beneath.calls a p _ w (nbeneath a p)
theorem beneath1_tells (root : ByteArray) (B : Nat) (w : World) (hc : w.cell? ⟨B, 0, none⟩ = some (.string root)) : Tells 66 #[.pointer (some ⟨B, 0, none⟩)] (fun x => ben root.data.toList x.f0.data.toList) w := by
  intro W x A4 c4 hB hl hr
  have hb := World.block_lt_of_cell? w _ hc
  have hc' := (hB.cell hb).trans hc
  have hbW : B < W.heap.size := Nat.lt_of_lt_of_le hb hB.size
  clear hc
  unfold cellsIt
  go_enter Tryd.func66, Tryd.ntmps66
  go_wp2_with fail
  refine (ben_any _ _ _).mono ?_
  rintro e w1 ⟨rfl, h1⟩
  go_wp2
  go_ret
  exact ⟨rfl, ((Below.refl _ W).alloc (Nat.le_refl _) _).trans (h1.mono (by simp))⟩
noncomputable def beneathP (xs : List S26) (root : ByteArray) : List S26 := keepP (fun x => ben root.data.toList x.f0.data.toList) xs xs.length
theorem tree_beneath (A : Option Addr) (c : Nat) (xs : List S26) (root : ByteArray) (w : World) (hr : Kd.C k26 w A xs.length xs) (hm : xs.length * 80 ≤ 140737488351232) (hb4 : ∀ x ∈ xs, x.f4.length ≤ 140737488355328) :
    Calls Tryd.prog 28 #[.slice A xs.length c, .string root] w fun e w' => (∃ v, e = .returned v ∧ Kd.V k26 26 w' w.heap.size (fun k => w.heap.size ≤ k) v (beneathP xs root)) ∧ Below w.heap.size w w' := by
  have HR := Aside0.mk hr
  clear hr
  have hB0 : Below w.heap.size w (w.alloc (.cells #[.string root] 9)) := (Below.refl _ w).alloc (Nat.le_refl _) _
  have hcell : (w.alloc (.cells #[.string root] 9)).cell? ⟨w.heap.size, 0, none⟩ = some (.string root) := (cell_new_l w (.string root) 9).1
  have HT := Aside0.mk (beneath1_tells root w.heap.size _ hcell)
  clear hcell
  go_enter Tryd.func28, Tryd.ntmps28
  go_wp2_with fail
  refine (some_any 66 _ _ A c xs _ (Kd.C_below HR.out hB0) hm hb4 (fun args W => by kernel_rfl) HT.out).mono ?_
  rintro e w1 ⟨⟨v, rfl, hV⟩, hb⟩
  have HV := Aside0.mk hV
  clear hV
  go_wp2
  go_ret
  exact ⟨⟨_, rfl, Kd.V_mono HV.out (fun k h => Nat.le_trans hB0.size h)⟩, hB0.trans (hb.mono hB0.size)⟩
end Go.Proofs.YthpecpkncifngaaDoor.X
end

/- The contracts of tree.byPath, slices.BinarySearchFunc. -/
section
namespace Go.Proofs.YthpecpkncifngaaDoor.X
open Go Go.RowKit Go.Shelf Go.Proofs.YthpecpkncifngaaDoor Go.Proofs.YthpecpkncifngaaDoorW.PrintWords Go.Proofs.YthpecpkncifngaaDoorW.PrintLast Go.Proofs.YthpecpkncifngaaDoorW.PrintMore Go.Proofs.YthpecpkncifngaaDoor.Pure
def cmpI (x y : S26) : Int := Nm.cmpL (Nm.texts x.f0.data.toList) (Nm.texts y.f0.data.toList)
theorem rd_get (xs : List S26) (k : Nat) (h : k < xs.length) : rd_T26 xs k = xs[k] := by
  unfold rd_T26
  rw [Int.toNat_natCast, List.getD_eq_getElem?_getD, List.getElem?_eq_getElem h]; rfl
end Go.Proofs.YthpecpkncifngaaDoor.X
end

/- NameJoins: the pure statement. -/
section
namespace Go.Proofs.YthpecpkncifngaaDoor.Pure
open Go.RowKit Go.Proofs.YthpecpkncifngaaDoor.X Go.Proofs.YthpecpkncifngaaDoorW.PrintWords Go.Proofs.YthpecpkncifngaaDoorW.PrintLast Go.Proofs.YthpecpkncifngaaDoorW.PrintMore
open Go.Proofs.YthpecpkncifngaaDoor
theorem join_eq (l : List (List UInt8)) : Lib.join l [47] = Nm.joinT l := by
  induction l with
  | nil => rfl
  | cons x l ih =>
    cases l with
    | nil => simp [Lib.join, List.intercalate, Nm.joinT]
    | cons y r =>
      simp only [Lib.join, List.intercalate, List.intersperse] at ih ⊢
      simp only [Nm.joinT]
      rw [← ih]
      simp
end Go.Proofs.YthpecpkncifngaaDoor.Pure
end

/- Plain words on paths: the order of paths is one, and what is beneath a path stands right behind it. -/
section
namespace Go.Proofs.YthpecpkncifngaaDoor.Nm
theorem bl_irrefl : ∀ x : List UInt8, Op.bytesLess x x = false
  | [] => rfl
  | a :: x => by
    simp only [Op.bytesLess, bl_irrefl x, Bool.and_false, Bool.or_false, decide_eq_false_iff_not]
    exact fun h => by rw [UInt8.lt_iff_toNat_lt] at h; omega
theorem bl_trans : ∀ x y z : List UInt8, Op.bytesLess x y = true → Op.bytesLess y z = true → Op.bytesLess x z = true
  | [], _, [], _, h => by cases ‹List UInt8› <;> simp [Op.bytesLess] at h
  | [], _, _ :: _, _, _ => rfl
  | _ :: _, [], _, h, _ => by simp [Op.bytesLess] at h
  | _ :: _, _ :: _, [], _, h => by simp [Op.bytesLess] at h
  | a :: x, b :: y, c :: z, h1, h2 => by
    simp only [Op.bytesLess, Bool.or_eq_true, decide_eq_true_eq, Bool.and_eq_true, beq_iff_eq] at h1 h2 ⊢
    rcases h1 with h1 | ⟨rfl, h1⟩
    · rcases h2 with h2 | ⟨rfl, h2⟩
      · left; rw [UInt8.lt_iff_toNat_lt] at *; omega
      · left; exact h1
    · rcases h2 with h2 | ⟨rfl, h2⟩
      · left; exact h2
      · right; exact ⟨rfl, bl_trans x y z h1 h2⟩
theorem bl_asymm {x y : List UInt8} (h : Op.bytesLess x y = true) : Op.bytesLess y x = false := by
  cases h2 : Op.bytesLess y x with
  | false => rfl
  | true => have := bl_trans _ _ _ h h2; rw [bl_irrefl] at this; exact this.symm
theorem bl_tri (x y : List UInt8) : x = y ∨ Op.bytesLess x y = true ∨ Op.bytesLess y x = true := by
  cases h1 : Op.bytesLess x y with
  | true => exact .inr (.inl rfl)
  | false =>
    cases h2 : Op.bytesLess y x with
    | true => exact .inr (.inr rfl)
    | false =>
      left
      have := bytesLess_swap x y
      rw [h2, h1] at this
      simpa using this
theorem cmp_cons (x : List UInt8) (a : List (List UInt8)) (y : List UInt8) (b : List (List UInt8)) : cmpL (x :: a) (y :: b) = if x = y then cmpL a b else if Op.bytesLess x y = true then -1 else 1 := by
  simp only [cmpL]
  rcases bl_tri x y with h | h | h
  · subst h; rw [bl_irrefl]; simp
  · rw [if_pos h, if_neg (fun e => by rw [e, bl_irrefl] at h; simp at h), if_pos h]
  · rw [if_neg (by rw [bl_asymm h]; simp), if_pos h, if_neg (fun e => by rw [e, bl_irrefl] at h; simp at h), if_neg (by rw [bl_asymm h]; simp)]
theorem cmp_self : ∀ x : List (List UInt8), cmpL x x = 0
  | [] => rfl
  | x :: a => by rw [cmp_cons, if_pos rfl, cmp_self a]
theorem cmp_vals : ∀ x y : List (List UInt8), cmpL x y = -1 ∨ cmpL x y = 0 ∨ cmpL x y = 1
  | [], [] => .inr (.inl rfl)
  | [], _ :: _ => .inl rfl
  | _ :: _, [] => .inr (.inr rfl)
  | x :: a, y :: b => by
    rw [cmp_cons]
    split
    · exact cmp_vals a b
    · split <;> simp
theorem cmp_lt_trans : ∀ x y z : List (List UInt8), cmpL x y = -1 → cmpL y z = -1 → cmpL x z = -1
  | [], [], _, h, _ => by simp [cmpL] at h
  | _ :: _, [], _, h, _ => by simp [cmpL] at h
  | _, _ :: _, [], _, h => by simp [cmpL] at h
  | [], _ :: _, _ :: _, _, _ => rfl
  | x :: a, y :: b, z :: c, h1, h2 => by
    rw [cmp_cons] at h1 h2 ⊢
    by_cases e1 : x = y
    · rw [if_pos e1] at h1
      subst e1
      by_cases e2 : x = z
      · rw [if_pos e2] at h2 ⊢; exact cmp_lt_trans a b c h1 h2
      · rw [if_neg e2] at h2 ⊢; exact h2
    · rw [if_neg e1] at h1
      have b1 : Op.bytesLess x y = true := by
        cases hb : Op.bytesLess x y with
        | true => rfl
        | false => rw [hb] at h1; simp at h1
      by_cases e2 : y = z
      · subst e2; rw [if_neg e1, if_pos b1]
      · rw [if_neg e2] at h2
        have b2 : Op.bytesLess y z = true := by
          cases hb : Op.bytesLess y z with
          | true => rfl
          | false => rw [hb] at h2; simp at h2
        have b3 := bl_trans _ _ _ b1 b2
        rw [if_neg (fun e => by rw [e, bl_irrefl] at b3; simp at b3), if_pos b3]
end Go.Proofs.YthpecpkncifngaaDoor.Nm
end

/- The reference's Check, told by the same plain words as the program's. -/
section
namespace Go.Proofs.YthpecpkncifngaaDoor.X
open Go.RowKit Go.Shelf Go.Proofs.YthpecpkncifngaaDoor Go.Proofs.YthpecpkncifngaaDoorW.PrintWords Go.Proofs.YthpecpkncifngaaDoorW.PrintLast Go.Proofs.YthpecpkncifngaaDoorW.PrintMore Go.Proofs.YthpecpkncifngaaDoor.Pure
theorem rd_drop (xs : List S26) (i : Nat) (h : i < xs.length) : xs.drop i = rd_T26 xs i :: xs.drop (i + 1) := by
  rw [List.drop_eq_getElem_cons h]
  congr 1
  unfold rd_T26
  rw [Int.toNat_natCast, List.getD_eq_getElem?_getD, List.getElem?_eq_getElem h]
  rfl
theorem mem_take (xs : List S26) (k : Nat) (hk : k ≤ xs.length) (x : S26) : x ∈ xs.take k ↔ ∃ i, i < k ∧ rd_T26 xs i = x := by
  have rd : ∀ i : Nat, (h : i < xs.length) → rd_T26 xs i = xs[i] := fun i h => by
    unfold rd_T26
    rw [Int.toNat_natCast, List.getD_eq_getElem?_getD, List.getElem?_eq_getElem h]; rfl
  rw [List.mem_take_iff_getElem]
  constructor
  · rintro ⟨i, hi, rfl⟩
    exact ⟨i, by omega, rd i (by omega)⟩
  · rintro ⟨i, hi, rfl⟩
    exact ⟨i, by omega, (rd i (by omega)).symm⟩
theorem rises {xs : List S26} {k : Nat} (h : ∀ j, j < k → stepP xs j = 0) : ∀ (j i : Nat), i < j → j < k → Nm.cmpL (Nm.texts (rd_T26 xs i).f0.data.toList) (Nm.texts (rd_T26 xs j).f0.data.toList) = -1 := by
  have one : ∀ j : Nat, j + 1 < k → Nm.cmpL (Nm.texts (rd_T26 xs j).f0.data.toList) (Nm.texts (rd_T26 xs (j + 1 : Nat)).f0.data.toList) = -1 := by
    intro j hj
    have hs := h (j + 1) hj
    have hm : mayP (rd_T26 xs (j + 1 : Nat)) = 0 := by
      by_cases hm : mayP (rd_T26 xs (j + 1 : Nat)) = 0
      · exact hm
      · rw [step1 hm] at hs; exact hs
    by_cases hc : 0 ≤ cmpA xs (j + 1)
    · rw [step2 hm ⟨by omega, hc⟩] at hs; simp at hs
    · unfold cmpA at hc
      rw [Nat.add_sub_cancel] at hc
      rcases Nm.cmp_vals (Nm.texts (rd_T26 xs j).f0.data.toList) (Nm.texts (rd_T26 xs (j + 1 : Nat)).f0.data.toList) with e | e | e <;> omega
  intro j
  induction j with
  | zero => intro i hi; omega
  | succ j ih =>
    intro i hi hj
    rcases Nat.lt_or_ge i j with hlt | hge
    · exact Nm.cmp_lt_trans _ _ _ (ih i hlt (by omega)) (one j hj)
    · obtain rfl : i = j := by omega
      exact one i hj
theorem apart {xs : List S26} {k : Nat} (h : ∀ j, j < k → stepP xs j = 0) {i j : Nat} (hi : i < k) (hj : j < k) (e : (rd_T26 xs i).f0 = (rd_T26 xs j).f0) : i = j := by
  rcases Nat.lt_trichotomy i j with hl | hl | hl
  · have := rises h j i hl hj
    rw [e, Nm.cmp_self] at this; simp at this
  · exact hl
  · have := rises h i j hl hi
    rw [e, Nm.cmp_self] at this; simp at this
theorem kd_some (xs : List S26) (s : ByteArray) (K : Int) (h0 : K ≠ 0) : ∀ k, kd xs k s = K → ∃ i, i < k ∧ (rd_T26 xs i).f0 = s ∧ (rd_T26 xs i).f1 = K
  | 0, h => absurd h.symm h0
  | k + 1, h => by
    simp only [kd] at h
    split at h
    · rename_i hk
      exact ⟨k, by omega, hk, h⟩
    · obtain ⟨i, hi, h1⟩ := kd_some xs s K h0 k h
      exact ⟨i, by omega, h1⟩
end Go.Proofs.YthpecpkncifngaaDoor.X
end

/- The contract of tree.With. -/
section
namespace Go.Proofs.YthpecpkncifngaaDoor.X
open Go Go.RowKit Go.Shelf Go.Proofs.YthpecpkncifngaaDoor Go.Proofs.YthpecpkncifngaaDoorW.PrintWords Go.Proofs.YthpecpkncifngaaDoorW.PrintLast Go.Proofs.YthpecpkncifngaaDoorW.PrintMore Go.Proofs.YthpecpkncifngaaDoor.Pure
theorem chk_all {xs : List S26} (d : Nat) : ∀ i : Nat, xs.length - i = d → i ≤ xs.length → (chkP xs i).2 = 0 → ∀ j, i ≤ j → j < xs.length → stepP xs j = 0 := by
  induction d with
  | zero => intro i hd hi h j h1 h2; omega
  | succ d ih =>
    intro i hd hi h j h1 h2
    have hlt : i < xs.length := by omega
    by_cases hs : stepP xs i = 0
    · rw [chkP_go hlt hs] at h
      rcases Nat.eq_or_lt_of_le h1 with e | e
      · rw [← e]; exact hs
      · exact ih (i + 1) (by omega) (by omega) h j e h2
    · rw [chkP_stop hlt rfl hs] at h
      exact absurd h hs
theorem chk_ok {xs : List S26} (h : (checkP xs).2 = 0) : xs.length ≤ 256 ∧ ∀ j, j < xs.length → stepP xs j = 0 := by
  unfold checkP at h
  split at h
  · simp at h
  · exact ⟨by omega, fun j hj => chk_all _ 0 rfl (Nat.zero_le _) h j (Nat.zero_le _) hj⟩
theorem step_may {xs : List S26} {j : Nat} (h : stepP xs j = 0) : mayP (rd_T26 xs j) = 0 := by
  by_cases hm : mayP (rd_T26 xs j) = 0
  · exact hm
  · rw [step1 hm] at h; exact h
theorem chk_rise {xs : List S26} (h : (checkP xs).2 = 0) : xs.Pairwise (fun a b => cmpI a b = -1) ∧ ∀ x ∈ xs, mayP x = 0 := by
  obtain ⟨_, hs⟩ := chk_ok h
  constructor
  · rw [List.pairwise_iff_getElem]
    intro i j hi hj hij
    have := rises hs j i hij hj
    rw [rd_get xs i hi, rd_get xs j hj] at this
    exact this
  · intro x hx
    obtain ⟨i, hi, rfl⟩ := List.getElem_of_mem hx
    have := step_may (hs i hi)
    rwa [rd_get xs i hi] at this
theorem keepP_filter (p : S26 → Bool) (xs : List S26) : ∀ k, k ≤ xs.length → keepP p xs k = (xs.take k).filter p
  | 0, _ => rfl
  | k + 1, h => by
    have ih := keepP_filter p xs k (by omega)
    rw [keepP, rd_get xs k (by omega), List.take_add_one, List.getElem?_eq_getElem (by omega), List.filter_append, ih]
    by_cases hp : p xs[k] = true
    · rw [if_pos hp]; simp [hp]
    · rw [if_neg hp]; simp [hp]
theorem keepP_all (p : S26 → Bool) (xs : List S26) : keepP p xs xs.length = xs.filter p := by
  rw [keepP_filter p xs _ (Nat.le_refl _), List.take_length]
end Go.Proofs.YthpecpkncifngaaDoor.X
end

/- Plain words on paths: parts that are not empty and have no stroke; what is joined of them is parted again. -/
section
namespace Go.Proofs.YthpecpkncifngaaDoor.Nm
def Pt (x : List UInt8) : Prop := x ≠ [] ∧ (47 : UInt8) ∉ x
def Good (L : List (List UInt8)) : Prop := ∀ x ∈ L, Pt x
theorem Good.nil : Good [] := fun x h => by cases h
theorem Good.cons {x : List UInt8} {L : List (List UInt8)} (h : Pt x) (hL : Good L) : Good (x :: L) := fun y hy => by
  rcases List.mem_cons.1 hy with rfl | hy
  · exact h
  · exact hL y hy
theorem Good.append {a b : List (List UInt8)} (ha : Good a) (hb : Good b) : Good (a ++ b) := fun x hx => (List.mem_append.1 hx).elim (ha x) (hb x)
theorem Good.head {x : List UInt8} {L : List (List UInt8)} (h : Good (x :: L)) : Pt x := h x (by simp)
theorem Good.tail {x : List UInt8} {L : List (List UInt8)} (h : Good (x :: L)) : Good L := fun y hy => h y (List.mem_cons_of_mem _ hy)
theorem Good.sub {a b : List (List UInt8)} (h : Good b) (hs : ∀ x ∈ a, x ∈ b) : Good a := fun x hx => h x (hs x hx)
theorem pc_ns : ∀ (l : List UInt8) (p : Nat), (47 : UInt8) ∉ (pc p l).1 ∧ ∀ x ∈ (pc p l).2, (47 : UInt8) ∉ x.2
  | [], _ => by simp [pc]
  | c :: l, p => by
    have h := pc_ns l (p + 1)
    by_cases hc : c = 47
    · simp only [pc, hc, if_true, List.mem_cons]
      refine ⟨by simp, ?_⟩
      rintro x (rfl | hx)
      · exact h.1
      · exact h.2 x hx
    · simp only [pc, hc, if_false, List.mem_cons, not_or]
      exact ⟨⟨fun e => hc e.symm, h.1⟩, h.2⟩
theorem texts_ns (l : List UInt8) : ∀ x ∈ texts l, (47 : UInt8) ∉ x := by
  intro x hx
  obtain ⟨y, hy, rfl⟩ := List.mem_map.1 hx
  rcases List.mem_cons.1 hy with rfl | hy
  · exact (pc_ns l 0).1
  · exact (pc_ns l 0).2 y hy
theorem bad_none_ne {l : List UInt8} (h : bad l = none) : l ≠ [] := by
  rintro rfl
  simp [bad] at h
theorem check_good {l : List UInt8} (h : (check l).2 = 0) : Good (texts l) := fun x hx => ⟨bad_none_ne (((check_ok l).1 h).2 x hx), texts_ns l x hx⟩
theorem texts_one {x : List UInt8} (h : (47 : UInt8) ∉ x) : texts x = [x] := by
  have : ∀ (l : List UInt8) (p : Nat), (47 : UInt8) ∉ l → pc p l = (l, []) := by
    intro l
    induction l with
    | nil => intro p _; rfl
    | cons c l ih =>
      intro p hl
      have hc : ¬ c = 47 := fun e => hl (by rw [e]; exact List.mem_cons_self ..)
      simp only [pc, hc, if_false, ih (p + 1) (fun h => hl (List.mem_cons_of_mem _ h))]
  simp [texts, pieces, this x 0 h]
theorem texts_joinT : ∀ (L : List (List UInt8)), L ≠ [] → (∀ x ∈ L, (47 : UInt8) ∉ x) → texts (joinT L) = L
  | [x], _, h => texts_one (h x (by simp))
  | x :: y :: r, _, h => by
    rw [joinT, texts_append, texts_one (h x (by simp)), texts_joinT (y :: r) (by simp) (fun z hz => h z (List.mem_cons_of_mem _ hz))]
    rfl
def partsL (s : List UInt8) : List (List UInt8) := if s = [] then [] else texts s
theorem joinT_nil {L : List (List UInt8)} (h : Good L) : joinT L = [] ↔ L = [] := by
  constructor
  · intro e
    match L, h, e with
    | [], _, _ => rfl
    | [x], h, e => exact absurd e (h.head).1
    | x :: y :: r, h, e => simp [joinT] at e
  · rintro rfl; rfl
theorem parts_joinT {L : List (List UInt8)} (h : Good L) : partsL (joinT L) = L := by
  by_cases e : L = []
  · subst e; rfl
  · rw [partsL, if_neg (fun q => e ((joinT_nil h).1 q)), texts_joinT L e (fun x hx => (h x hx).2)]
theorem joinT_parts (s : List UInt8) : joinT (partsL s) = s := by
  unfold partsL
  split
  · rename_i h; rw [h]; rfl
  · exact joinT_texts s
theorem parts_check {l : List UInt8} (h : (check l).2 = 0) : l ≠ [] ∧ partsL l = texts l ∧ Good (partsL l) := by
  have hne : l ≠ [] := by
    rintro rfl
    have := check_good h [] (by decide)
    exact this.1 rfl
  have e : partsL l = texts l := by rw [partsL, if_neg hne]
  exact ⟨hne, e, e ▸ check_good h⟩
theorem way_good : ∀ (b ps q : List (List UInt8)), way ps b = some q → Good ps → (∀ x ∈ b, (47 : UInt8) ∉ x) → Good q
  | [], ps, q, h, hp, _ => by simp only [way, Option.some.injEq] at h; exact h ▸ hp
  | x :: r, ps, q, h, hp, hb => by
    have hr : ∀ y ∈ r, (47 : UInt8) ∉ y := fun y hy => hb y (List.mem_cons_of_mem _ hy)
    simp only [way] at h
    split at h
    · exact way_good r ps q h hp hr
    · rename_i h1
      split at h
      · split at h
        · simp at h
        · exact way_good r _ q h (hp.sub fun y hy => (List.dropLast_sublist _).subset hy) hr
      · refine way_good r _ q h (hp.append (Good.cons ⟨fun e => h1 (.inl e), hb x (by simp)⟩ Good.nil)) hr
theorem lead_good {a t : List UInt8} (h : (lead a t).2 = 0) : ∃ q, (lead a t).1 = joinT q ∧ Good q ∧ totL q ≤ 802 := by
  unfold lead at h ⊢
  split at h
  · rename_i h1; exact absurd h h1
  · rename_i h1
    rw [if_neg h1]
    split at h
    · simp at h
    · rename_i h2
      rw [if_neg h2]
      split at h
      · simp at h
      · rename_i h3
        rw [if_neg h3]
        split at h
        · simp at h
        · rename_i h4
          rw [if_neg h4]
          split at h
          · simp at h
          · rename_i h5
            rw [if_neg h5]
            cases hw : way (texts a).dropLast (texts t) with
            | none => rw [hw] at h; simp [led] at h
            | some q =>
              have hc : (check a).2 = 0 := by omega
              have ha := ((check_ok a).1 hc).1
              refine ⟨q, by simp [led], way_good _ _ _ hw ((check_good hc).sub fun y hy => (List.dropLast_sublist _).subset hy) (texts_ns t), ?_⟩
              have := way_tot _ _ _ hw
              have := totL_dropLast (texts a)
              rw [totL_texts] at *
              omega
theorem joinT_len_good : ∀ (L : List (List UInt8)), L ≠ [] → (joinT L).length + 1 = totL L
  | [x], _ => by simp [joinT, totL]
  | x :: y :: r, _ => by
    have := joinT_len_good (y :: r) (by simp)
    simp only [joinT, totL, List.map_cons, List.sum_cons, List.length_append, List.length_cons] at this ⊢
    omega
end Go.Proofs.YthpecpkncifngaaDoor.Nm
end

/- Where a path leads, as plain words; what a checked list's items have. -/
section
namespace Go.Proofs.YthpecpkncifngaaDoor.X
open Go Go.RowKit Go.Shelf Go.Proofs.YthpecpkncifngaaDoor Go.Proofs.YthpecpkncifngaaDoorW.PrintWords Go.Proofs.YthpecpkncifngaaDoorW.PrintLast Go.Proofs.YthpecpkncifngaaDoorW.PrintMore Go.Proofs.YthpecpkncifngaaDoor.Pure
def itemOf (xs : List S26) (s : List UInt8) : Option S26 := xs.find? (fun x => x.f0.data.toList == s)
def hardTo (xs : List S26) (x : S26) : S26 := if x.f1 = 3 then (itemOf xs x.f5.data.toList).getD x else x
def realP (xs : List S26) (reached left : List (List UInt8)) (hops : Nat) : List UInt8 × Int :=
  match left with
  | [] => (Nm.joinT reached, 0)
  | p :: rest =>
    match itemOf xs (Nm.joinT (reached ++ [p])) with
    | none => ([], 4)
    | some x =>
      if (hardTo xs x).f1 = 1 ∧ rest ≠ [] then ([], 4)
      else if (hardTo xs x).f1 ≠ 4 then realP xs (Nm.partsL (hardTo xs x).f0.data.toList) rest hops
      else if h : 40 ≤ hops then ([], 114)
      else realP xs [] (Nm.partsL (Nm.lead (hardTo xs x).f0.data.toList (hardTo xs x).f5.data.toList).1 ++ rest) (hops + 1)
termination_by (40 - hops, left.length)
decreasing_by
  · exact Prod.Lex.right _ (by simp)
  · exact Prod.Lex.left _ _ (by omega)
section
variable {xs : List S26} {R rest : List (List UInt8)} {p : List UInt8} {hops : Nat} {x : S26}
theorem real_nil : realP xs R [] hops = (Nm.joinT R, 0) := by rw [realP]
theorem real_none (h : itemOf xs (Nm.joinT (R ++ [p])) = none) : realP xs R (p :: rest) hops = ([], 4) := by rw [realP, h]
theorem real_file (h : itemOf xs (Nm.joinT (R ++ [p])) = some x) (h1 : (hardTo xs x).f1 = 1) (h2 : rest ≠ []) : realP xs R (p :: rest) hops = ([], 4) := by
  rw [realP, h]; exact if_pos ⟨h1, h2⟩
theorem real_go (h : itemOf xs (Nm.joinT (R ++ [p])) = some x) (h1 : ¬ ((hardTo xs x).f1 = 1 ∧ rest ≠ [])) (h2 : (hardTo xs x).f1 ≠ 4) : realP xs R (p :: rest) hops = realP xs (Nm.partsL (hardTo xs x).f0.data.toList) rest hops := by
  rw [realP, h]; exact (if_neg h1).trans (if_pos h2)
theorem real_loop (h : itemOf xs (Nm.joinT (R ++ [p])) = some x) (h2 : (hardTo xs x).f1 = 4) (h3 : 40 ≤ hops) : realP xs R (p :: rest) hops = ([], 114) := by
  rw [realP, h]; exact (if_neg (fun q => by have := q.1; omega)).trans ((if_neg (by simp [h2])).trans (dif_pos h3))
theorem real_soft (h : itemOf xs (Nm.joinT (R ++ [p])) = some x) (h2 : (hardTo xs x).f1 = 4) (h3 : ¬ 40 ≤ hops) : realP xs R (p :: rest) hops = realP xs [] (Nm.partsL (Nm.lead (hardTo xs x).f0.data.toList (hardTo xs x).f5.data.toList).1 ++ rest) (hops + 1) := by
  rw [realP, h]; exact (if_neg (fun q => by have := q.1; omega)).trans ((if_neg (by simp [h2])).trans (dif_neg h3))
end
def realT (xs : List S26) (path : List UInt8) : List UInt8 × Int :=
  if (checkP xs).2 ≠ 0 then ([], (checkP xs).2) else if path = [] then ([], 0) else
  if (Nm.check path).2 ≠ 0 then ([], ((Nm.check path).2 : Int)) else realP xs [] (Nm.texts path) 0
theorem item_some {xs : List S26} {s : List UInt8} {x : S26} (h : itemOf xs s = some x) : x ∈ xs ∧ x.f0.data.toList = s :=
  ⟨List.mem_of_find?_eq_some h, by have := List.find?_some h; simpa using this⟩
def lk (xs : List S26) : Nat → ByteArray → Option Nat
  | 0, _ => none
  | k + 1, s => if (rd_T26 xs k).f0 = s then some k else lk xs k s
theorem lk_some (xs : List S26) (s : ByteArray) : ∀ (k i : Nat), lk xs k s = some i → i < k ∧ (rd_T26 xs i).f0 = s
  | 0, i, h => by simp [lk] at h
  | k + 1, i, h => by
    rw [lk] at h
    split at h
    · rename_i e
      obtain rfl : k = i := by simpa using h
      exact ⟨by omega, e⟩
    · obtain ⟨h1, h2⟩ := lk_some xs s k i h
      exact ⟨by omega, h2⟩
theorem lk_none (xs : List S26) (s : ByteArray) : ∀ (k : Nat), lk xs k s = none → ∀ i, i < k → (rd_T26 xs i).f0 ≠ s
  | 0, _, i, hi => by omega
  | k + 1, h, i, hi => by
    rw [lk] at h
    split at h
    · cases h
    · rename_i e
      rcases Nat.lt_succ_iff_lt_or_eq.1 hi with hi | rfl
      · exact lk_none xs s k h i hi
      · exact e
theorem data_inj {a b : ByteArray} (h : a.data.toList = b.data.toList) : a = b := by
  have : a.data = b.data := Array.toList_inj.1 h
  cases a; cases b; simpa using this
theorem item_of_mem {xs : List S26} (hc : (checkP xs).2 = 0) {x : S26} (hx : x ∈ xs) : itemOf xs x.f0.data.toList = some x := by
  obtain ⟨_, hs⟩ := chk_ok hc
  cases h : itemOf xs x.f0.data.toList with
  | none =>
    have := List.find?_eq_none.1 h x hx
    simp at this
  | some z =>
    obtain ⟨hz, he⟩ := item_some h
    obtain ⟨i, hi, rfl⟩ := List.getElem_of_mem hx
    obtain ⟨j, hj, rfl⟩ := List.getElem_of_mem hz
    have e : (rd_T26 xs j).f0 = (rd_T26 xs i).f0 := by rw [rd_get xs i hi, rd_get xs j hj]; exact data_inj he
    have := apart (k := xs.length) (fun j hj => hs j hj) hj hi e
    subst this
    rfl
theorem item_none {xs : List S26} {s : List UInt8} (h : ∀ i : Nat, i < xs.length → (rd_T26 xs i).f0.data.toList ≠ s) : itemOf xs s = none := by
  refine List.find?_eq_none.2 fun x hx => ?_
  obtain ⟨i, hi, rfl⟩ := List.getElem_of_mem hx
  have := h i hi
  rw [rd_get xs i hi] at this
  simpa using this
theorem lk_item {xs : List S26} (hc : (checkP xs).2 = 0) (s : ByteArray) : (lk xs xs.length s).map (fun i : Nat => rd_T26 xs i) = itemOf xs s.data.toList := by
  cases h : lk xs xs.length s with
  | none =>
    have := lk_none xs s _ h
    rw [item_none (fun i hi e => this i hi (data_inj e))]
    rfl
  | some i =>
    obtain ⟨h1, h2⟩ := lk_some xs s _ i h
    have hm : rd_T26 xs i ∈ xs := by rw [rd_get xs i h1]; exact List.getElem_mem h1
    have := item_of_mem hc hm
    rw [h2] at this
    rw [this]
    rfl
theorem item_idx {xs : List S26} (s : ByteArray) (d : Nat) : ∀ i : Nat, i ≤ xs.length → xs.length - i = d → (∀ j, j < i → (rd_T26 xs j).f0.toList ≠ s.toList) →
    (itemOf xs s.data.toList = none ∧ idxP (fun x => x.f0.toList == s.toList) xs i = -1) ∨ ∃ j : Nat, j < xs.length ∧ idxP (fun x => x.f0.toList == s.toList) xs i = (j : Int) ∧ itemOf xs s.data.toList = some (rd_T26 xs j) := by
  induction d with
  | zero =>
    intro i hi hd hn
    left
    refine ⟨item_none (fun j hj e => hn j (by omega) ?_), idxP_end (by omega)⟩
    rw [Lib.toList_data, Lib.toList_data]; exact e
  | succ d ih =>
    intro i hi hd hn
    have hlt : i < xs.length := by omega
    by_cases h : ((rd_T26 xs i).f0.toList == s.toList) = true
    · right
      refine ⟨i, hlt, idxP_yes hlt h, ?_⟩
      have e : (rd_T26 xs i).f0.data.toList = s.data.toList := by
        have := eq_of_beq h
        rwa [Lib.toList_data, Lib.toList_data] at this
      unfold itemOf
      rw [List.find?_eq_some_iff_append]
      refine ⟨by simpa using e, xs.take i, xs.drop (i + 1), ?_, ?_⟩
      · rw [← rd_drop xs i hlt, List.take_append_drop]
      · intro a ha
        obtain ⟨j, hj, rfl⟩ := (mem_take xs i hi a).1 ha
        have := hn j hj
        rw [Lib.toList_data, Lib.toList_data] at this
        simpa using this
    · have h' : ((rd_T26 xs i).f0.toList == s.toList) = false := by simpa using h
      rw [idxP_no (p := fun x => x.f0.toList == s.toList) hlt h']
      refine ih (i + 1) (by omega) (by omega) (fun j hj => ?_)
      rcases Nat.lt_succ_iff_lt_or_eq.1 hj with hj | rfl
      · exact hn j hj
      · simpa using h
theorem find_item (xs : List S26) (s : ByteArray) : (itemOf xs s.data.toList = none ∧ findP xs s = (0, 4)) ∨ ∃ j : Nat, j < xs.length ∧ findP xs s = ((j : Int), 0) ∧ itemOf xs s.data.toList = some (rd_T26 xs j) := by
  rcases item_idx (xs := xs) s _ 0 (Nat.zero_le _) rfl (fun j hj => by omega) with ⟨h1, h2⟩ | ⟨j, h1, h2, h3⟩
  · left; refine ⟨h1, ?_⟩; unfold findP; rw [h2]; rfl
  · right; refine ⟨j, h1, ?_, h3⟩; unfold findP; rw [h2, if_neg (by omega)]
theorem may_check {x : S26} (h : mayP x = 0) : (Nm.check x.f0.data.toList).2 = 0 := by
  by_cases hc : (Nm.check x.f0.data.toList).2 = 0
  · exact hc
  · unfold mayP at h
    rw [if_pos hc] at h
    omega
theorem may_kind {x : S26} (h : mayP x = 0) : x.f1 = 1 ∨ x.f1 = 2 ∨ x.f1 = 3 ∨ x.f1 = 4 := by
  have hc := may_check h
  unfold mayP at h
  rw [if_neg (by simp [hc])] at h
  by_cases h1 : x.f1 = 1
  · exact .inl h1
  rw [if_neg h1] at h
  by_cases h2 : x.f1 = 2
  · exact .inr (.inl h2)
  rw [if_neg h2] at h
  by_cases h3 : x.f1 = 3
  · exact .inr (.inr (.inl h3))
  rw [if_neg h3] at h
  by_cases h4 : x.f1 = 4
  · exact .inr (.inr (.inr h4))
  rw [if_neg h4] at h
  omega
theorem mayT_zero {x : S26} {M T : Int} {bo tq : Bool} {r : Int} (h : mayT x M T bo tq r = 0) : r = 0 := by
  unfold mayT at h
  by_cases a1 : x.f3 < 0
  · rw [if_pos a1] at h; omega
  rw [if_neg a1] at h
  by_cases a2 : T < x.f3
  · rw [if_pos a2] at h; omega
  rw [if_neg a2] at h
  by_cases a3 : x.f2 < 0
  · rw [if_pos a3] at h; omega
  rw [if_neg a3] at h
  by_cases a4 : M < x.f2
  · rw [if_pos a4] at h; omega
  rw [if_neg a4] at h
  by_cases a5 : 0 < x.f4.length ∧ bo = false
  · rw [if_pos a5] at h; omega
  rw [if_neg a5] at h
  by_cases a6 : x.f5.toList ≠ [] ∧ tq = false
  · rw [if_pos a6] at h; omega
  rwa [if_neg a6] at h
theorem may_soft_lead {x : S26} (h : mayP x = 0) (h4 : x.f1 = 4) : (Nm.lead x.f0.data.toList x.f5.data.toList).2 = 0 := by
  have hc := may_check h
  unfold mayP at h
  rw [if_neg (by simp [hc]), if_neg (by omega), if_neg (by omega), if_neg (by omega), if_pos h4] at h
  have := mayT_zero h
  unfold softP at this
  omega
theorem hard_file {xs : List S26} (hc : (checkP xs).2 = 0) {x : S26} (hx : x ∈ xs) (h3 : x.f1 = 3) : ∃ z, z ∈ xs ∧ itemOf xs x.f5.data.toList = some z ∧ z.f1 = 1 := by
  obtain ⟨_, hs⟩ := chk_ok hc
  obtain ⟨i, hi, rfl⟩ := List.getElem_of_mem hx
  have h := hs i hi
  have hm := step_may h
  have hk : kd xs i xs[i].f5 = 1 := by
    by_cases hk : kd xs i xs[i].f5 = 1
    · exact hk
    · exfalso
      unfold stepP at h
      rw [if_neg (by simp [hm]), rd_get xs i hi] at h
      split at h
      · omega
      · split at h
        · omega
        · rw [if_pos ⟨h3, hk⟩] at h; omega
  obtain ⟨j, hj, h1, h2⟩ := kd_some xs xs[i].f5 1 (by decide) i hk
  have hm : rd_T26 xs j ∈ xs := by rw [rd_get xs j (by omega)]; exact List.getElem_mem _
  refine ⟨rd_T26 xs j, hm, ?_, h2⟩
  have := item_of_mem hc hm
  rwa [h1] at this
end Go.Proofs.YthpecpkncifngaaDoor.X
end

/- Plain words on paths: joined parts, cut at the first stroke, and trimmed of strokes. -/
section
namespace Go.Proofs.YthpecpkncifngaaDoor.Nm
theorem joinT_cut {p : List UInt8} {rest : List (List UInt8)} (h : Good (p :: rest)) :
    (rest = [] ∧ Lib.indexByte (joinT (p :: rest)) 47 = -1 ∧ joinT (p :: rest) = p) ∨
    (rest ≠ [] ∧ Lib.indexByte (joinT (p :: rest)) 47 = p.length ∧ p.length < (joinT (p :: rest)).length ∧ (joinT (p :: rest)).take p.length = p ∧ (joinT (p :: rest)).drop (p.length + 1) = joinT rest) := by
  have ht := texts_joinT (p :: rest) (by simp) (fun x hx => (h x hx).2)
  generalize hl : joinT (p :: rest) = l at ht ⊢
  have hge := Lib.indexByte_ge l 47
  by_cases hi : Lib.indexByte l 47 = -1
  · left
    have h1 : texts l = [l] := by simp [texts, pieces_none l 0 hi]
    rw [h1] at ht
    injection ht with a b
    exact ⟨b.symm, hi, a⟩
  · right
    obtain ⟨n, hn⟩ := Int.eq_ofNat_of_zero_le (show 0 ≤ Lib.indexByte l 47 by omega)
    have h1 : texts l = l.take n :: texts (l.drop (n + 1)) := by
      simp only [texts, pieces_some l 0 n hn, List.map_cons]
      rw [pieces_texts]; rfl
    have hlt := (pc_some l 0 n hn).1
    rw [h1] at ht
    injection ht with a b
    have hp : p.length = n := by rw [← a, List.length_take]; omega
    refine ⟨by rw [← b]; exact texts_ne _, by rw [hp]; exact hn, by omega, by rw [hp]; exact a, by rw [hp, ← b, joinT_texts]⟩
theorem joinT_first {L : List (List UInt8)} (h : Good L) (hne : L ≠ []) : ∃ c d, joinT L = c :: d ∧ c ≠ 47 := by
  match L, h, hne with
  | x :: r, h, _ =>
    obtain ⟨hx, hn⟩ := h.head
    match x, hx, hn with
    | c :: d, _, hn =>
      have hc : c ≠ 47 := fun e => hn (by rw [e]; exact List.mem_cons_self ..)
      match r with
      | [] => exact ⟨c, d, rfl, hc⟩
      | y :: s => exact ⟨c, _, rfl, hc⟩
theorem joinT_last : ∀ {L : List (List UInt8)}, Good L → L ≠ [] → ∃ a b, joinT L = a ++ [b] ∧ b ≠ 47
  | [x], h, _ => by
    obtain ⟨hx, hn⟩ := h.head
    refine ⟨x.dropLast, x.getLast hx, by rw [joinT, List.dropLast_concat_getLast], fun e => hn (by rw [← e]; exact List.getLast_mem hx)⟩
  | x :: y :: r, h, _ => by
    obtain ⟨a, b, e, hb⟩ := joinT_last (L := y :: r) h.tail (by simp)
    exact ⟨x ++ 47 :: a, b, by rw [joinT, e]; simp, hb⟩
theorem trimR_keep (a : List UInt8) (b : UInt8) (h : b ≠ 47) : Lib.trimRightB (a ++ [b]) 47 = a ++ [b] := by
  simp [Lib.trimRightB, List.dropWhile_cons, h]
theorem trimR_one (a : List UInt8) : Lib.trimRightB (a ++ [47]) 47 = Lib.trimRightB a 47 := by
  simp [Lib.trimRightB, List.dropWhile_cons]
theorem trimL_keep (c : UInt8) (d : List UInt8) (h : c ≠ 47) : Lib.trimLeftB (c :: d) 47 = c :: d := by
  simp [Lib.trimLeftB, List.dropWhile_cons, h]
theorem trimL_one (d : List UInt8) : Lib.trimLeftB (47 :: d) 47 = Lib.trimLeftB d 47 := by
  simp [Lib.trimLeftB, List.dropWhile_cons]
theorem trim_good {L : List (List UInt8)} (h : Good L) : Lib.trimRightB (joinT L) 47 = joinT L ∧ Lib.trimLeftB (joinT L) 47 = joinT L := by
  by_cases e : L = []
  · subst e; exact ⟨rfl, rfl⟩
  · obtain ⟨a, b, e1, hb⟩ := joinT_last h e
    obtain ⟨c, d, e2, hc⟩ := joinT_first h e
    exact ⟨by rw [e1, trimR_keep a b hb], by rw [e2, trimL_keep c d hc]⟩
theorem trim_join {q L : List (List UInt8)} (hq : Good q) (hL : Good L) : Lib.trimB (joinT q ++ 47 :: joinT L) 47 = joinT (q ++ L) := by
  unfold Lib.trimB
  by_cases eL : L = []
  · subst eL
    rw [show joinT q ++ 47 :: joinT [] = joinT q ++ [47] from rfl, trimR_one, (trim_good hq).1, (trim_good hq).2, List.append_nil]
  · obtain ⟨a, b, e1, hb⟩ := joinT_last hL eL
    have hr : Lib.trimRightB (joinT q ++ 47 :: joinT L) 47 = joinT q ++ 47 :: joinT L := by
      rw [e1, show joinT q ++ 47 :: (a ++ [b]) = (joinT q ++ 47 :: a) ++ [b] by simp, trimR_keep _ b hb]
    rw [hr]
    by_cases eq : q = []
    · subst eq
      rw [show joinT [] ++ 47 :: joinT L = 47 :: joinT L from rfl, trimL_one, (trim_good hL).2, List.nil_append]
    · rw [← joinT_append q L eq eL]
      exact (trim_good (hq.append hL)).2
end Go.Proofs.YthpecpkncifngaaDoor.Nm
end

/- The contract of tree.Real: the map of items. -/
section
namespace Go.Proofs.YthpecpkncifngaaDoor.X
open Go Go.RowKit Go.Shelf Go.Proofs.YthpecpkncifngaaDoor Go.Proofs.YthpecpkncifngaaDoorW.PrintWords Go.Proofs.YthpecpkncifngaaDoorW.PrintLast Go.Proofs.YthpecpkncifngaaDoorW.PrintMore Go.Proofs.YthpecpkncifngaaDoor.Pure
def MapOf (xs : List S26) (k : Nat) (l : List (ByteArray × Value)) : Prop :=
  ∀ s, (lk xs k s = none ∧ Mp.mget l s = none) ∨ ∃ (i : Nat) (A4 : Option Addr) (c4 : Nat), lk xs k s = some i ∧ Mp.mget l s = some (.agg (cellsIt (rd_T26 xs i) A4 c4))
theorem MapOf.nil (xs : List S26) : MapOf xs 0 [] := fun s => .inl ⟨rfl, rfl⟩
theorem MapOf.put {xs : List S26} {k : Nat} {l : List (ByteArray × Value)} (h : MapOf xs k l) (A4 : Option Addr) (c4 : Nat) :
    MapOf xs (k + 1) (Mp.mput l (rd_T26 xs k).f0 (.agg (cellsIt (rd_T26 xs k) A4 c4))) := by
  intro s
  rw [Mp.mget_put, lk]
  by_cases e : (rd_T26 xs k).f0 = s
  · rw [if_pos e, if_pos e]
    exact .inr ⟨k, A4, c4, rfl, rfl⟩
  · rw [if_neg e, if_neg e]
    exact h s
theorem MapOf.tells {xs : List S26} {l : List (ByteArray × Value)} (h : MapOf xs xs.length l) (hc : (checkP xs).2 = 0) (s : ByteArray) :
    (itemOf xs s.data.toList = none ∧ Mp.mget l s = none) ∨ ∃ x A4 c4, itemOf xs s.data.toList = some x ∧ Mp.mget l s = some (.agg (cellsIt x A4 c4)) := by
  have hi := lk_item hc s
  rcases h s with ⟨h1, h2⟩ | ⟨i, A4, c4, h1, h2⟩
  · rw [h1] at hi; exact .inl ⟨hi.symm, h2⟩
  · rw [h1] at hi; exact .inr ⟨_, A4, c4, hi.symm, h2⟩
theorem zeroIt (w : World) : (zeroValue 26).run Tryd.prog w = .ok (.agg #[.string ⟨#[]⟩, .int .u8 0, .int .i64 0, .int .i64 0, .slice none 0 0, .string ⟨#[]⟩]) w := by kernel_rfl
theorem slcut_any (s : ByteArray) (w : World) (hs : s.size ≤ 1048576) :
    Calls Tryd.prog 83 #[.string s, .string ⟨#[47]⟩] w fun e w' => (∃ b, e = .returned (.tuple #[.string (if Lib.indexByte s.data.toList 47 = -1 then s else s.extract 0 (Lib.indexByte s.data.toList 47).toNat), .string (if Lib.indexByte s.data.toList 47 = -1 then ⟨#[]⟩ else s.extract ((Lib.indexByte s.data.toList 47).toNat + 1) s.size), .bool b])) ∧ ∃ n, w' = w.drewN n := by
  have hge := Lib.indexByte_ge s.data.toList 47
  by_cases hi : Lib.indexByte s.data.toList 47 = -1
  · rw [if_pos hi, if_pos hi]
    go_enter Tryd.func83, Tryd.ntmps83
    go_wp2_with fail
    refine (Tryd.stringslite_Index_one s 47 w).mono ?_
    rw [hi]
    rintro e w' ⟨rfl, rfl⟩
    go_wp2
    go_ret3
    exact ⟨⟨_, rfl⟩, 0, rfl⟩
  · rw [if_neg hi, if_neg hi]
    obtain ⟨n, hn⟩ := Int.eq_ofNat_of_zero_le (show 0 ≤ Lib.indexByte s.data.toList 47 by omega)
    have hlt := (Nm.pc_some s.data.toList 0 n hn).1
    rw [Pure.len_eq] at hlt
    have c1 : decide ((0 : Int) ≤ (n : Int)) = true := decide_eq_true (by omega)
    rw [hn, Int.toNat_natCast]
    go_enter Tryd.func83, Tryd.ntmps83
    go_wp2_with fail
    refine (Tryd.stringslite_Index_one s 47 w).mono ?_
    rw [hn]
    rintro e w' ⟨rfl, rfl⟩
    clear hi hge hn
    go_wp2
    go_quiet (fail)
    go_wp2
    go_ret3
    exact ⟨⟨_, rfl⟩, _, rfl⟩
end Go.Proofs.YthpecpkncifngaaDoor.X
end

/- The contract of tree.Real: the walk. -/
section
namespace Go.Proofs.YthpecpkncifngaaDoor.X
open Go Go.RowKit Go.Shelf Go.Proofs.YthpecpkncifngaaDoor Go.Proofs.YthpecpkncifngaaDoorW.PrintWords Go.Proofs.YthpecpkncifngaaDoorW.PrintLast Go.Proofs.YthpecpkncifngaaDoorW.PrintMore Go.Proofs.YthpecpkncifngaaDoor.Pure
def szOf : Value → Nat
  | .string s => s.size
  | _ => 0
theorem isEmpty_true {s : ByteArray} (h : s.data.toList = []) : s.toList.isEmpty = true := by rw [Lib.toList_data, h]; rfl
theorem isEmpty_false {s : ByteArray} (h : s.data.toList ≠ []) : s.toList.isEmpty = false := by rw [Lib.toList_data]; simpa using h
theorem cut_any {s : ByteArray} {p : List UInt8} {rest : List (List UInt8)} (hs : s.data.toList = Nm.joinT (p :: rest)) (hG : Nm.Good (p :: rest)) (hz : s.size ≤ 1048576) :
    ∃ sp sl : ByteArray, sp.data.toList = p ∧ sl.data.toList = Nm.joinT rest ∧ ∀ w, Calls Tryd.prog 58 #[.string s, .string ⟨#[47]⟩] w fun e w' => (∃ b, e = .returned (.tuple #[.string sp, .string sl, .bool b])) ∧ ∃ n, w' = w.drewN n := by
  refine ⟨if Lib.indexByte s.data.toList 47 = -1 then s else s.extract 0 (Lib.indexByte s.data.toList 47).toNat, if Lib.indexByte s.data.toList 47 = -1 then ⟨#[]⟩ else s.extract ((Lib.indexByte s.data.toList 47).toNat + 1) s.size, ?_, ?_, fun w => ?_⟩
  rotate_left 2
  · have hc := slcut_any s w hz
    generalize (if Lib.indexByte s.data.toList 47 = -1 then s else s.extract 0 (Lib.indexByte s.data.toList 47).toNat) = u1 at hc ⊢
    generalize (if Lib.indexByte s.data.toList 47 = -1 then (⟨#[]⟩ : ByteArray) else s.extract ((Lib.indexByte s.data.toList 47).toNat + 1) s.size) = u2 at hc ⊢
    have HC := Aside0.mk hc
    clear hc
    go_enter Tryd.func58, Tryd.ntmps58
    go_wp2_with fail
    refine HC.out.mono ?_
    rintro e w' ⟨⟨b, rfl⟩, n, rfl⟩
    go_wp2
    go_ret3
    exact ⟨by cases b <;> simp, n, rfl⟩
  · rw [hs]
    rcases Nm.joinT_cut hG with ⟨hr, hi, he⟩ | ⟨hr, hi, hlt, ht, hd⟩
    · rw [hi, if_pos rfl, hs, he]
    · rw [hi, if_neg (by omega), Int.toNat_natCast]
      simp only [ByteArray.data_extract, Array.toList_extract]
      rw [hs]
      simpa using ht
  · rw [hs]
    rcases Nm.joinT_cut hG with ⟨hr, hi, he⟩ | ⟨hr, hi, hlt, ht, hd⟩
    · rw [hi, if_pos rfl, hr]; rfl
    · rw [hi, if_neg (by omega), Int.toNat_natCast]
      rw [Sp.ext_from, hs, hd]
theorem trim_any {s : ByteArray} {q L : List (List UInt8)} (hs : s.data.toList = Nm.joinT q ++ 47 :: Nm.joinT L) (hq : Nm.Good q) (hL : Nm.Good L) (hz : s.size ≤ 1048576) (w : World) :
    Calls Tryd.prog 60 #[.string s, .string ⟨#[47]⟩] w fun e w' => e = .returned (.string (bytesOfL (Nm.joinT (q ++ L)))) ∧ ∃ n, w' = w.drewN n := by
  refine (Tryd.strings_Trim_one s 47 (by decide) w (by omega)).mono ?_
  rw [hs, Nm.trim_join hq hL]
  rintro e w' ⟨rfl, rfl | rfl⟩
  · exact ⟨rfl, 0, rfl⟩
  · exact ⟨rfl, 1, rfl⟩
set_option maxRecDepth 100000 in
set_option maxHeartbeats 8000000 in
theorem real_any (A : Option Addr) (c : Nat) (xs : List S26) (path : ByteArray) (w : World) (hr : Kd.C k26 w A xs.length xs) :
    Calls Tryd.prog 23 #[.slice A xs.length c, .string path] w fun e w' => e = .returned (.tuple #[.string (bytesOfL (realT xs path.data.toList).1), .int .i64 (realT xs path.data.toList).2]) ∧ Below w.heap.size w w' := by
  have hmm := @run_makeMap Tryd.prog
  have HR := Aside0.mk hr
  clear hr
  by_cases h1 : (checkP xs).2 = 0
  case neg =>
    have H := Lib.hid (show realT xs path.data.toList = ([], (checkP xs).2) by unfold realT; rw [if_pos h1])
    have hd : ((checkP xs).2 != 0) = true := by simpa using h1
    rw [H.out]
    clear h1
    go_enter Tryd.func23, Tryd.ntmps23
    go_wp2_with fail
    refine (check_tree A c xs _ HR.out).mono ?_
    rintro e w1 ⟨rfl, hb⟩
    go_wp2
    go_ret2
    exact ⟨rfl, hb⟩
  have hd : ((checkP xs).2 != 0) = false := by simpa using h1
  by_cases h2 : path.data.toList = []
  · have H := Lib.hid (show realT xs path.data.toList = ([], 0) by unfold realT; rw [if_neg (by simp [h1]), if_pos h2])
    have he : path.toList.isEmpty = true := isEmpty_true h2
    rw [H.out]
    clear h1 h2
    go_enter Tryd.func23, Tryd.ntmps23
    go_wp2_with fail
    refine (check_tree A c xs _ HR.out).mono ?_
    rintro e w1 ⟨rfl, hb⟩
    go_wp2
    go_ret2
    exact ⟨rfl, hb⟩
  have he : path.toList.isEmpty = false := isEmpty_false h2
  by_cases h3 : (Nm.check path.data.toList).2 = 0
  case neg =>
    have H := Lib.hid (show realT xs path.data.toList = ([], ((Nm.check path.data.toList).2 : Int)) by unfold realT; rw [if_neg (by simp [h1]), if_neg h2, if_pos h3])
    have hd3 : (((Nm.check path.data.toList).2 : Int) != 0) = true := by simpa using h3
    rw [H.out]
    clear h1 h2 h3
    go_enter Tryd.func23, Tryd.ntmps23
    go_wp2_with fail
    refine (check_tree A c xs _ HR.out).mono ?_
    rintro e w1 ⟨rfl, hb⟩
    have HB1 := Aside0.mk hb
    clear hb
    go_wp2_with fail
    refine (check_any path w1).mono ?_
    rintro e w2 ⟨rfl, hb⟩
    go_wp2
    go_ret2
    exact ⟨rfl, HB1.out.trans (hb.mono HB1.out.size)⟩
  have hd3 : (((Nm.check path.data.toList).2 : Int) != 0) = false := by simpa using h3
  have HC := Lib.hid h1
  have H := Lib.hid (show realT xs path.data.toList = realP xs [] (Nm.texts path.data.toList) 0 by unfold realT; rw [if_neg (by simp [h1]), if_neg h2, if_neg (by simp [h3])])
  have HG := Aside0.mk (Nm.check_good h3)
  have HT := Aside0.mk (show Nm.totL (Nm.texts path.data.toList) ≤ 401 by rw [Nm.totL_texts]; have := ((Nm.check_ok _).1 h3).1; omega)
  have hxl := (chk_ok h1).1
  clear h1 h2 h3
  go_enter Tryd.func23, Tryd.ntmps23
  go_wp2_with fail
  refine (check_tree A c xs _ HR.out).mono ?_
  rintro e w1 ⟨rfl, hb⟩
  have HB1 := Aside0.mk hb
  clear hb
  go_wp2_with fail
  refine (check_any path w1).mono ?_
  rintro e w2 ⟨rfl, hb⟩
  have HB2 := Aside0.mk (HB1.out.trans (hb.mono HB1.out.size))
  clear hb HB1
  go_wp2
  clear hd hd3 he
  go_loopw [45] (fun i wr => ∃ (k : Nat) (l : List (ByteArray × Value)), k ≤ xs.length ∧ i = .int .i64 k ∧ Aside0 (Below w.heap.size w wr) ∧ Aside0 (Mp.At Mp.strKey wr w2.heap.size l) ∧ Aside0 (MapOf xs k l)) (fun i _ => xs.length - (intOf i).toNat)
  case atStart => exact ⟨0, [], Nat.zero_le _, rfl, ⟨HB2.out.alloc HB2.out.size _⟩, ⟨Mp.at_made w2⟩, ⟨MapOf.nil xs⟩⟩
  case round =>
    obtain ⟨k, l, hk, rfl, hB, hM, hP⟩ := hrel
    by_cases hlt : k < xs.length
    · obtain ⟨ad, A4, c4, rfl, h0, h1, h2, h3, h4, h5, hl, hr4⟩ := at_it HR.out hB.out k hlt
      clear hl hr4
      have hBa : Below wr.heap.size wr (wr.alloc (.cells (cellsIt (rd_T26 xs k) A4 c4) 26)) := (Below.refl _ wr).alloc (Nat.le_refl _) _
      obtain ⟨o, ho, hrun3, hM3⟩ := (hM.out.below hBa).update (K := Mp.strKey) Tryd.underlying84 Tryd.underlying9 (rd_T26 xs k).f0 (.agg (cellsIt (rd_T26 xs k) A4 c4))
      have HM3 := Aside0.mk hM3
      have HBa := Aside0.mk (hB.out.trans (hBa.mono hB.out.size))
      have hrun4 : (Instr.mapUpdate 84 (.map (some w2.heap.size)) (.string (rd_T26 xs k).f0) (.agg #[.string (rd_T26 xs k).f0, .int .u8 (rd_T26 xs k).f1, .int .i64 (rd_T26 xs k).f2, .int .i64 (rd_T26 xs k).f3, .slice A4 (rd_T26 xs k).f4.length c4, .string (rd_T26 xs k).f5])).run Tryd.prog (wr.alloc (.cells #[.string (rd_T26 xs k).f0, .int .u8 (rd_T26 xs k).f1, .int .i64 (rd_T26 xs k).f2, .int .i64 (rd_T26 xs k).f3, .slice A4 (rd_T26 xs k).f4.length c4, .string (rd_T26 xs k).f5] 26)) = .ok () ((wr.alloc (.cells (cellsIt (rd_T26 xs k) A4 c4) 26)).putObj w2.heap.size o) := hrun3
      clear hM3 hrun3 hBa hM
      go_wp2
      go_roundw
      case rel => exact ⟨k + 1, _, by omega, by go_num, ⟨HBa.out.grown (grownBy_putObj' _ _ _) HBa.out.size (fun j hj => by cases hj; exact HB2.out.size)⟩, HM3, ⟨hP.out.put A4 c4⟩⟩
      case measure => simp [intOf]; omega
    · obtain rfl : k = xs.length := by omega
      have HF := Aside0.mk hP.out.tells
      have HB3 := hB
      have HM3 := hM
      clear hP hB hM hlt hk
      go_wp2
      go_loopw [13, 14, 15] (fun r h t wq => ∃ (R L : List (List UInt8)) (q s : ByteArray) (hops : Nat), r = .string q ∧ h = .int .i64 (hops : Nat) ∧ t = .string s ∧ hops ≤ 40 ∧ Hid (q.data.toList = Nm.joinT R) ∧ Hid (s.data.toList = Nm.joinT L) ∧ Aside0 (Nm.Good L ∧ Nm.totL L ≤ 401 + 802 * hops) ∧ Aside0 (Nm.Good R ∧ Nm.totL R ≤ 401) ∧ Hid (realP xs [] (Nm.texts path.data.toList) 0 = realP xs R L hops) ∧ Aside0 (Below w.heap.size w wq) ∧ Aside0 (Mp.At Mp.strKey wq w2.heap.size l)) (fun _ h t _ => (40 - (intOf h).toNat) * 100000 + szOf t)
      case atStart => exact ⟨[], Nm.texts path.data.toList, ⟨#[]⟩, path, 0, rfl, rfl, rfl, by omega, Lib.hid rfl, Lib.hid (Nm.joinT_texts _).symm, ⟨HG.out, HT.out⟩, ⟨Nm.Good.nil, by simp [Nm.totL]⟩, Lib.hid rfl, HB3, HM3⟩
      case round =>
        obtain ⟨R, L, q, s, hops, rfl, rfl, rfl, hh, hq, hs, hL, hRR, hi, hB, hM⟩ := hrel
        cases L with
        | nil =>
          have e0 : s.toList.isEmpty = true := isEmpty_true hs.out
          go_wp2
          go_ret2
          exact ⟨by rw [H.out, hi.out, real_nil, ← hq.out]; rfl, hB.out⟩
        | cons p rest =>
          have e0 : s.toList.isEmpty = false := isEmpty_false (by rw [hs.out]; exact fun e => by have := (Nm.joinT_nil hL.out.1).1 e; cases this)
          have hsz : s.size ≤ 40000 := by
            have := Nm.joinT_totL (p :: rest)
            have h2 := hL.out.2
            rw [← hs.out, Pure.len_eq] at this
            omega
          obtain ⟨sp, sl, hsp, hsl, hcut⟩ := cut_any hs.out hL.out.1 (by omega)
          have HCut := Aside0.mk hcut
          clear hcut
          go_wp2_with fail
          refine (HCut.out _).mono ?_
          rintro e w3 ⟨⟨bb, rfl⟩, n3, hw3⟩
          have hMq := Aside0.mk (show Mp.At Mp.strKey w3 w2.heap.size l from hM.out.move (by rw [hw3]; rfl))
          have hBq := Aside0.mk (show Below w.heap.size w w3 by rw [hw3]; exact pw_below_drewN hB.out n3)
          clear hw3
          obtain ⟨key, hkey, hcase⟩ : ∃ key : ByteArray, key.data.toList = Nm.joinT (R ++ [p]) ∧ ((q.toList.isEmpty = true ∧ key = sp) ∨ (q.toList.isEmpty = false ∧ key = q ++ ⟨#[47]⟩ ++ sp)) := by
            by_cases hR : R = []
            · subst hR; exact ⟨sp, by rw [hsp]; rfl, .inl ⟨isEmpty_true hq.out, rfl⟩⟩
            · refine ⟨_, ?_, .inr ⟨isEmpty_false (by rw [hq.out]; exact fun e => hR ((Nm.joinT_nil hRR.out.1).1 e)), rfl⟩⟩
              rw [Nm.joinT_append R [p] hR (by simp)]
              simp [hq.out, hsp, Nm.joinT]
          have hgr := hL.out.1.tail
          have hlt : sl.size < s.size := by
            have e1 := Nm.joinT_len_good (p :: rest) (by simp)
            have e2 := Pure.len_eq s
            have e3 := Pure.len_eq sl
            have e4 := List.length_pos_iff.2 (hL.out.1.head).1
            rw [hs.out] at e2
            rw [hsl] at e3
            have e6 : Nm.totL (p :: rest) = p.length + 1 + Nm.totL rest := by simp [Nm.totL]
            have e5 := Nm.joinT_totL rest
            omega
          have htl : Nm.totL rest ≤ 401 + 802 * hops := by
            have := hL.out.2
            simp [Nm.totL] at this ⊢
            omega
          have hqz : q.size ≤ 401 := by
            have e1 := Nm.joinT_totL R
            have e2 := Pure.len_eq q
            have e3 := hRR.out.2
            rw [hq.out] at e2
            omega
          have hspz : sp.size ≤ 40000 := by
            have e2 := Pure.len_eq sp
            rw [hsp] at e2
            have e3 := hL.out.2
            simp [Nm.totL] at e3
            omega
          have hlook := hMq.out.lookup (K := Mp.strKey) Tryd.underlying84 Tryd.underlying9 key zeroIt true
          rcases HF.out HC.out key with ⟨ht1, ht2⟩ | ⟨x, A4, c4, ht1, ht2⟩
          · rw [hkey] at ht1
            have HI := Lib.hid (hi.out.trans (real_none (hops := hops) (rest := rest) ht1))
            rw [ht2] at hlook
            have hrun : (Instr.lookup 84 (.map (some w2.heap.size)) (.string key) true).run Tryd.prog w3 = .ok (.tuple #[.agg #[.string ⟨#[]⟩, .int .u8 0, .int .i64 0, .int .i64 0, .slice none 0 0, .string ⟨#[]⟩], .bool false]) w3 := hlook
            clear hlook ht1 ht2 hkey
            rcases hcase with ⟨eq, rfl⟩ | ⟨eq, rfl⟩
            all_goals
              go_wp2
              go_ret2
              exact ⟨by rw [H.out, HI.out]; rfl, hBq.out.alloc hBq.out.size _⟩
          · rw [hkey] at ht1
            obtain ⟨hx, _⟩ := item_some ht1
            rw [ht2] at hlook
            have hmy := (chk_rise HC.out).2 x hx
            have hkd := may_kind hmy
            have hgx := Nm.parts_check (may_check hmy)
            have htx : Nm.totL (Nm.partsL x.f0.data.toList) ≤ 401 := by rw [hgx.2.1, Nm.totL_texts]; have := may_size hmy; have := Pure.len_eq x.f0; omega
            obtain ⟨f0, f1, f2, f3, f4, f5⟩ := x
            simp only at hkd hgx htx
            rcases hkd with rfl | rfl | rfl | rfl
            · have hh1 : hardTo xs ⟨f0, 1, f2, f3, f4, f5⟩ = ⟨f0, 1, f2, f3, f4, f5⟩ := by unfold hardTo; exact if_neg (by simp)
              have hrun : (Instr.lookup 84 (.map (some w2.heap.size)) (.string key) true).run Tryd.prog w3 = .ok (.tuple #[.agg #[.string f0, .int .u8 1, .int .i64 f2, .int .i64 f3, .slice A4 f4.length c4, .string f5], .bool true]) w3 := hlook
              by_cases hre : rest = []
              · have esl : sl.toList.isEmpty = true := isEmpty_true (by rw [hsl, hre]; rfl)
                have hi2 := hi.out.trans (real_go (hops := hops) ht1 (fun q => q.2 hre) (by rw [hh1]; simp))
                rw [hh1] at hi2
                have HI := Lib.hid hi2
                clear hi2 hlook ht1 ht2 hkey hh1 hre hmy
                rcases hcase with ⟨eq, rfl⟩ | ⟨eq, rfl⟩
                all_goals
                  go_wp2
                  go_roundw
                  case rel => exact ⟨Nm.partsL f0.data.toList, rest, f0, sl, hops, rfl, rfl, rfl, hh, Lib.hid (Nm.joinT_parts _).symm, Lib.hid hsl, ⟨hgr, htl⟩, ⟨hgx.2.2, htx⟩, HI, ⟨hBq.out.alloc hBq.out.size _⟩, ⟨hMq.out.below ((Below.refl _ w3).alloc (Nat.le_refl _) _)⟩⟩
                  case measure => simp [intOf, szOf]; omega
              · have esl : sl.toList.isEmpty = false := isEmpty_false (by rw [hsl]; exact fun e => hre ((Nm.joinT_nil hgr).1 e))
                have HI := Lib.hid (hi.out.trans (real_file (hops := hops) ht1 (by rw [hh1]) hre))
                clear hlook ht1 ht2 hkey hh1 hre hmy
                rcases hcase with ⟨eq, rfl⟩ | ⟨eq, rfl⟩
                all_goals
                  go_wp2
                  go_ret2
                  exact ⟨by rw [H.out, HI.out]; rfl, hBq.out.alloc hBq.out.size _⟩
            · have hh1 : hardTo xs ⟨f0, 2, f2, f3, f4, f5⟩ = ⟨f0, 2, f2, f3, f4, f5⟩ := by unfold hardTo; exact if_neg (by simp)
              have hrun : (Instr.lookup 84 (.map (some w2.heap.size)) (.string key) true).run Tryd.prog w3 = .ok (.tuple #[.agg #[.string f0, .int .u8 2, .int .i64 f2, .int .i64 f3, .slice A4 f4.length c4, .string f5], .bool true]) w3 := hlook
              have hi2 := hi.out.trans (real_go (hops := hops) (rest := rest) ht1 (by rw [hh1]; exact fun q => absurd q.1 (by simp)) (by rw [hh1]; simp))
              rw [hh1] at hi2
              have HI := Lib.hid hi2
              clear hi2 hlook ht1 ht2 hkey hh1 hmy
              rcases hcase with ⟨eq, rfl⟩ | ⟨eq, rfl⟩
              all_goals
                go_wp2
                go_roundw
                case rel => exact ⟨Nm.partsL f0.data.toList, rest, f0, sl, hops, rfl, rfl, rfl, hh, Lib.hid (Nm.joinT_parts _).symm, Lib.hid hsl, ⟨hgr, htl⟩, ⟨hgx.2.2, htx⟩, HI, ⟨hBq.out.alloc hBq.out.size _⟩, ⟨hMq.out.below ((Below.refl _ w3).alloc (Nat.le_refl _) _)⟩⟩
                case measure => simp [intOf, szOf]; omega
            · obtain ⟨z, hz, hze, hz1⟩ := hard_file HC.out hx rfl
              obtain ⟨g0, g1, g2, g3, g4, g5⟩ := z
              simp only at hz1 hze
              subst hz1
              have hrun : (Instr.lookup 84 (.map (some w2.heap.size)) (.string key) true).run Tryd.prog w3 = .ok (.tuple #[.agg #[.string f0, .int .u8 3, .int .i64 f2, .int .i64 f3, .slice A4 f4.length c4, .string f5], .bool true]) w3 := hlook
              have hM4 := hMq.out.below ((Below.refl _ w3).alloc (Nat.le_refl _) (.cells #[.string f0, .int .u8 3, .int .i64 f2, .int .i64 f3, .slice A4 f4.length c4, .string f5] 26))
              have hlook2 := hM4.lookup (K := Mp.strKey) Tryd.underlying84 Tryd.underlying9 f5 zeroIt false
              rcases HF.out HC.out f5 with ⟨hn, _⟩ | ⟨z', A5, c5, hz', hm'⟩
              · rw [hze] at hn; cases hn
              rw [hze] at hz'
              obtain rfl := Option.some.inj hz'
              rw [hm'] at hlook2
              have hrun2 : (Instr.lookup 84 (.map (some w2.heap.size)) (.string f5) false).run Tryd.prog (w3.alloc (.cells #[.string f0, .int .u8 3, .int .i64 f2, .int .i64 f3, .slice A4 f4.length c4, .string f5] 26)) = .ok (.agg #[.string g0, .int .u8 1, .int .i64 g2, .int .i64 g3, .slice A5 g4.length c5, .string g5]) (w3.alloc (.cells #[.string f0, .int .u8 3, .int .i64 f2, .int .i64 f3, .slice A4 f4.length c4, .string f5] 26)) := hlook2
              have hh1 : hardTo xs ⟨f0, 3, f2, f3, f4, f5⟩ = ⟨g0, 1, g2, g3, g4, g5⟩ := by unfold hardTo; rw [if_pos rfl]; simp only; rw [hze]; rfl
              have hmz := (chk_rise HC.out).2 _ hz
              have hgz := Nm.parts_check (may_check hmz)
              simp only at hgz
              have htz : Nm.totL (Nm.partsL g0.data.toList) ≤ 401 := by rw [hgz.2.1, Nm.totL_texts]; have := may_size hmz; have := Pure.len_eq g0; simp only at *; omega
              have HM4 := Aside0.mk hM4
              have HB4 := Aside0.mk (hBq.out.alloc hBq.out.size (.cells #[.string f0, .int .u8 3, .int .i64 f2, .int .i64 f3, .slice A4 f4.length c4, .string f5] 26))
              by_cases hre : rest = []
              · have esl : sl.toList.isEmpty = true := isEmpty_true (by rw [hsl, hre]; rfl)
                have hi2 := hi.out.trans (real_go (hops := hops) ht1 (fun q => q.2 hre) (by rw [hh1]; simp))
                rw [hh1] at hi2
                have HI := Lib.hid hi2
                clear hi2 hlook hlook2 ht1 ht2 hkey hh1 hre hmy hM4 hm' hz' hze hmz
                rcases hcase with ⟨eq, rfl⟩ | ⟨eq, rfl⟩
                all_goals
                  go_wp2
                  go_roundw
                  case rel => exact ⟨Nm.partsL g0.data.toList, rest, g0, sl, hops, rfl, rfl, rfl, hh, Lib.hid (Nm.joinT_parts _).symm, Lib.hid hsl, ⟨hgr, htl⟩, ⟨hgz.2.2, htz⟩, HI, ⟨hBq.out.alloc hBq.out.size _⟩, ⟨hMq.out.below ((Below.refl _ w3).alloc (Nat.le_refl _) _)⟩⟩
                  case measure => simp [intOf, szOf]; omega
              · have esl : sl.toList.isEmpty = false := isEmpty_false (by rw [hsl]; exact fun e => hre ((Nm.joinT_nil hgr).1 e))
                have HI := Lib.hid (hi.out.trans (real_file (hops := hops) ht1 (by rw [hh1]) hre))
                clear hlook hlook2 ht1 ht2 hkey hh1 hre hmy hM4 hm' hz' hze hmz
                rcases hcase with ⟨eq, rfl⟩ | ⟨eq, rfl⟩
                all_goals
                  go_wp2
                  go_ret2
                  exact ⟨by rw [H.out, HI.out]; rfl, hBq.out.alloc hBq.out.size _⟩
            · have hh1 : hardTo xs ⟨f0, 4, f2, f3, f4, f5⟩ = ⟨f0, 4, f2, f3, f4, f5⟩ := by unfold hardTo; exact if_neg (by simp)
              have hrun : (Instr.lookup 84 (.map (some w2.heap.size)) (.string key) true).run Tryd.prog w3 = .ok (.tuple #[.agg #[.string f0, .int .u8 4, .int .i64 f2, .int .i64 f3, .slice A4 f4.length c4, .string f5], .bool true]) w3 := hlook
              by_cases h40 : hops = 40
              · have e40 : ((hops : Int) == 40) = true := by simp; omega
                have HI := Lib.hid (hi.out.trans (real_loop (hops := hops) (rest := rest) ht1 (by rw [hh1]) (by omega)))
                clear hlook ht1 ht2 hkey hh1 hmy h40
                rcases hcase with ⟨eq, rfl⟩ | ⟨eq, rfl⟩
                all_goals
                  go_wp2
                  go_ret2
                  exact ⟨by rw [H.out, HI.out]; rfl, hBq.out.alloc hBq.out.size _⟩
              · have e40 : ((hops : Int) == 40) = false := by simp; omega
                have hi2 := hi.out.trans (real_soft (hops := hops) (rest := rest) ht1 (by rw [hh1]) (by omega))
                rw [hh1] at hi2
                obtain ⟨q0, hq1, hq2, hq3⟩ := Nm.lead_good (may_soft_lead hmy rfl)
                simp only at hi2 hq1
                rw [hq1, Nm.parts_joinT hq2] at hi2
                have HI := Lib.hid hi2
                have hto : (bytesOfL (Nm.lead f0.data.toList f5.data.toList).1).data.toList = Nm.joinT q0 := by rw [← hq1]; rfl
                have hLd := LeadW.lead_any f0 f5
                generalize bytesOfL (Nm.lead f0.data.toList f5.data.toList).1 = tx at hto hLd
                generalize ((Nm.lead f0.data.toList f5.data.toList).2 : Int) = te at hLd
                have HLd := Aside0.mk hLd
                have htz : tx.size ≤ 802 := by have e1 := Nm.joinT_totL q0; have e2 := Pure.len_eq tx; rw [hto] at e2; omega
                have hslz : sl.size ≤ 40000 := by omega
                clear hi2 hlook ht1 ht2 hkey hh1 hmy hq1 hLd
                rcases hcase with ⟨eq, rfl⟩ | ⟨eq, rfl⟩
                all_goals
                  go_wp2_with fail
                  refine (HLd.out _).mono ?_
                  rintro e w5 ⟨rfl, hb⟩
                  have hB5 := Aside0.mk ((hBq.out.alloc hBq.out.size _).trans (hb.mono (hBq.out.alloc hBq.out.size _).size))
                  have hM5 := Aside0.mk ((hMq.out.below ((Below.refl _ w3).alloc (Nat.le_refl _) _)).below hb)
                  clear hb
                  have HTr := Aside0.mk (fun w => trim_any (s := tx ++ ⟨#[47]⟩ ++ sl) (q := q0) (L := rest) (by simp [hto, hsl]) hq2 hgr (by rw [ByteArray.size_append, ByteArray.size_append]; have : (⟨#[47]⟩ : ByteArray).size = 1 := rfl; omega) w)
                  go_wp2_with fail
                  refine (HTr.out _).mono ?_
                  rintro e w6 ⟨rfl, n6, hw6⟩
                  have hB6 := Aside0.mk (show Below w.heap.size w w6 by rw [hw6]; exact pw_below_drewN hB5.out n6)
                  have hM6 := Aside0.mk (show Mp.At Mp.strKey w6 w2.heap.size l from hM5.out.move (by rw [hw6]; rfl))
                  clear hw6
                  go_wp2
                  go_roundw
                  case rel => exact ⟨[], q0 ++ rest, ⟨#[]⟩, bytesOfL (Nm.joinT (q0 ++ rest)), hops + 1, rfl, by go_num, rfl, by omega, Lib.hid rfl, Lib.hid rfl, ⟨hq2.append hgr, by rw [Nm.totL_append]; omega⟩, ⟨Nm.Good.nil, by simp [Nm.totL]⟩, HI, hB6, hM6⟩
                  case measure =>
                    have e1 := Nm.joinT_totL (q0 ++ rest)
                    rw [Nm.totL_append] at e1
                    have e2 := Pure.bytes_size (Nm.joinT (q0 ++ rest))
                    simp [intOf, szOf]
                    omega
end Go.Proofs.YthpecpkncifngaaDoor.X
end

/- The law's awake: the tree of the examples, and what is asked of it. -/
section
namespace Go.Proofs.YthpecpkncifngaaDoor.X
open Go Go.RowKit Go.Shelf Go.Proofs.YthpecpkncifngaaDoor Go.Proofs.YthpecpkncifngaaDoorW.PrintWords Go.Proofs.YthpecpkncifngaaDoorW.PrintLast Go.Proofs.YthpecpkncifngaaDoorW.PrintMore Go.Proofs.YthpecpkncifngaaDoor.Pure
def smallP : List S26 := [⟨⟨#[97]⟩, 2, 0, 0, [], ⟨#[]⟩⟩, ⟨⟨#[97, 47, 102]⟩, 1, 0, 0, [1, 2, 3], ⟨#[]⟩⟩, ⟨⟨#[97, 47, 104]⟩, 3, 0, 0, [], ⟨#[97, 47, 102]⟩⟩, ⟨⟨#[97, 47, 115]⟩, 4, 0, 0, [], ⟨#[102]⟩⟩, ⟨⟨#[108]⟩, 4, 0, 0, [], ⟨#[97]⟩⟩]
theorem small_any (w : World) : Calls Tryd.prog 34 #[] w fun e w' => (∃ A c, e = .returned (.slice A smallP.length c) ∧ smallP.length ≤ c ∧ Kd.C k26 w' A smallP.length smallP) ∧ Below w.heap.size w w' := by
  refine (tabularylaw11_small.calls smallP w rfl).mono ?_
  rintro e w' ⟨v, rfl, hN, hb⟩
  obtain ⟨A, c, rfl, hc, _⟩ := N_cap hN
  exact ⟨⟨A, c, rfl, hc, (Kd.N_reads' hN).2.2⟩, hb⟩
theorem small_step (k : Nat) (h : k < 5) : stepP smallP k = 0 := by
  match k, h with
  | 0, _ => decide +kernel
  | 1, _ => decide +kernel
  | 2, _ => decide +kernel
  | 3, _ => decide +kernel
  | 4, _ => decide +kernel
theorem small_check : checkP smallP = (0, 0) := by
  unfold checkP
  rw [if_neg (by decide), chkP_go (by decide) (small_step 0 (by decide)), chkP_go (by decide) (small_step 1 (by decide)), chkP_go (by decide) (small_step 2 (by decide)), chkP_go (by decide) (small_step 3 (by decide)), chkP_go (by decide) (small_step 4 (by decide)), chkP_end (by decide)]
theorem small_cut : checkP (smallP.drop 1) = (0, 112) := by
  unfold checkP
  rw [if_neg (by decide), chkP_stop (k := 0) (e := 112) (by decide) (by decide +kernel) (by decide)]
  rfl
theorem small_find : findP smallP ⟨#[97, 47, 104]⟩ = (2, 0) := by
  have h : idxP (fun x => x.f0.toList == (⟨#[97, 47, 104]⟩ : ByteArray).toList) smallP 0 = 2 := by
    rw [idxP_no (by decide) (by decide +kernel), idxP_no (by decide) (by decide +kernel), idxP_yes (by decide) (by decide +kernel)]
    rfl
  unfold findP
  rw [h]
  rfl
theorem small_real : realT smallP [108, 47, 115] = ([97, 47, 102], 0) := by
  unfold realT
  rw [if_neg (by rw [small_check]; simp), if_neg (by simp), if_neg (by decide +kernel)]
  rw [show Nm.texts [108, 47, 115] = [[108], [115]] by decide +kernel]
  rw [real_soft (x := ⟨⟨#[108]⟩, 4, 0, 0, [], ⟨#[97]⟩⟩) (by kernel_rfl) (by decide +kernel) (by decide)]
  rw [show Nm.partsL (Nm.lead (hardTo smallP ⟨⟨#[108]⟩, 4, 0, 0, [], ⟨#[97]⟩⟩).f0.data.toList (hardTo smallP ⟨⟨#[108]⟩, 4, 0, 0, [], ⟨#[97]⟩⟩).f5.data.toList).1 ++ [[115]] = [[97], [115]] by decide +kernel]
  rw [real_go (x := ⟨⟨#[97]⟩, 2, 0, 0, [], ⟨#[]⟩⟩) (by kernel_rfl) (by decide +kernel) (by decide +kernel)]
  rw [show Nm.partsL (hardTo smallP ⟨⟨#[97]⟩, 2, 0, 0, [], ⟨#[]⟩⟩).f0.data.toList = [[97]] by decide +kernel]
  rw [real_soft (x := ⟨⟨#[97, 47, 115]⟩, 4, 0, 0, [], ⟨#[102]⟩⟩) (by kernel_rfl) (by decide +kernel) (by decide)]
  rw [show Nm.partsL (Nm.lead (hardTo smallP ⟨⟨#[97, 47, 115]⟩, 4, 0, 0, [], ⟨#[102]⟩⟩).f0.data.toList (hardTo smallP ⟨⟨#[97, 47, 115]⟩, 4, 0, 0, [], ⟨#[102]⟩⟩).f5.data.toList).1 ++ [] = [[97], [102]] by decide +kernel]
  rw [real_go (x := ⟨⟨#[97]⟩, 2, 0, 0, [], ⟨#[]⟩⟩) (by kernel_rfl) (by decide +kernel) (by decide +kernel)]
  rw [show Nm.partsL (hardTo smallP ⟨⟨#[97]⟩, 2, 0, 0, [], ⟨#[]⟩⟩).f0.data.toList = [[97]] by decide +kernel]
  rw [real_go (x := ⟨⟨#[97, 47, 102]⟩, 1, 0, 0, [1, 2, 3], ⟨#[]⟩⟩) (by kernel_rfl) (by decide +kernel) (by decide +kernel)]
  rw [show Nm.partsL (hardTo smallP ⟨⟨#[97, 47, 102]⟩, 1, 0, 0, [1, 2, 3], ⟨#[]⟩⟩).f0.data.toList = [[97], [102]] by decide +kernel]
  rw [real_nil]
  decide +kernel
theorem small_ben : (beneathP smallP ⟨#[97]⟩).length = 3 := by
  unfold beneathP
  rw [keepP_all]
  have t : ∀ r : List UInt8, (Nm.check ([97, 47] ++ r)).2 = 0 → ben [97] ([97, 47] ++ r) = true := fun r h => ben_true ⟨h, .inr ⟨r, rfl⟩⟩
  have f1 : ben [97] [97] = false := ben_false (fun h => by rcases h.2 with h | ⟨b, h⟩ <;> simp at h)
  have f2 : ben [97] [108] = false := ben_false (fun h => by rcases h.2 with h | ⟨b, h⟩ <;> simp at h)
  have e1 := t [102] (by decide +kernel)
  have e2 := t [104] (by decide +kernel)
  have e3 := t [115] (by decide +kernel)
  simp only [List.cons_append, List.nil_append] at e1 e2 e3
  simp [smallP, List.filter_cons, f1, f2, e1, e2, e3]
set_option maxRecDepth 100000 in
set_option maxHeartbeats 4000000 in
theorem awake_any (w : World) : Calls Tryd.prog 25 #[] w fun e w' => e = .returned (.bool true) ∧ Below w.heap.size w w' := by
  have SA := Aside0.mk small_any
  have F1 := Lib.hid small_check
  have F2 := Lib.hid small_cut
  have F3 := Lib.hid small_find
  have F4 := Lib.hid small_real
  have F5 := Lib.hid small_ben
  have hl1 : 5 ≤ smallP.length := by decide
  have hl2 : smallP.length ≤ 5 := by decide
  have H4 := Aside0.mk (show ∀ x ∈ smallP, x.f4.length ≤ 140737488355328 by decide)
  generalize smallP = sm at *
  go_enter Tryd.func25, Tryd.ntmps25
  go_wp2_with fail
  refine (SA.out _).mono ?_
  rintro e w1 ⟨⟨A1, c1, rfl, hc1, hC1⟩, hb⟩
  have HB1 := Aside0.mk hb
  have HC1 := Aside0.mk hC1
  clear hb hC1
  go_wp2_with fail
  refine (check_tree A1 c1 sm _ HC1.out).mono ?_
  rw [F1.out]
  rintro e w2 ⟨rfl, hb⟩
  have HB2 := Aside0.mk (HB1.out.trans (hb.mono HB1.out.size))
  clear hb HB1 HC1
  go_upto_region 2 with (fail)
  go_cut [3, 4] (fun a b wc => a = .int .i64 0 ∧ b = .int .i64 112 ∧ Aside0 (Below w.heap.size w wc))
  case first =>
    go_wp2_with fail
    refine (SA.out _).mono ?_
    rintro e w3 ⟨⟨A3, c3, rfl, hc3, hC3⟩, hb⟩
    have HB3 := Aside0.mk (HB2.out.trans (hb.mono HB2.out.size))
    obtain ⟨ad, A4, c4, rfl, h0, -⟩ := at_it hC3 (Below.refl _ _) 0 (by omega)
    obtain ⟨b0, o0, rfl⟩ : ∃ b o, ad = ⟨b, o, none⟩ := ⟨_, _, Jn.spot_of (show w3.cell? ad = _ from h0)⟩
    have hd := Kd.C_drop (m := 1) (c := c3) hC3 (by omega) hc3
    rw [if_neg (by omega)] at hd
    have HD := Aside0.mk (show Kd.C k26 w3 (some ⟨b0, o0 + 6, none⟩) (sm.drop 1).length (sm.drop 1) from hd)
    have hdl : (sm.drop 1).length = sm.length - 1 := by simp
    have hc31 : ¬ c3 = 1 := by omega
    clear hb hd h0 hC3
    go_wp2_with fail
    rw [← hdl]
    refine (check_tree _ _ (sm.drop 1) _ HD.out).mono ?_
    rw [F2.out]
    rintro e w4 ⟨rfl, hb⟩
    have HB4 := Aside0.mk (HB3.out.trans (hb.mono HB3.out.size))
    clear hb
    go_wp2
    go_meet
    case rel => exact ⟨rfl, rfl, HB4⟩
  case rest =>
    obtain ⟨rfl, rfl, HBc⟩ := hcut
    clear HB2
    go_wp2_with fail
    refine (SA.out _).mono ?_
    rintro e w5 ⟨⟨A5, c5, rfl, hc5, hC5⟩, hb⟩
    have HB5 := Aside0.mk (HBc.out.trans (hb.mono HBc.out.size))
    have HC5 := Aside0.mk hC5
    clear hb hC5
    go_wp2_with fail
    refine (real_any A5 c5 sm ⟨#[108, 47, 115]⟩ _ HC5.out).mono ?_
    rw [show (⟨#[108, 47, 115]⟩ : ByteArray).data.toList = [108, 47, 115] from rfl, F4.out]
    rintro e w6 ⟨rfl, hb⟩
    have HB6 := Aside0.mk (HB5.out.trans (hb.mono HB5.out.size))
    clear hb HB5 HC5 HBc
    go_wp2_with fail
    refine (SA.out _).mono ?_
    rintro e w7 ⟨⟨A7, c7, rfl, hc7, hC7⟩, hb⟩
    have HB7 := Aside0.mk (HB6.out.trans (hb.mono HB6.out.size))
    have HC7 := Aside0.mk hC7
    clear hb hC7
    go_wp2_with fail
    refine (find_any A7 c7 sm ⟨#[97, 47, 104]⟩ _ HC7.out (by omega)).mono ?_
    rw [F3.out]
    rintro e w8 ⟨rfl, hb⟩
    have HB8 := Aside0.mk (HB7.out.trans (hb.mono HB7.out.size))
    clear hb HB7 HC7 HB6
    have e1 : ((bytesOfL [97, 47, 102]).toList == [97, 47, 102]) = true := by decide +kernel
    go_wp2_with fail
    refine (SA.out _).mono ?_
    rintro e w9 ⟨⟨A9, c9, rfl, hc9, hC9⟩, hb⟩
    have HB9 := Aside0.mk (HB8.out.trans (hb.mono HB8.out.size))
    have HC9 := Aside0.mk hC9
    clear hb hC9
    go_wp2_with fail
    refine (tree_beneath A9 c9 sm ⟨#[97]⟩ _ HC9.out (by omega) H4.out).mono ?_
    rintro e w10 ⟨⟨v, rfl, hV⟩, hb⟩
    obtain ⟨A10, c10, rfl⟩ := Kd.V_slice hV
    rw [F5.out]
    have HB10 := Aside0.mk (HB9.out.trans (hb.mono HB9.out.size))
    clear hb hV
    go_wp2
    go_ret
    exact ⟨rfl, HB10.out⟩
end Go.Proofs.YthpecpkncifngaaDoor.X
end

/- Plain words on paths: what stands above a path. -/
section
namespace Go.Proofs.YthpecpkncifngaaDoor.Nm
theorem last_mem : ∀ (r : List UInt8), (47 : UInt8) ∈ r → 0 ≤ lastIdx 47 r
  | [], h => by simp at h
  | d :: s, h => by
    have hge := lastIdx_ge 47 s
    simp only [lastIdx]
    by_cases hs : 0 ≤ lastIdx 47 s
    · rw [if_pos hs]; omega
    · rw [if_neg hs]
      by_cases hd : d = 47
      · rw [if_pos hd]; exact Int.le_refl _
      · rcases List.mem_cons.1 h with e | e
        · exact absurd e.symm hd
        · exact absurd (last_mem s e) hs
theorem last_cut : ∀ (l : List UInt8) (n : Nat), lastIdx 47 l = n → ∃ b, l = l.take n ++ 47 :: b ∧ (47 : UInt8) ∉ b ∧ n < l.length
  | [], n, h => by simp [lastIdx] at h
  | c :: r, n, h => by
    have hge := lastIdx_ge 47 r
    simp only [lastIdx] at h
    by_cases hr : 0 ≤ lastIdx 47 r
    · rw [if_pos hr] at h
      obtain ⟨m, hm⟩ := Int.eq_ofNat_of_zero_le hr
      obtain ⟨b, e, hb, hlt⟩ := last_cut r m hm
      obtain rfl : n = m + 1 := by omega
      refine ⟨b, ?_, hb, by simp; omega⟩
      rw [List.take_succ_cons, List.cons_append, ← e]
    · rw [if_neg hr] at h
      by_cases hc : c = 47
      · rw [if_pos hc] at h
        obtain rfl : n = 0 := by omega
        refine ⟨r, by simp [hc], ?_, by simp⟩
        intro hm
        exact hr (last_mem r hm)
      · rw [if_neg hc] at h; omega
theorem up_texts (l : List UInt8) : l.take (lastIdx 47 l).toNat = joinT (texts l).dropLast ∧ ((texts l).dropLast ≠ [] → texts (l.take (lastIdx 47 l).toNat) = (texts l).dropLast) := by
  have hge := lastIdx_ge 47 l
  by_cases h : 0 ≤ lastIdx 47 l
  · obtain ⟨n, hn⟩ := Int.eq_ofNat_of_zero_le h
    obtain ⟨b, e, hb, hlt⟩ := last_cut l n hn
    have ht : texts l = texts (l.take n) ++ [b] := by
      conv => lhs; rw [e]
      rw [texts_append, texts_one hb]
    rw [hn, Int.toNat_natCast, ht, List.dropLast_concat]
    exact ⟨(joinT_texts _).symm, fun _ => rfl⟩
  · have hm : (47 : UInt8) ∉ l := fun hm => h (last_mem l hm)
    rw [texts_one hm]
    obtain ⟨k, hk⟩ : ∃ k : Int, lastIdx 47 l = k ∧ k < 0 := ⟨_, rfl, by omega⟩
    rw [hk.1, Int.toNat_of_nonpos (by omega)]
    simp [joinT]
end Go.Proofs.YthpecpkncifngaaDoor.Nm
end

/- The reference's Sort as plain words: one by one, each behind all that are not behind it. -/
section
namespace Go.Proofs.YthpecpkncifngaaDoor.X
open Go.RowKit Go.Shelf Go.Proofs.YthpecpkncifngaaDoor Go.Proofs.YthpecpkncifngaaDoorW.PrintWords Go.Proofs.YthpecpkncifngaaDoorW.PrintLast Go.Proofs.YthpecpkncifngaaDoorW.PrintMore Go.Proofs.YthpecpkncifngaaDoor.Pure
noncomputable def place (out : List S26) (x : S26) : Nat → Nat
  | 0 => 0
  | n + 1 => if cmpI (rd_T26 out n) x = 1 then place out x n else n + 1
end Go.Proofs.YthpecpkncifngaaDoor.X
end

/- Plain laws of trees: what stands above an item is there; what is put in is found, and taken out again. -/
section
namespace Go.Proofs.YthpecpkncifngaaDoor.X
open Go Go.RowKit Go.Shelf Go.Proofs.YthpecpkncifngaaDoor Go.Proofs.YthpecpkncifngaaDoorW.PrintWords Go.Proofs.YthpecpkncifngaaDoorW.PrintLast Go.Proofs.YthpecpkncifngaaDoorW.PrintMore Go.Proofs.YthpecpkncifngaaDoor.Pure
theorem up_item {xs : List S26} (hc : (checkP xs).2 = 0) {x : S26} (hx : x ∈ xs) (hd : (Nm.texts x.f0.data.toList).dropLast ≠ []) :
    ∃ z, z ∈ xs ∧ z.f1 = 2 ∧ z.f0.data.toList = Nm.joinT (Nm.texts x.f0.data.toList).dropLast := by
  obtain ⟨_, hs⟩ := chk_ok hc
  obtain ⟨i, hi, rfl⟩ := List.getElem_of_mem hx
  have h := hs i hi
  have hm := step_may h
  rw [rd_get xs i hi] at hm
  have hu : (upB xs[i].f0).data.toList = Nm.joinT (Nm.texts xs[i].f0.data.toList).dropLast := by
    rw [← (Nm.up_texts xs[i].f0.data.toList).1]
    simp [upB, ByteArray.data_extract]
  have hg : Nm.Good (Nm.texts xs[i].f0.data.toList).dropLast := (Nm.check_good (may_check hm)).sub fun y hy => (List.dropLast_sublist _).subset hy
  have hne : (upB xs[i].f0).toList ≠ [] := by
    rw [Lib.toList_data, hu]
    exact fun e => hd ((Nm.joinT_nil hg).1 e)
  have hk : kd xs i (upB xs[i].f0) = 2 := by
    by_cases hk : kd xs i (upB xs[i].f0) = 2
    · exact hk
    · exfalso
      unfold stepP at h
      rw [rd_get xs i hi, if_neg (by simp [hm])] at h
      split at h
      · omega
      · rw [if_pos ⟨hne, hk⟩] at h; omega
  obtain ⟨j, hj, h1, h2⟩ := kd_some xs _ 2 (by decide) i hk
  exact ⟨rd_T26 xs j, by rw [rd_get xs j (by omega)]; exact List.getElem_mem _, h2, by rw [h1, hu]⟩
theorem anc {xs : List S26} (hc : (checkP xs).2 = 0) : ∀ (n : Nat) (x : S26) (pre r : List (List UInt8)), x ∈ xs → Nm.texts x.f0.data.toList = pre ++ r → pre ≠ [] → r.length = n + 1 →
    ∃ z, z ∈ xs ∧ z.f1 = 2 ∧ z.f0.data.toList = Nm.joinT pre
  | n, x, pre, r, hx, ht, hp, hn => by
    have hr : r ≠ [] := by rintro rfl; simp at hn
    have hdl : (Nm.texts x.f0.data.toList).dropLast = pre ++ r.dropLast := by rw [ht, List.dropLast_append_of_ne_nil hr]
    obtain ⟨z, hz, h2, he⟩ := up_item hc hx (by rw [hdl]; simp [hp])
    rw [hdl] at he
    cases n with
    | zero =>
      have : r.dropLast = [] := by apply List.eq_nil_of_length_eq_zero; simp [hn]
      rw [this, List.append_nil] at he
      exact ⟨z, hz, h2, he⟩
    | succ n =>
      have hns : ∀ y ∈ pre ++ r.dropLast, (47 : UInt8) ∉ y := by
        intro y hy
        rw [← hdl] at hy
        exact Nm.texts_ns _ y ((List.dropLast_sublist _).subset hy)
      exact anc hc n z pre r.dropLast hz (by rw [he]; exact Nm.texts_joinT _ (by simp [hp]) hns) hp (by simp [hn])
section
variable {xs : List S26} {y : S26}
end
section
variable {xs : List S26} {p : ByteArray}
end
end Go.Proofs.YthpecpkncifngaaDoor.X
end

/- Plain laws of trees: where a path leads is the root, a file or a folder; such an item's path leads to itself. -/
section
namespace Go.Proofs.YthpecpkncifngaaDoor.X
open Go Go.RowKit Go.Shelf Go.Proofs.YthpecpkncifngaaDoor Go.Proofs.YthpecpkncifngaaDoorW.PrintWords Go.Proofs.YthpecpkncifngaaDoorW.PrintLast Go.Proofs.YthpecpkncifngaaDoorW.PrintMore Go.Proofs.YthpecpkncifngaaDoor.Pure
def RealOk (xs : List S26) (r : List UInt8 × Int) : Prop :=
  (r.2 ≠ 0 → r.1 = []) ∧ (r.2 = 0 → r.1 = [] ∨ ∃ z, z ∈ xs ∧ (z.f1 = 1 ∨ z.f1 = 2) ∧ z.f0.data.toList = r.1)
theorem hardTo_mem {xs : List S26} (hc : (checkP xs).2 = 0) {x : S26} (hx : x ∈ xs) : hardTo xs x ∈ xs ∧ (hardTo xs x).f1 ≠ 3 := by
  unfold hardTo
  by_cases h3 : x.f1 = 3
  · obtain ⟨z, hz, he, h1⟩ := hard_file hc hx h3
    rw [if_pos h3, he, Option.getD_some]
    exact ⟨hz, by omega⟩
  · rw [if_neg h3]
    exact ⟨hx, h3⟩
theorem real_ok {xs : List S26} (hc : (checkP xs).2 = 0) : ∀ (m hops : Nat), 40 - hops = m → ∀ (left R : List (List UInt8)), (R = [] ∨ ∃ z, z ∈ xs ∧ (z.f1 = 1 ∨ z.f1 = 2) ∧ R = Nm.partsL z.f0.data.toList) → RealOk xs (realP xs R left hops) := by
  intro m
  induction m with
  | zero =>
    intro hops hm left
    induction left with
    | nil =>
      intro R hR
      rw [real_nil]
      refine ⟨fun h => absurd rfl h, fun _ => ?_⟩
      rcases hR with rfl | ⟨z, hz, hk, rfl⟩
      · exact .inl rfl
      · exact .inr ⟨z, hz, hk, (Nm.joinT_parts _).symm⟩
    | cons p rest ih =>
      intro R hR
      cases h : itemOf xs (Nm.joinT (R ++ [p])) with
      | none => rw [real_none h]; exact ⟨fun _ => rfl, fun h => by simp at h⟩
      | some x =>
        obtain ⟨hx, _⟩ := item_some h
        obtain ⟨hmm, h3⟩ := hardTo_mem hc hx
        have hk := may_kind ((chk_rise hc).2 _ hmm)
        by_cases h1 : (hardTo xs x).f1 = 1 ∧ rest ≠ []
        · rw [real_file h h1.1 h1.2]; exact ⟨fun _ => rfl, fun h => by simp at h⟩
        · by_cases h4 : (hardTo xs x).f1 = 4
          · rw [real_loop h h4 (by omega)]; exact ⟨fun _ => rfl, fun h => by simp at h⟩
          · rw [real_go h h1 h4]
            exact ih _ (.inr ⟨_, hmm, by omega, rfl⟩)
  | succ m ihm =>
    intro hops hm left
    induction left with
    | nil =>
      intro R hR
      rw [real_nil]
      refine ⟨fun h => absurd rfl h, fun _ => ?_⟩
      rcases hR with rfl | ⟨z, hz, hk, rfl⟩
      · exact .inl rfl
      · exact .inr ⟨z, hz, hk, (Nm.joinT_parts _).symm⟩
    | cons p rest ih =>
      intro R hR
      cases h : itemOf xs (Nm.joinT (R ++ [p])) with
      | none => rw [real_none h]; exact ⟨fun _ => rfl, fun h => by simp at h⟩
      | some x =>
        obtain ⟨hx, _⟩ := item_some h
        obtain ⟨hmm, h3⟩ := hardTo_mem hc hx
        have hk := may_kind ((chk_rise hc).2 _ hmm)
        by_cases h1 : (hardTo xs x).f1 = 1 ∧ rest ≠ []
        · rw [real_file h h1.1 h1.2]; exact ⟨fun _ => rfl, fun h => by simp at h⟩
        · by_cases h4 : (hardTo xs x).f1 = 4
          · rw [real_soft h h4 (by omega)]
            exact ihm _ (by omega) _ _ (.inl rfl)
          · rw [real_go h h1 h4]
            exact ih _ (.inr ⟨_, hmm, by omega, rfl⟩)
theorem realT_ok (xs : List S26) (p : List UInt8) : RealOk xs (realT xs p) := by
  unfold realT
  by_cases hc : (checkP xs).2 = 0
  · rw [if_neg (by simp [hc])]
    by_cases hp : p = []
    · rw [if_pos hp]; exact ⟨fun h => absurd rfl h, fun _ => .inl rfl⟩
    rw [if_neg hp]
    by_cases hn : (Nm.check p).2 = 0
    · rw [if_neg (by simp [hn])]; exact real_ok hc _ 0 rfl _ _ (.inl rfl)
    · rw [if_pos hn]; exact ⟨fun _ => rfl, fun h => by simp at h; omega⟩
  · rw [if_pos hc]; exact ⟨fun _ => rfl, fun h => absurd h hc⟩
theorem real_self {xs : List S26} (hc : (checkP xs).2 = 0) {x : S26} (hx : x ∈ xs) (hk : x.f1 = 1 ∨ x.f1 = 2) :
    ∀ (rest pre : List (List UInt8)), Nm.texts x.f0.data.toList = pre ++ rest → realP xs pre rest 0 = (x.f0.data.toList, 0)
  | [], pre, ht => by
    rw [real_nil, ← List.append_nil pre, ← ht, Nm.joinT_texts]
  | p :: r, pre, ht => by
    have hgood := Nm.check_good (may_check ((chk_rise hc).2 x hx))
    by_cases hr : r = []
    · subst hr
      have hi : itemOf xs (Nm.joinT (pre ++ [p])) = some x := by rw [← ht, Nm.joinT_texts]; exact item_of_mem hc hx
      have hh : hardTo xs x = x := by unfold hardTo; rw [if_neg (by omega)]
      rw [real_go hi (fun q => q.2 rfl) (by rw [hh]; omega), real_nil, hh, Nm.joinT_parts]
    · have ht' : Nm.texts x.f0.data.toList = (pre ++ [p]) ++ r := by rw [ht]; simp
      obtain ⟨n, hn⟩ : ∃ n, r.length = n + 1 := ⟨r.length - 1, by have := List.length_pos_iff.2 hr; omega⟩
      obtain ⟨z, hz, h2, he⟩ := anc hc n x (pre ++ [p]) r hx ht' (by simp) hn
      have hi : itemOf xs (Nm.joinT (pre ++ [p])) = some z := by rw [← he]; exact item_of_mem hc hz
      have hh : hardTo xs z = z := by unfold hardTo; rw [if_neg (by omega)]
      have hg : Nm.Good (pre ++ [p]) := hgood.sub fun y hy => by rw [ht']; exact List.mem_append_left _ hy
      rw [real_go hi (by rw [hh]; omega) (by rw [hh]; omega), hh, he, Nm.parts_joinT hg]
      exact real_self hc hx hk r (pre ++ [p]) ht'
theorem realT_self {xs : List S26} (hc : (checkP xs).2 = 0) {x : S26} (hx : x ∈ xs) (hk : x.f1 = 1 ∨ x.f1 = 2) : realT xs x.f0.data.toList = (x.f0.data.toList, 0) := by
  have hn := may_check ((chk_rise hc).2 x hx)
  unfold realT
  rw [if_neg (by simp [hc]), if_neg (Nm.parts_check hn).1, if_neg (by simp [hn])]
  exact real_self hc hx hk _ [] rfl
end Go.Proofs.YthpecpkncifngaaDoor.X
end

/- TreeReal: the law's walk. -/
section
namespace Go.Proofs.YthpecpkncifngaaDoor.X
open Go Go.RowKit Go.Shelf Go.Proofs.YthpecpkncifngaaDoor Go.Proofs.YthpecpkncifngaaDoorW.PrintWords Go.Proofs.YthpecpkncifngaaDoorW.PrintLast Go.Proofs.YthpecpkncifngaaDoorW.PrintMore Go.Proofs.YthpecpkncifngaaDoor.Pure
def anySoft (xs : List S26) : Nat → Bool
  | 0 => false
  | k + 1 => anySoft xs k || ((rd_T26 xs k).f1 == 4)
theorem anySoft_no {xs : List S26} : ∀ n : Nat, anySoft xs n = false → ∀ i : Nat, i < n → (rd_T26 xs i).f1 ≠ 4
  | 0, _, i, hi => by omega
  | n + 1, h, i, hi => by
    simp only [anySoft, Bool.or_eq_false_iff] at h
    rcases Nat.lt_succ_iff_lt_or_eq.1 hi with hi | rfl
    · exact anySoft_no n h.1 i hi
    · simpa using h.2
theorem real_cases (xs : List S26) (p : ByteArray) :
    ((realT xs p.data.toList).1 = [] ∧ (realT xs p.data.toList).2 = (checkP xs).2 ∧ (checkP xs).2 ≠ 0) ∨
    ((checkP xs).2 = 0 ∧ (realT xs p.data.toList).2 ≠ 0 ∧ (realT xs p.data.toList).1 = []) ∨
    ((checkP xs).2 = 0 ∧ (realT xs p.data.toList).2 = 0 ∧ (realT xs p.data.toList).1 = []) ∨
    ((checkP xs).2 = 0 ∧ (realT xs p.data.toList).2 = 0 ∧ ∃ z, z ∈ xs ∧ (z.f1 = 1 ∨ z.f1 = 2) ∧ (realT xs p.data.toList).1 = z.f0.data.toList ∧ z.f0.data.toList ≠ []) := by
  by_cases hc : (checkP xs).2 = 0
  · obtain ⟨h1, h2⟩ := realT_ok xs p.data.toList
    by_cases he : (realT xs p.data.toList).2 = 0
    · rcases h2 he with h | ⟨z, hz, hk, e⟩
      · exact .inr (.inr (.inl ⟨hc, he, h⟩))
      · exact .inr (.inr (.inr ⟨hc, he, z, hz, hk, e.symm, (Nm.parts_check (may_check ((chk_rise hc).2 z hz))).1⟩))
    · exact .inr (.inl ⟨hc, he, h1 he⟩)
  · left
    have e : realT xs p.data.toList = ([], (checkP xs).2) := by unfold realT; rw [if_pos hc]
    rw [e]
    exact ⟨rfl, rfl, hc⟩
theorem above {xs : List S26} (hc : (checkP xs).2 = 0) {z : S26} (hz : z ∈ xs) {pre r : List (List UInt8)} (ht : Nm.texts z.f0.data.toList = pre ++ r) (hp : pre ≠ []) (hr : r ≠ []) {q : ByteArray} (hq : q.data.toList = Nm.joinT pre) :
    ∃ j : Nat, j < xs.length ∧ findP xs q = ((j : Int), 0) ∧ (rd_T26 xs j).f1 = 2 ∧ q.size < z.f0.size ∧ (upB q).data.toList = Nm.joinT pre.dropLast := by
  obtain ⟨n, hn⟩ : ∃ n, r.length = n + 1 := ⟨r.length - 1, by have := List.length_pos_iff.2 hr; omega⟩
  obtain ⟨y, hy, h2, he⟩ := anc hc n z pre r hz ht hp hn
  have hi := item_of_mem hc hy
  rw [he, ← hq] at hi
  have hns : ∀ x ∈ pre, (47 : UInt8) ∉ x := fun x hx => Nm.texts_ns z.f0.data.toList x (by rw [ht]; exact List.mem_append_left _ hx)
  have hlt : q.size < z.f0.size := by
    have e1 : z.f0.data.toList = Nm.joinT pre ++ 47 :: Nm.joinT r := by rw [← Nm.joinT_append pre r hp hr, ← ht, Nm.joinT_texts]
    have e2 := Pure.len_eq q
    have e3 := Pure.len_eq z.f0
    rw [hq] at e2
    rw [e1, List.length_append, List.length_cons] at e3
    omega
  have hu : (upB q).data.toList = Nm.joinT pre.dropLast := by
    have e := (Nm.up_texts q.data.toList).1
    rw [hq, Nm.texts_joinT pre hp hns] at e
    rw [← e, ← hq]
    simp [upB, ByteArray.data_extract]
  rcases find_item xs q with ⟨a, _⟩ | ⟨j, hj, hf, hx⟩
  · rw [a] at hi; cases hi
  · rw [hx] at hi
    exact ⟨j, hj, hf, by rw [Option.some.inj hi]; exact h2, hlt, hu⟩
theorem up_less {q : ByteArray} (h : q.data.toList ≠ []) : (upB q).size < q.size := by
  have h1 := Nm.lastIdx_lt 47 q.data.toList
  have h2 := Nm.lastIdx_ge 47 q.data.toList
  have h3 := List.length_pos_iff.2 h
  have e1 := Pure.len_eq q
  have e2 := Pure.len_eq (upB q)
  have e3 : (upB q).data.toList = q.data.toList.take (Nm.lastIdx 47 q.data.toList).toNat := by simp [upB, ByteArray.data_extract]
  rw [e3, List.length_take] at e2
  omega
theorem up_first {z : ByteArray} (hz : z.data.toList ≠ []) : ∃ pre r, Nm.texts z.data.toList = pre ++ r ∧ r ≠ [] ∧ (upB z).data.toList = Nm.joinT pre := by
  have hne := Nm.texts_ne z.data.toList
  refine ⟨(Nm.texts z.data.toList).dropLast, [(Nm.texts z.data.toList).getLast hne], (List.dropLast_concat_getLast hne).symm, by simp, ?_⟩
  rw [← (Nm.up_texts z.data.toList).1]
  simp [upB, ByteArray.data_extract]
set_option maxRecDepth 100000 in
set_option maxHeartbeats 8000000 in
theorem treeReal_walk (A : Option Addr) (c : Nat) (xs : List S26) (path : ByteArray) (at_ : Int) (w : World) (hr : Kd.C k26 w A xs.length xs) (hc : xs.length ≤ c) (hm : xs.length * 80 ≤ 140737488351232) (hwf : (Lit.int .i64 at_).wf = true) :
    Calls Tryd.prog 7 #[.slice A xs.length c, .string path, .int .i64 at_] w fun e w' => e = .returned (.bool true) ∧ Below w.heap.size w w' := by
  have HR := Aside0.mk hr
  clear hr
  have HRl := Aside0.mk (fun p w hr => real_any A c xs p w hr)
  have hxl : xs.length ≤ 140737488355328 := by omega
  go_enter Tryd.func7, Tryd.ntmps7
  go_wp2_with fail
  refine (awake_any _).mono ?_
  rintro e w1 ⟨rfl, hb⟩
  have HB1 := Aside0.mk hb
  clear hb
  go_wp2
  go_loopw [7, 8] (fun b i wr => ∃ k : Nat, k ≤ xs.length ∧ i = .int .i64 k ∧ b = .bool (anySoft xs k) ∧ Aside0 (Below w.heap.size w wr)) (fun _ i _ => xs.length - (intOf i).toNat)
  case atStart => exact ⟨0, Nat.zero_le _, rfl, rfl, HB1⟩
  case round =>
    obtain ⟨k, hk, rfl, rfl, hB⟩ := hrel
    by_cases hlt : k < xs.length
    · obtain ⟨ad, A4, c4, rfl, h0, h1, -⟩ := at_it HR.out hB.out k hlt
      clear h0
      have HS := Lib.hid (show anySoft xs (k + 1) = (anySoft xs k || ((rd_T26 xs k).f1 == 4)) from rfl)
      generalize anySoft xs k = s0 at *
      cases s0
      all_goals
        go_wp2
        go_roundw
        case rel => exact ⟨k + 1, by omega, by go_num, (by rw [HS.out]; first | rfl | (simp; done)), hB⟩
        case measure => simp [intOf]; omega
    · obtain rfl : k = xs.length := by omega
      go_wp2_with fail
      refine (check_tree A c xs _ (Kd.C_below HR.out hB.out)).mono ?_
      rintro e w2 ⟨rfl, hb⟩
      have HB2 := Aside0.mk (hB.out.trans (hb.mono hB.out.size))
      clear hb hlt hk
      have hbad : ((checkP xs).2 == 0) = true ∨ ((checkP xs).2 == 0) = false := by cases (checkP xs).2 == 0 <;> simp
      have HBd := Aside0.mk (show ((checkP xs).2 == 0) = true → (checkP xs).2 = 0 from fun h => by simpa using h)
      generalize hsf : anySoft xs xs.length = sf
      have HSf := Lib.hid hsf
      clear hsf
      go_upto_region 9 with (fail)
      go_cut [65] (fun v wc => wc = w2 ∧ ∃ b : Bool, v = .bool b ∧ Aside0 (b = true → (checkP xs).2 = 0 ∧ sf = false ∧ ∃ a : Nat, at_ = (a : Int) ∧ a < xs.length ∧ (rd_T26 xs a).f1 ≠ 3))
      case first =>
        rcases hbad with d1 | d1
        · cases sf
          · by_cases g2 : 0 ≤ at_
            · obtain ⟨a, rfl⟩ := Int.eq_ofNat_of_zero_le g2
              have d2 : decide ((0 : Int) ≤ (a : Int)) = true := decide_eq_true g2
              by_cases g3 : a < xs.length
              · have d3 : decide ((a : Int) < (xs.length : Int)) = true := decide_eq_true (by omega)
                have d3' : decide (a < xs.length) = true := decide_eq_true g3
                obtain ⟨ad, A4, c4, rfl, h0, h1, -⟩ := at_it HR.out HB2.out a g3
                go_wp2
                go_meet
                case rel => exact ⟨rfl, _, rfl, ⟨fun h => ⟨HBd.out d1, by first | rfl | trivial, a, rfl, g3, by simpa using h⟩⟩⟩
              · have d3 : decide ((a : Int) < (xs.length : Int)) = false := decide_eq_false (by omega)
                have d3' : decide (a < xs.length) = false := decide_eq_false g3
                go_wp2
                go_meet
                case rel => exact ⟨rfl, false, rfl, ⟨fun h => by cases h⟩⟩
            · have d2 : decide ((0 : Int) ≤ at_) = false := decide_eq_false g2
              go_wp2
              go_meet
              case rel => exact ⟨rfl, false, rfl, ⟨fun h => by cases h⟩⟩
          · go_wp2
            go_meet
            case rel => exact ⟨rfl, false, rfl, ⟨fun h => by cases h⟩⟩
        · go_wp2
          go_meet
          case rel => exact ⟨rfl, false, rfl, ⟨fun h => by cases h⟩⟩
      case rest =>
        obtain ⟨rfl, b, rfl, hP⟩ := hcut
        go_upto_if 65 with (fail)
        go_cut [11, 12] (fun _ _ wd => Aside0 (Below w.heap.size w wd))
        case first =>
          cases b
          · go_wp2
            go_meet
            case rel => exact HB2
          · obtain ⟨g1, g2, a, rfl, g3, g4⟩ := hP.out rfl
            have hmem : rd_T26 xs a ∈ xs := by rw [rd_get xs a g3]; exact List.getElem_mem g3
            have hk := may_kind ((chk_rise g1).2 _ hmem)
            have hn4 := anySoft_no _ (HSf.out.trans g2) a g3
            have hself := realT_self g1 hmem (by omega)
            obtain ⟨ad, A4, c4, rfl, h0, h1, -⟩ := at_it HR.out HB2.out a g3
            generalize rd_T26 xs a = x at *
            have HSelf := Lib.hid hself
            have HB2' := HB2
            clear g1 g2 g4 hk hn4 hmem hself h1 hP HSf
            go_wp2_with fail
            refine (HRl.out x.f0 _ (Kd.C_below HR.out HB2.out)).mono ?_
            rw [HSelf.out]
            rintro e w3 ⟨rfl, hb⟩
            have HB3 := Aside0.mk (HB2.out.trans (hb.mono HB2.out.size))
            have h0' := (hb.cell (World.block_lt_of_cell? _ _ h0)).trans h0
            have e1 : ((bytesOfL x.f0.data.toList).toList != x.f0.toList) = false := by rw [bne_eq_false_iff_eq]; rfl
            have e2 : bytesOfL x.f0.data.toList = x.f0 := rfl
            clear hb
            go_wp2
            go_meet
            case rel => exact HB3
        case rest =>
          have HBc := hcut
          clear hcut HB2 hB hP HSf
          have HSf := ()
          go_wp2_with fail
          refine (HRl.out path _ (Kd.C_below HR.out HBc.out)).mono ?_
          rintro e w4 ⟨rfl, hb⟩
          have HB4 := Aside0.mk (HBc.out.trans (hb.mono HBc.out.size))
          clear hb HBc
          rcases real_cases xs path with ⟨r1, r2, r3⟩ | ⟨r0, r1, r2⟩ | ⟨r0, r1, r2⟩ | ⟨r0, r1, z, hz, hzk, r2, hzne⟩
          · rw [r1, r2]
            have d1 : ((checkP xs).2 != 0) = true := by simpa using r3
            have d2 : ((checkP xs).2 == (checkP xs).2) = true := beq_self_eq_true _
            have d3 : (bytesOfL ([] : List UInt8)) = ⟨#[]⟩ := rfl
            clear r1 r2 r3
            go_wp2
            go_ret
            exact ⟨rfl, HB4.out⟩
          · rw [r2]
            have d0 : ((checkP xs).2 == 0) = true := by simpa using r0
            have d1 : ((realT xs path.data.toList).2 != 0) = true := by simpa using r1
            have d3 : (bytesOfL ([] : List UInt8)) = ⟨#[]⟩ := rfl
            generalize (realT xs path.data.toList).2 = n at *
            have d4 : (n == (checkP xs).2) = true ∨ (n == (checkP xs).2) = false := by cases n == (checkP xs).2 <;> simp
            clear r0 r1 r2
            rcases d4 with d4 | d4
            all_goals
              go_wp2
              go_ret
              exact ⟨rfl, HB4.out⟩
          · rw [r2, r1]
            have d0 : ((checkP xs).2 == 0) = true := by simpa using r0
            have d3 : (bytesOfL ([] : List UInt8)) = ⟨#[]⟩ := rfl
            rw [r0]
            clear r0 r1 r2
            go_wp2
            go_ret
            exact ⟨rfl, HB4.out⟩
          · rw [r2, r1, r0]
            have hself := realT_self r0 hz hzk
            obtain ⟨pre0, rr0, hT0, hr0, hU0⟩ := up_first hzne
            have AB := Aside0.mk (fun (pre r : List (List UInt8)) (q : ByteArray) (ht : Nm.texts z.f0.data.toList = pre ++ r) (hp : pre ≠ []) (hr : r ≠ []) (hq : q.data.toList = Nm.joinT pre) => above r0 hz ht hp hr hq)
            have hzs : z.f0.size ≤ 400 := may_size ((chk_rise r0).2 z hz)
            have hzi := item_of_mem r0 hz
            obtain ⟨n, hn, hf, hx⟩ : ∃ n : Nat, n < xs.length ∧ findP xs z.f0 = ((n : Int), 0) ∧ rd_T26 xs n = z := by
              rcases find_item xs z.f0 with ⟨a, _⟩ | ⟨n, hn, hf, hx⟩
              · rw [a] at hzi; cases hzi
              · rw [hx] at hzi; exact ⟨n, hn, hf, Option.some.inj hzi⟩
            have hgd := Nm.check_good (may_check ((chk_rise r0).2 z hz))
            have HGd := Aside0.mk (fun pre r (ht : Nm.texts z.f0.data.toList = pre ++ r) => (Nm.joinT_nil (hgd.sub fun y hy => by rw [ht]; exact List.mem_append_left _ hy) : Nm.joinT pre = [] ↔ pre = []))
            have eb : bytesOfL z.f0.data.toList = z.f0 := rfl
            rw [eb]
            have ene : z.f0.toList.isEmpty = false := by rw [Lib.toList_data]; simpa using hzne
            have HSelf := Lib.hid hself
            have HF := Lib.hid hf
            clear hself r2 r1 r0 hz hzne hzi hgd hf
            go_wp2_with fail
            refine (HRl.out z.f0 _ (Kd.C_below HR.out HB4.out)).mono ?_
            rw [HSelf.out, eb]
            rintro e w5 ⟨rfl, hb⟩
            have HB5 := Aside0.mk (HB4.out.trans (hb.mono HB4.out.size))
            clear hb HB4
            go_wp2_with fail
            refine (find_any A c xs z.f0 _ (Kd.C_below HR.out HB5.out) hxl).mono ?_
            rw [HF.out]
            rintro e w6 ⟨rfl, hb⟩
            have HB6 := Aside0.mk (HB5.out.trans (hb.mono HB5.out.size))
            obtain ⟨ad, A4, c4, rfl, h0, h1, -⟩ := at_it HR.out HB6.out n hn
            rw [hx] at h1
            have e1 : (z.f0.toList != z.f0.toList) = false := bne_self_eq_false _
            clear hb HB5 h0 hx
            go_upto_region 18 with (fail)
            go_cut [152] (fun v wc => v = .bool false ∧ wc = w6)
            case first =>
              rcases hzk with k1 | k1
              all_goals
                rw [k1] at h1
                clear k1
                go_wp2
                go_meet
                case rel => exact ⟨rfl, rfl⟩
            case rest =>
              obtain ⟨rfl, rfl⟩ := hcut
              clear hzk h1
              go_wp2_with fail
              refine (up_any z.f0 _ (by omega)).mono ?_
              rintro e w7 ⟨rfl, hb⟩
              have HB7 := Aside0.mk (HB6.out.trans (hb.mono HB6.out.size))
              have HT0 := Lib.hid hT0
              have HRn := Aside0.mk hr0
              have HU0 := Lib.hid hU0
              clear hb HB6 hT0 hr0 hU0 hn
              generalize upB z.f0 = q0 at *
              go_wp2
              go_loopw [17, 18, 19] (fun _ _ u wr => ∃ (pre r : List (List UInt8)) (q : ByteArray), u = .string q ∧ Hid (Nm.texts z.f0.data.toList = pre ++ r) ∧ Aside0 (r ≠ []) ∧ Hid (q.data.toList = Nm.joinT pre) ∧ Aside0 (Below w.heap.size w wr)) (fun _ _ u _ => szOf u)
              case atStart => exact ⟨pre0, rr0, q0, rfl, HT0, HRn, HU0, HB7⟩
              case round =>
                obtain ⟨pre, r, q, rfl, hT, hr, hq, hB⟩ := hrel
                by_cases hp : pre = []
                · have eq0 : q.toList.isEmpty = true := isEmpty_true (by rw [hq.out, hp]; rfl)
                  clear hp
                  go_wp2
                  go_ret
                  exact ⟨rfl, hB.out⟩
                · have hne : q.data.toList ≠ [] := by rw [hq.out]; exact fun e => hp ((HGd.out pre r hT.out).1 e)
                  have eq0 : q.toList.isEmpty = false := isEmpty_false hne
                  obtain ⟨j, hj, hf, hk2, hlt, hu⟩ := AB.out pre r q hT.out hp hr.out hq.out
                  have hul := up_less hne
                  have HFj := Lib.hid hf
                  have HT' := Lib.hid (show Nm.texts z.f0.data.toList = pre.dropLast ++ (pre.getLast hp :: r) by rw [hT.out]; conv => lhs; rw [← List.dropLast_concat_getLast hp]; simp)
                  have HU' := Lib.hid hu
                  have d1 : decide ((z.f0.size : Int) ≤ (q.size : Int)) = false := decide_eq_false (by omega)
                  have d1' : decide (z.f0.size ≤ q.size) = false := decide_eq_false (by omega)
                  have HL' := Aside0.mk hlt
                  have HRn' := Aside0.mk (show (pre.getLast hp :: r) ≠ [] by simp)
                  generalize pre.getLast hp :: r = r' at HT' HRn'
                  generalize pre.dropLast = pre' at HT' HU'
                  clear hne hf hu hT hr hq hp hlt
                  go_wp2_with fail
                  refine (find_any (some ad) c xs q _ (Kd.C_below HR.out hB.out) hxl).mono ?_
                  rw [HFj.out]
                  rintro e w8 ⟨rfl, hb⟩
                  have HB8 := Aside0.mk (hB.out.trans (hb.mono hB.out.size))
                  obtain ⟨ad2, A5, c5, hA2, -, g1, -⟩ := at_it HR.out HB8.out j hj
                  cases hA2
                  rw [hk2] at g1
                  clear hb hk2
                  go_wp2_with fail
                  refine (up_any q _ (by have := HL'.out; omega)).mono ?_
                  rintro e w9 ⟨rfl, hb⟩
                  have HB9 := Aside0.mk (HB8.out.trans (hb.mono HB8.out.size))
                  clear hb g1 HB8
                  generalize upB q = q' at *
                  go_wp2
                  go_roundw
                  case rel => exact ⟨pre', r', q', rfl, HT', HRn', HU', HB9⟩
                  case measure => simpa [szOf] using hul
end Go.Proofs.YthpecpkncifngaaDoor.X
end

/- Arguments laid open by their kinds: what a reading of an argument says of its cells, kind by kind; and that no part of it is greater than the reach. -/
section
namespace Go.Proofs.YthpecpkncifngaaDoor.Op2
open Go.RowKit Go.Proofs.YthpecpkncifngaaDoorW.PrintWords
section
variable {H : Type} (enc : TypeId × Value → H) (P : Program) (W : World) (base : Nat) (spare : Nat → Bool) (held : Bool)
def Opens {α : Type} (t : TypeId) (d : Kd α) (G : α → Prop) : Prop :=
  ∀ (fuel : Nat) (cs : List Value) (x : DataW H × List MemPlace), DataW.trod enc P W base spare held fuel t cs = some x → (∀ n ∈ x.1.weights P t, n ≤ reachBytes) → ∃ y, d.K W y cs ∧ G y
variable {enc P W base spare held}
theorem opens_int {t : TypeId} {k : IntKind} (ht : P.underlying t = some (.int k)) : Opens enc P W base spare held t (Kd.int k) (fun n => (Lit.int k n).wf = true) := by
  intro fuel cs x h _
  obtain ⟨n, rfl, rfl, hw⟩ := DataW.trod_int ht h
  exact ⟨n, rfl, hw⟩
theorem opens_string {t : TypeId} (ht : P.underlying t = some .string) : Opens enc P W base spare held t Kd.string (fun s => s.size ≤ 140737488351232) := by
  intro fuel cs x h hw
  obtain ⟨s, rfl, rfl, hs⟩ := DataW.trod_string ht h
  refine ⟨s, rfl, ?_⟩
  have := hw s.data.toList.length (by simp [DataW.weights])
  rw [Array.length_toList] at this
  exact this
theorem weightsAll_mem {e : TypeId} : ∀ {l : List (DataW H)} {d : DataW H} {n : Nat}, d ∈ l → n ∈ d.weights P e → n ∈ DataW.weightsAll P e l
  | x :: r, d, n, hd, hn => by
    rw [DataW.weightsAll]
    rcases List.mem_cons.1 hd with rfl | hd
    · exact List.mem_append_left _ hn
    · exact List.mem_append_right _ (weightsAll_mem hd hn)
theorem weightsEach_mem : ∀ {ts : List TypeId} {l : List (DataW H)} {j : Nat} {t : TypeId} {d : DataW H} {n : Nat}, ts[j]? = some t → l[j]? = some d → n ∈ d.weights P t → n ∈ DataW.weightsEach P ts l
  | t :: ts, x :: r, 0, _, _, n, h1, h2, hn => by
    simp at h1 h2
    subst h1; subst h2
    rw [DataW.weightsEach]
    exact List.mem_append_left _ hn
  | t :: ts, x :: r, j + 1, _, _, n, h1, h2, hn => by
    rw [DataW.weightsEach]
    exact List.mem_append_right _ (weightsEach_mem (by simpa using h1) (by simpa using h2) hn)
  | [], _, _, _, _, _, h1, _, _ => by simp at h1
  | _ :: _, [], _, _, _, _, _, h2, _ => by simp at h2
theorem choose_list {α β : Type} {R : Nat → α → β → Prop} : ∀ (l : List α), (∀ i a, l[i]? = some a → ∃ b, R i a b) → ∃ m : List β, m.length = l.length ∧ ∀ i a b, l[i]? = some a → m[i]? = some b → R i a b
  | [], _ => ⟨[], rfl, by simp⟩
  | a :: r, h => by
    obtain ⟨b, hb⟩ := h 0 a rfl
    obtain ⟨m, hm, hr⟩ := choose_list (R := fun i => R (i + 1)) r (fun i x hx => h (i + 1) x (by simpa using hx))
    refine ⟨b :: m, by simp [hm], fun i x y hx hy => ?_⟩
    cases i with
    | zero =>
      simp at hx hy
      subst hx; subst hy
      exact hb
    | succ i => exact hr i x y (by simpa using hx) (by simpa using hy)
theorem cells_all {a : Addr} {n : Nat} {cs : List Value} (h : W.cells? base a n = some cs) : cs.length = n ∧ ∀ i u, cs[i]? = some u → W.cell? (a.add i) = some u := by
  obtain ⟨h1, h2, h3⟩ := World.cells?_some h
  refine ⟨h2, fun i u hu => ?_⟩
  have hi : i < n := by rw [← h2]; exact (List.getElem?_eq_some_iff.1 hu).1
  rw [h3 i hi]; exact hu
theorem opens_slice {t e : TypeId} {α : Type} {d : Kd α} {G : α → Prop} {b : Nat} (ht : P.underlying t = some (.slice e)) (hc : P.cellsOf e = d.sz) (hb : P.bytesOf e = b) (he : Opens enc P W base spare held e d G) :
    Opens enc P W base spare held t (Kd.slice e d) (fun xs => xs.length * b ≤ 140737488351232 ∧ xs.length ≤ 9223372036854775807 ∧ ∀ x ∈ xs, G x) := by
  intro fuel cs x h hw
  rcases DataW.trod_slice ht h with ⟨rfl, rfl⟩ | ⟨a, len, cap, elems, rest, n, _, rfl, rfl, hbs, hl, hm, hlen, hel, _, _⟩
  · exact ⟨[], ⟨none, 0, rfl, Nat.le_refl _, Kd.C_nil _ _⟩, by simp, by simp, by simp⟩
  · simp only [DataW.weights, ht] at hw
    have h1 := hw ((List.map (·.1) elems).length + (List.map (·.1) rest).length |> (· * P.bytesOf e)) List.mem_cons_self
    have each : ∀ i y, elems[i]? = some y → ∃ z, (∃ c, c.length = d.sz ∧ d.K W z c ∧ ∀ j u, c[j]? = some u → W.cell? (a.add (i * d.sz + j)) = some u) ∧ G z := by
      intro i y hy
      have hi : i < len := by rw [← hlen]; exact (List.getElem?_eq_some_iff.1 hy).1
      have hq := hel i hi
      rw [hy, Option.bind_eq_some_iff] at hq
      obtain ⟨c, hcs, hy'⟩ := hq
      obtain ⟨z, hz, hg⟩ := he n c y hy' (fun m hm' => hw m (List.mem_cons_of_mem _ (List.mem_append_left _ (weightsAll_mem (List.mem_map.2 ⟨y, List.mem_of_getElem? hy, rfl⟩) hm'))))
      rw [hc] at hcs
      obtain ⟨q1, q2⟩ := cells_all hcs
      refine ⟨z, ⟨c, q1, hz, fun j u hu => ?_⟩, hg⟩
      have := q2 j u hu
      rwa [add_add] at this
    obtain ⟨zs, hzl, hz⟩ := choose_list elems each
    have hzlen : zs.length = len := hzl.trans hlen
    have get : ∀ i z, zs[i]? = some z → (∃ c, c.length = d.sz ∧ d.K W z c ∧ ∀ j u, c[j]? = some u → W.cell? (a.add (i * d.sz + j)) = some u) ∧ G z := by
      intro i z hzi
      have hi : i < elems.length := by rw [← hzl]; exact (List.getElem?_eq_some_iff.1 hzi).1
      exact hz i _ z (List.getElem?_eq_getElem hi) hzi
    have hmx : cap ≤ 9223372036854775807 := by unfold maxLen at hm; omega
    refine ⟨zs, ⟨some a, cap, by rw [hzlen], by omega, ⟨hzlen ▸ rfl, by omega, fun _ => ⟨a, rfl, fun j p hj => (get j p hj).1⟩⟩⟩, ?_, by omega, ?_⟩
    · rw [hzlen, ← hlen]
      rw [hb] at h1
      simp only [List.length_map] at h1
      have : elems.length * b ≤ (elems.length + rest.length) * b := Nat.mul_le_mul_right _ (Nat.le_add_right _ _)
      exact Nat.le_trans this h1
    · intro z hz'
      obtain ⟨i, hi⟩ := List.getElem?_of_mem hz'
      exact (get i z hi).2
end
end Go.Proofs.YthpecpkncifngaaDoor.Op2
end

/- Items, and lists of items, laid open. -/
section
namespace Go.Proofs.YthpecpkncifngaaDoor.X
open Go.RowKit Go.Proofs.YthpecpkncifngaaDoorW.PrintWords Go.Proofs.YthpecpkncifngaaDoor.Op2
def GoodIt (x : S26) : Prop := x.f0.size ≤ 140737488351232 ∧ (Lit.int .u8 x.f1).wf = true ∧ (Lit.int .i64 x.f2).wf = true ∧ (Lit.int .i64 x.f3).wf = true ∧ (x.f4.length * 1 ≤ 140737488351232 ∧ x.f4.length ≤ 9223372036854775807 ∧ ∀ n ∈ x.f4, (Lit.int .u8 n).wf = true) ∧ x.f5.size ≤ 140737488351232
theorem six {α : Type} {l : List α} (h : l.length = 6) : ∃ a b c d e f, l = [a, b, c, d, e, f] := by
  match l, h with
  | [a, b, c, d, e, f], _ => exact ⟨a, b, c, d, e, f, rfl⟩
theorem opens_item {H : Type} {enc : TypeId × Value → H} {W : World} {base : Nat} {spare : Nat → Bool} {held : Bool} : Opens enc Tryd.prog W base spare held 26 k26 GoodIt := by
  intro fuel cs x h hw
  obtain ⟨xs, n, _, rfl, hl, hx, hel⟩ := DataW.trod_struct Tryd.underlying26 h
  have hc : Tryd.prog.cellsOf 26 = 6 := by kernel_rfl
  rw [hc] at hl
  obtain ⟨u0, u1, u2, u3, u4, u5, rfl⟩ := six hl
  obtain ⟨y0, y1, y2, y3, y4, y5, rfl⟩ := six (show xs.length = 6 from hx)
  simp only [DataW.weights, Tryd.underlying26] at hw
  have c0 : Tryd.prog.cellsOf 9 = 1 := by kernel_rfl
  have c1 : Tryd.prog.cellsOf 23 = 1 := by kernel_rfl
  have c2 : Tryd.prog.cellsOf 3 = 1 := by kernel_rfl
  have c4 : Tryd.prog.cellsOf 24 = 1 := by kernel_rfl
  have e0 : DataW.trod enc Tryd.prog W base spare held n 9 (([u0, u1, u2, u3, u4, u5].drop 0).take (Tryd.prog.cellsOf 9)) = some y0 := hel 0 _ rfl
  rw [c0] at e0
  have e1 : DataW.trod enc Tryd.prog W base spare held n 23 (([u0, u1, u2, u3, u4, u5].drop 1).take (Tryd.prog.cellsOf 23)) = some y1 := hel 1 _ rfl
  rw [c1] at e1
  have e2 : DataW.trod enc Tryd.prog W base spare held n 3 (([u0, u1, u2, u3, u4, u5].drop 2).take (Tryd.prog.cellsOf 3)) = some y2 := hel 2 _ rfl
  rw [c2] at e2
  have e3 : DataW.trod enc Tryd.prog W base spare held n 3 (([u0, u1, u2, u3, u4, u5].drop 3).take (Tryd.prog.cellsOf 3)) = some y3 := hel 3 _ rfl
  rw [c2] at e3
  have e4 : DataW.trod enc Tryd.prog W base spare held n 24 (([u0, u1, u2, u3, u4, u5].drop 4).take (Tryd.prog.cellsOf 24)) = some y4 := hel 4 _ rfl
  rw [c4] at e4
  have e5 : DataW.trod enc Tryd.prog W base spare held n 9 (([u0, u1, u2, u3, u4, u5].drop 5).take (Tryd.prog.cellsOf 9)) = some y5 := hel 5 _ rfl
  rw [c0] at e5
  have wt : ∀ (j : Nat) (t : TypeId) (y : DataW H × List MemPlace), ((#[_, _, _, _, _, _] : Array Field).toList.map (·.type))[j]? = some t → [y0, y1, y2, y3, y4, y5][j]? = some y → ∀ m ∈ y.1.weights Tryd.prog t, m ≤ reachBytes :=
    fun j t y h1 h2 m hm => hw m (weightsEach_mem h1 (by rw [List.getElem?_map, h2]; rfl) hm)
  obtain ⟨z0, k0, g0⟩ := opens_string Tryd.underlying9 n _ _ e0 (wt 0 _ _ rfl rfl)
  obtain ⟨z1, k1, g1⟩ := opens_int Tryd.underlying23 n _ _ e1 (wt 1 _ _ rfl rfl)
  obtain ⟨z2, k2, g2⟩ := opens_int Tryd.underlying3 n _ _ e2 (wt 2 _ _ rfl rfl)
  obtain ⟨z3, k3, g3⟩ := opens_int Tryd.underlying3 n _ _ e3 (wt 3 _ _ rfl rfl)
  obtain ⟨z4, k4, g4⟩ := opens_slice (b := 1) Tryd.underlying24 (by kernel_rfl) (by kernel_rfl) (opens_int Tryd.underlying5) n _ _ e4 (wt 4 _ _ rfl rfl)
  obtain ⟨z5, k5, g5⟩ := opens_string Tryd.underlying9 n _ _ e5 (wt 5 _ _ rfl rfl)
  exact ⟨⟨z0, z1, z2, z3, z4, z5⟩, ⟨_, _, rfl, k0, ⟨_, _, rfl, k1, ⟨_, _, rfl, k2, ⟨_, _, rfl, k3, ⟨_, _, rfl, k4, k5⟩⟩⟩⟩⟩, g0, g1, g2, g3, g4, g5⟩
theorem opens_items {H : Type} {enc : TypeId × Value → H} {W : World} {base : Nat} {spare : Nat → Bool} {held : Bool} : Opens enc Tryd.prog W base spare held 22 (Kd.slice 26 k26) (fun xs => xs.length * 80 ≤ 140737488351232 ∧ xs.length ≤ 9223372036854775807 ∧ ∀ x ∈ xs, GoodIt x) :=
  opens_slice Tryd.underlying22 (by kernel_rfl) (by kernel_rfl) opens_item
end Go.Proofs.YthpecpkncifngaaDoor.X
end

section
namespace Go.Proofs.YthpecpkncifngaaDoor.treeRealRow
open Go.ChangeShapes Go.WideShapes Go.ChangeAt Go.RowKit
open Go.ChangeMaps (open_string shut_string)
theorem own : ownKnob Tryd.prog.godebug = none := by kernel_rfl
open Go.Proofs.YthpecpkncifngaaDoor Go.Proofs.YthpecpkncifngaaDoorW.PrintWords
theorem laidOut : laidOutB Tryd.prog = true := by kernel_rfl
theorem walk (A0 : Option Addr) (c0 : Nat) (a0 : List X.S26) (a1 : ByteArray) (a2 : Int) (w : World) (h0 : Kd.C X.k26 w A0 a0.length a0) (hc0 : a0.length ≤ c0) (hg0 : a0.length * 80 ≤ 140737488351232 ∧ a0.length ≤ 9223372036854775807 ∧ ∀ x ∈ a0, X.GoodIt x) (h1 : a1.size ≤ 140737488351232) (h2 : (Lit.int .i64 a2).wf = true) : Calls Tryd.prog 7 #[.slice A0 a0.length c0, .string a1, .int .i64 a2] w fun e w' => e = .returned (.bool true) ∧ Below w.heap.size w w' := by
  exact X.treeReal_walk A0 c0 a0 a1 a2 w h0 hc0 hg0.1 h2
set_option maxRecDepth 100000 in
theorem contract (H : Type) (enc : TypeId × Value → H) (W : World) (base : Nat) (args : Array Value) (ds gs : List (DataW H)) (before : List MemPlace)
    (hval : ∀ (j : Nat) t v, Tryd.f7.params[j]? = some t → args[j]? = some v → Value.okWide Tryd.prog W .any base t v)
    (hW : DataW.Whole enc Tryd.prog Tryd.f7.params.toList Rows.treeRealSpec.vars false W args.toList ds gs before) (hsz0 : (DataW.weightsEach Tryd.prog (Tryd.f7.params.toList ++ Rows.treeRealSpec.plain.varTypes Tryd.prog) (ds ++ gs)).all (· ≤ reachBytes) = true) :
    Calls Tryd.prog 7 args W fun e W' => ∃ v, e = .returned v ∧ Rows.treeRealSpec.post enc Tryd.prog Tryd.f7 false true false false W args v W' := by
  have hW' := hW
  obtain ⟨p, q, hA0, hV, rfl, hfz, hnd⟩ := hW
  have hA : DataW.TrodAll enc Tryd.prog W 0 (fun _ => true) true Tryd.f7.params.toList args.toList ds p := hA0
  have hsz := hsz0
  rw [Tryd.params7] at hA hval hsz
  obtain ⟨v0, vs0, d0, ds0, p0, q0, hargs, rfl, rfl, h0, r0⟩ := trodAll_cons hA
  obtain ⟨v1, vs1, d1, ds1, p1, q1, rfl, rfl, rfl, h1, r1⟩ := trodAll_cons r0
  obtain ⟨v2, vs2, d2, ds2, p2, q2, rfl, rfl, rfl, h2, r2⟩ := trodAll_cons r1
  obtain ⟨rfl, rfl, rfl⟩ := trodAll_nil r2
  obtain rfl : args = #[v0, v1, v2] := by cases args; simp_all
  obtain ⟨rfl, rfl⟩ := trodVars_none hV
  have k0 := h0
  have lt0 : ∀ x ∈ p0, x.block < W.heap.size := by obtain ⟨m, hm⟩ := k0; exact DataW.trod_lt m _ _ _ hm
  obtain ⟨va0, vl0, vc0, rfl⟩ := okWide_slice Tryd.underlying22 (hval 0 22 v0 rfl rfl)
  obtain ⟨m0, hm0⟩ := h0
  obtain ⟨a0, hK0, w0⟩ := X.opens_items m0 _ _ hm0 (fun n hn => of_decide_eq_true (List.all_eq_true.1 hsz n (DataW.weights_mem_each (j := 0) rfl rfl n hn)))
  obtain ⟨A0, c0, he0, wc0, wK0⟩ := hK0
  obtain ⟨ea0, el0, ec0⟩ : va0 = A0 ∧ vl0 = a0.length ∧ vc0 = c0 := by simpa [Value.cells] using he0
  obtain rfl : A0 = va0 := ea0.symm
  obtain rfl : a0.length = vl0 := el0.symm
  obtain rfl : c0 = vc0 := ec0.symm
  obtain ⟨a1, rfl, rfl, rfl, y1⟩ := open_string Tryd.underlying9 (hval 1 9 v1 rfl rfl) h1
  have w1 : a1.size ≤ 140737488351232 := by
    have z := sized_string hsz (j := 1) (t := 9) rfl rfl
    rw [Array.length_toList] at z
    exact z
  obtain ⟨a2, rfl, rfl, rfl, w2⟩ := open_int Tryd.underlying3 (hval 2 3 v2 rfl rfl) h2
  clear hA0
  refine (walk A0 c0 a0 a1 a2 W wK0 wc0 w0 w1 w2).mono fun e W' ⟨he, bel⟩ => ?_
  subst he
  exact ⟨_, rfl, _, _, _, [], _, [], hW', trodAll_mk1 (shut_bool Tryd.underlying4 _), (trodAll_cons_mk (Below.trod laidOut (by kernel_rfl) (of_decide_eq_true (by kernel_rfl)) k0 bel lt0) (trodAll_cons_mk (shut_string Tryd.underlying9 y1) (trodAll_cons_mk (shut_int Tryd.underlying3 w2) trodAll_mk0))), rfl, bel.frame _, fun h => by cases h⟩
noncomputable def laidWorld (os : Os) : World := { World.holding Tryd.prog os ⟨#[], #[], []⟩ with heap := (((World.holding Tryd.prog os ⟨#[], #[], []⟩).heap.modify 2 fun | .cells _ t frozen => .cells (#[.int .u8 128, .int .u8 191, .int .u8 160, .int .u8 191, .int .u8 128, .int .u8 159, .int .u8 144, .int .u8 191, .int .u8 128, .int .u8 143, .int .u8 0, .int .u8 0, .int .u8 0, .int .u8 0, .int .u8 0, .int .u8 0, .int .u8 0, .int .u8 0, .int .u8 0, .int .u8 0, .int .u8 0, .int .u8 0, .int .u8 0, .int .u8 0, .int .u8 0, .int .u8 0, .int .u8 0, .int .u8 0, .int .u8 0, .int .u8 0, .int .u8 0, .int .u8 0]) t frozen | o => o).modify 1 fun | .cells _ t frozen => .cells ((Go.Pinned.utf8FirstZ.map fun (n : Nat) => Value.int .u8 (n : Int)).toArray) t frozen | o => o) }
set_option maxRecDepth 100000 in
theorem laid_met (os : Os) : laidMet Tryd.prog Rows.treeRealRow.laid ((laidWorld os).forCall (fun _ _ => 0) ⟨#[], #[.slice none 0 0, .string ByteArray.empty, .int .i64 0], []⟩).memory :=
  laidMet_of_run' 8 (by kernel_rfl) (by kernel_rfl)
set_option maxRecDepth 100000 in
theorem reads (os : Os) {H : Type} (enc : TypeId × Value → H) : ∃ places, DataW.whole enc Tryd.prog ((laidWorld os).forCall (fun _ _ => 0) ⟨#[], #[.slice none 0 0, .string ByteArray.empty, .int .i64 0], []⟩).memory Tryd.f7.params.toList Rows.treeRealSpec.vars false (#[.slice none 0 0, .string ByteArray.empty, .int .i64 0] : Array Value).toList 8 = some ([.nil, .lit (.string []), .lit (.int .i64 0)], [], places) :=
  ⟨[], by kernel_rfl⟩
set_option maxRecDepth 100000 in
theorem lifted (os : Os) (started : os.Started) (H : Type) (enc : TypeId × Value → H) (F : Stop.Interp) :
    ReturnsInHanded {} Tryd.checked os 7 .any ((OpenSpec.ofChange Rows.treeRealSpec).preRow enc Tryd.prog Tryd.f7 Rows.treeRealRow.domain false Rows.treeRealRow.laid) (((OpenSpec.ofChange Rows.treeRealSpec).at F).post enc Tryd.prog Tryd.f7 false true false false) := by
  obtain ⟨places, hx⟩ := reads os enc
  refine returnsInHanded_of_row (C := Tryd.checked) (s := OpenSpec.ofChange Rows.treeRealSpec) own started (by kernel_rfl) Tryd.func7
    (witness_row_at (enc := enc) (C := Tryd.checked) false (laidWorld os) #[.slice none 0 0, .string ByteArray.empty, .int .i64 0] rfl (by kernel_rfl) (by kernel_rfl) (by kernel_rfl)
      (OpenSpec.preRow_of_cond 8 hx (by kernel_rfl) (fun k hk => by cases hk) (by kernel_rfl) (laid_met os))) ?_
  intro W base args ds gs before hval hW _ hcond hsz0 _ _ _
  exact contract H enc W base args ds gs before hval hW hsz0
set_option maxRecDepth 100000 in
theorem proved : Rows.TreeRealSaid :=
  OpenClaim.holds_of_cond 7 Tryd.f7 rfl rfl rfl rfl rfl rfl rfl ⟨rfl, rfl, rfl, rfl, rfl⟩ rfl rfl rfl rfl rfl (by kernel_rfl) Tryd.func7 (by kernel_rfl)
    (of_decide_eq_true (by kernel_rfl)) (by unfold Func.isWrapper; first | (rw [if_pos (by decide +kernel)]; kernel_rfl) | (rw [if_neg (by decide +kernel)]; exact ⟨rfl, rfl⟩))
    (fun os started H enc _ F => by rw [OpenClaim.pre_eq_preRow]; exact lifted os started H enc F)
theorem plain (f : FuncId) (fn : Func) (hf : Tryd.pinned.checked.prog.funcNamed "tabulary/tabularylaw11.TreeReal" = some f) (hfn : Tryd.pinned.checked.prog.funcs[f]? = some fn) :
    false = Tryd.pinned.checked.prog.looks [] ∧ ∀ (j : Nat) t, fn.params[j]? = some t → Tryd.pinned.checked.prog.wantsStandIn t = false := by
  obtain rfl : f = 7 := Option.some.inj ((show Tryd.prog.funcNamed "tabulary/tabularylaw11.TreeReal" = some 7 by kernel_rfl).symm.trans hf) |>.symm
  obtain rfl : fn = Tryd.f7 := (Option.some.inj (Tryd.func7.symm.trans hfn)).symm
  refine ⟨by kernel_rfl, fun j t ht => ?_⟩
  rw [Tryd.params7] at ht
  have hm : t = 3 ∨ t = 9 ∨ t = 22 := by have := Array.mem_of_getElem? ht; simp at this; rcases this with h | h | h <;> simp [h]
  rcases hm with rfl | rfl | rfl
  · exact (show Tryd.prog.wantsStandIn 3 = false by kernel_rfl)
  · exact (show Tryd.prog.wantsStandIn 9 = false by kernel_rfl)
  · exact (show Tryd.prog.wantsStandIn 22 = false by kernel_rfl)
set_option maxRecDepth 100000 in
theorem card : Rows.TreeRealCardSaid :=
  Claim7.holds_tied_plain_at .later [] _ _ _ _ proved (fun _ h => by cases h) (by kernel_rfl) (fun _ h => by cases h) treeReal_row_tie rfl ⟨rfl, rfl⟩ (by kernel_rfl) rfl plain (by kernel_rfl)
end Go.Proofs.YthpecpkncifngaaDoor.treeRealRow
namespace Go.Proofs.YthpecpkncifngaaDoor
theorem treeReal_holds : Rows.TreeRealCardSaid := treeRealRow.card
#print axioms treeReal_holds
end Go.Proofs.YthpecpkncifngaaDoor
end
