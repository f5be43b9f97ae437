/- The row of the law tabulary/tabularylaw11.TreeBack: for every input the call returns true, and each argument reads behind the call as it read before. -/
import Derived.Test.YthpecpkncifngaaDoorZTreeBack1
import Derived.Deep.RegionHeld3
import Derived.Shelf.Spec.SlicesInsertGrow
import Derived.Laws.CopyOwn
import Derived.DataElems
import Derived.Deep.LoopGhost
import Derived.Lib.TrimByte
import Derived.Deep.DeepCutAuto
import Derived.Test.YthpecpkncifngaaDoorWMore
import Derived.ChangeArms
import Derived.DataReads
import Derived.SizedLaws
import Derived.ProofKit
import Derived.Test.YthpecpkncifngaaDoorCards
import Derived.Test.YthpecpkncifngaaDoorTie
import Derived.WalkKit
import Derived.OpenShut
import Derived.ShutString
import Derived.ChangeOld
import Derived.Below
import Derived.JoinedCond
import Derived.Deep.DeepHandedRow
import Derived.Lib.LaidTab
set_option linter.unusedVariables false
set_option linter.unusedSimpArgs false
/- NameBeneath, NameCompares: the pure statements. -/
section
namespace Go.Proofs.YthpecpkncifngaaDoor.Pure
open Go.RowKit Go.Proofs.YthpecpkncifngaaDoor.X Go.Proofs.YthpecpkncifngaaDoorW.PrintWords Go.Proofs.YthpecpkncifngaaDoorW.PrintLast Go.Proofs.YthpecpkncifngaaDoorW.PrintMore
open Go.Proofs.YthpecpkncifngaaDoor
noncomputable def ben (a p : List UInt8) : Bool := @ite Bool ((Nm.check p).2 = 0 ∧ (a = [] ∨ ∃ b, p = a ++ 47 :: b)) (Classical.propDecidable _) true false
theorem ben_true {a p : List UInt8} (h : (Nm.check p).2 = 0 ∧ (a = [] ∨ ∃ b, p = a ++ 47 :: b)) : ben a p = true := by unfold ben; exact if_pos h
theorem ben_false {a p : List UInt8} (h : ¬ ((Nm.check p).2 = 0 ∧ (a = [] ∨ ∃ b, p = a ++ 47 :: b))) : ben a p = false := by unfold ben; exact if_neg h
theorem prefix_iff (a p : ByteArray) : (a.size < p.size ∧ p.data.toList.take a.size = a.data.toList ∧ p.data.toList[a.size]? = some 47) ↔ ∃ b, p.data.toList = a.data.toList ++ 47 :: b := by
  have hl := len_eq a
  have hp := len_eq p
  constructor
  · rintro ⟨h1, h2, h3⟩
    refine ⟨p.data.toList.drop (a.size + 1), ?_⟩
    obtain ⟨h4, h5⟩ := List.getElem?_eq_some_iff.1 h3
    have := List.drop_eq_getElem_cons h4
    rw [h5] at this
    rw [← this, ← h2]
    exact (List.take_append_drop _ _).symm
  · rintro ⟨b, h⟩
    have hlen := congrArg List.length h
    rw [List.length_append, List.length_cons] at hlen
    refine ⟨by omega, ?_, ?_⟩
    · rw [h, ← hl, List.take_left]
    · rw [h, ← hl, List.getElem?_append_right (Nat.le_refl _)]
      simp
theorem nbeneath (a p : ByteArray) : name_Beneath.f a p = some (ben a.data.toList p.data.toList) := by
  have hl := len_eq a
  have hlp := len_eq p
  simp only [name_Beneath.f, ncheck, Option.bind_some, strings_HasPrefix.f, stringslite_HasPrefix.f, toList_eq]
  by_cases h1 : (Nm.check p.data.toList).2 = 0
  · rw [if_pos (by simp [h1])]
    by_cases h2 : a.data.toList = []
    · rw [if_pos h2, ben_true ⟨h1, .inl h2⟩]
    · rw [if_neg h2]
      by_cases h3 : p.size < a.size
      · rw [if_neg (by omega)]
        simp only [Option.bind_some, Bool.false_eq_true, if_false]
        rw [ben_false]
        rintro ⟨_, h5 | h5⟩
        · exact h2 h5
        · have := ((prefix_iff a p).2 h5).1; omega
      · rw [if_pos (by omega), if_pos (by omega), if_pos (by omega)]
        simp only [Option.bind_some, Int.toNat_natCast, Lib.extract_data, List.drop_zero, Nat.sub_zero, beq_iff_eq]
        by_cases h4 : p.data.toList.take a.size = a.data.toList
        · rw [if_pos h4]
          by_cases h5 : a.size < p.size
          · rw [if_pos (by omega), if_pos (by omega), if_pos (by omega)]
            obtain ⟨c, _, hb, hc⟩ := drop_at p a.size h5
            rw [hb]
            by_cases h6 : c = 47
            · rw [ben_true ⟨h1, .inr ((prefix_iff a p).1 ⟨h5, h4, by rw [hc, h6]⟩)⟩, h6]; rfl
            · rw [ben_false]
              · have : ¬ ((c.toNat : Int) = 47) := fun e => h6 ((toNat_eq c 47).1 e)
                simpa using this
              · rintro ⟨_, h7 | h7⟩
                · exact h2 h7
                · have := ((prefix_iff a p).2 h7).2.2
                  rw [hc] at this
                  exact h6 (Option.some.inj this)
          · rw [if_neg (by omega), ben_false]
            rintro ⟨_, h7 | h7⟩
            · exact h2 h7
            · have := ((prefix_iff a p).2 h7).1; omega
        · rw [if_neg h4, ben_false]
          rintro ⟨_, h7 | h7⟩
          · exact h2 h7
          · exact h4 ((prefix_iff a p).2 h7).2.1
  · rw [if_neg (by simp; omega), ben_false (fun h => h1 h.1)]
theorem cmp_ev (a b : ByteArray) : cmp_Compare_string.f a b = some (if Op.bytesLess a.data.toList b.data.toList = true then -1 else if Op.bytesLess b.data.toList a.data.toList = true then 1 else 0) := by
  have n : ∀ x : ByteArray, cmp_isNaN_string.f x = some false := fun x => by simp [cmp_isNaN_string.f]
  simp only [cmp_Compare_string.f, n, Option.bind_some, Bool.false_eq_true, if_false, toList_eq]
  split
  · rfl
  · split <;> rfl
theorem ib (p : ByteArray) : strings_IndexByte.f p 47 = some (Lib.indexByte p.data.toList 47) := rfl
theorem texts_none {l : List UInt8} (h : Lib.indexByte l 47 = -1) : Nm.texts l = [l] := by simp [Nm.texts, Nm.pieces_none l 0 h]
theorem texts_some {l : List UInt8} {n : Nat} (h : Lib.indexByte l 47 = n) : Nm.texts l = l.take n :: Nm.texts (l.drop (n + 1)) := by
  rw [Nm.texts, Nm.pieces_some l 0 n h, List.map_cons, Nm.pieces_texts]
theorem cmp_cases (x y : List UInt8) : (Op.bytesLess x y = true) ∨ (Op.bytesLess x y = false ∧ Op.bytesLess y x = true) ∨ (Op.bytesLess x y = false ∧ Op.bytesLess y x = false) := by
  cases Op.bytesLess x y <;> cases Op.bytesLess y x <;> simp
theorem ncompare_j2 (a b X Y : ByteArray) (i j r : Int) (A B : List (List UInt8))
    (h : ∀ c : Bool, c = (if i < 0 then decide (j < 0) else false) → Ev (fun k => name_Compare.j3 k a b i j c) (Nm.cmpL A B))
    (hr : r = Nm.cmpL (X.data.toList :: A) (Y.data.toList :: B)) : Ev (fun k => name_Compare.j2 k a b i j X Y) r := by
  subst hr
  have s : ∀ k, name_Compare.j2 (k + 1) a b i j X Y = if (if Op.bytesLess X.data.toList Y.data.toList = true then (-1 : Int) else if Op.bytesLess Y.data.toList X.data.toList = true then 1 else 0) = 0 then name_Compare.j3 k a b i j (if i < 0 then decide (j < 0) else false) else some (if Op.bytesLess X.data.toList Y.data.toList = true then (-1 : Int) else if Op.bytesLess Y.data.toList X.data.toList = true then 1 else 0) := fun k => by
    simp only [name_Compare.j2]
    rw [cmp_ev, Option.bind_some]
    by_cases hi : i < 0
    · simp only [hi, if_true]
    · simp only [hi, if_false]
  rcases cmp_cases X.data.toList Y.data.toList with h1 | ⟨h1, h2⟩ | ⟨h1, h2⟩
  · simp only [h1, if_true] at s
    simp only [Nm.cmpL, h1, if_true]
    exact Ev.step s (Ev.congr (fun k => by rw [if_neg (by decide)]) (Ev.now _))
  · simp only [h1, h2, Bool.false_eq_true, if_false, if_true] at s
    simp only [Nm.cmpL, h1, h2, Bool.false_eq_true, if_false, if_true]
    exact Ev.step s (Ev.congr (fun k => by rw [if_neg (by decide)]) (Ev.now _))
  · simp only [h1, h2, Bool.false_eq_true, if_false, if_true] at s
    simp only [Nm.cmpL, h1, h2, Bool.false_eq_true, if_false]
    exact Ev.step s (h _ rfl)
theorem ncompare_j1 (a b X : ByteArray) (i r : Int) (A B : List (List UInt8)) (Y : List UInt8) (hB : Nm.texts b.data.toList = Y :: B)
    (h : ∀ c : Bool, c = (if i < 0 then decide (Lib.indexByte b.data.toList 47 < 0) else false) → Ev (fun k => name_Compare.j3 k a b i (Lib.indexByte b.data.toList 47) c) (Nm.cmpL A B))
    (hr : r = Nm.cmpL (X.data.toList :: A) (Y :: B)) : Ev (fun k => name_Compare.j1 k a b i (Lib.indexByte b.data.toList 47) X b) r := by
  by_cases hj : Lib.indexByte b.data.toList 47 = -1
  · rw [texts_none hj] at hB
    injection hB with h1 h2
    subst h1
    have s : ∀ k, name_Compare.j1 (k + 1) a b i (Lib.indexByte b.data.toList 47) X b = name_Compare.j2 k a b i (Lib.indexByte b.data.toList 47) X b := fun k => by
      simp only [name_Compare.j1]
      rw [if_neg (by omega)]
    exact Ev.step s (ncompare_j2 a b X b i _ r A B h hr)
  · have := Lib.indexByte_ge b.data.toList 47
    obtain ⟨n, hn⟩ : ∃ n : Nat, Lib.indexByte b.data.toList 47 = n := ⟨(Lib.indexByte b.data.toList 47).toNat, by omega⟩
    rw [texts_some hn] at hB
    injection hB with h1 h2
    subst h1
    have hlt := (Nm.pc_some _ 0 n hn).1
    rw [len_eq] at hlt
    have s : ∀ k, name_Compare.j1 (k + 1) a b i (Lib.indexByte b.data.toList 47) X b = name_Compare.j2 k a b i (Lib.indexByte b.data.toList 47) X (b.extract 0 n) := fun k => by
      simp only [name_Compare.j1]
      rw [if_pos (by omega), if_pos (by omega), if_pos (by omega), hn, Int.toNat_natCast]
    refine Ev.step s (ncompare_j2 a b X (b.extract 0 n) i _ r A B h ?_)
    rw [hr, Lib.extract_data]
    simp
theorem ncompare_one (a b : ByteArray) (hai : Lib.indexByte a.data.toList 47 = -1) :
    Ev (fun k => name_Compare.l0 k a b) (Nm.cmpL (Nm.texts a.data.toList) (Nm.texts b.data.toList)) := by
  have s : ∀ k, name_Compare.l0 (k + 1) a b = name_Compare.j1 k a b (-1) (Lib.indexByte b.data.toList 47) a b := fun k => by
    simp only [name_Compare.l0]
    rw [ib, ib, Option.bind_some, Option.bind_some, hai, if_neg (by omega)]
  refine Ev.step s ?_
  obtain ⟨Y, B, hB⟩ : ∃ Y B, Nm.texts b.data.toList = Y :: B := ⟨_, _, rfl⟩
  refine ncompare_j1 a b a (-1) _ [] B Y hB ?_ (by rw [texts_none hai, hB])
  rintro c rfl
  rw [if_pos (by omega)]
  by_cases hj : Lib.indexByte b.data.toList 47 = -1
  · rw [texts_none hj] at hB
    injection hB with h1 h2
    subst h2
    refine Ev.step (fun k => ?_) (Ev.now _)
    simp only [name_Compare.j3, hj]
    rw [if_pos (by decide)]
    rfl
  · have := Lib.indexByte_ge b.data.toList 47
    obtain ⟨m, hm⟩ : ∃ m : Nat, Lib.indexByte b.data.toList 47 = m := ⟨(Lib.indexByte b.data.toList 47).toNat, by omega⟩
    rw [texts_some hm] at hB
    injection hB with h1 h2
    subst h2
    obtain ⟨Z, C, hC⟩ : ∃ Z C, Nm.texts (b.data.toList.drop (m + 1)) = Z :: C := ⟨_, _, rfl⟩
    rw [hC]
    refine Ev.step (fun k => ?_) (Ev.now _)
    simp only [name_Compare.j3, hm]
    rw [if_neg (by simp), if_pos (by omega)]
    rfl
theorem ncompare_l0 (d : Nat) : ∀ (a b : ByteArray), a.size ≤ d → a.size ≤ 140737488355328 → b.size ≤ 140737488355328 →
    Ev (fun k => name_Compare.l0 k a b) (Nm.cmpL (Nm.texts a.data.toList) (Nm.texts b.data.toList)) := by
  induction d with
  | zero =>
    intro a b h0 ha hb
    have hai : Lib.indexByte a.data.toList 47 = -1 := by
      have e : a.data.toList = [] := List.eq_nil_of_length_eq_zero (by rw [len_eq]; omega)
      rw [e]; rfl
    exact ncompare_one a b hai
  | succ d ih =>
    intro a b h0 ha hb
    by_cases hai : Lib.indexByte a.data.toList 47 = -1
    · exact ncompare_one a b hai
    · have := Lib.indexByte_ge a.data.toList 47
      obtain ⟨n, hn⟩ : ∃ n : Nat, Lib.indexByte a.data.toList 47 = n := ⟨(Lib.indexByte a.data.toList 47).toNat, by omega⟩
      have hlt := (Nm.pc_some _ 0 n hn).1
      rw [len_eq] at hlt
      have s : ∀ k, name_Compare.l0 (k + 1) a b = name_Compare.j1 k a b (n : Int) (Lib.indexByte b.data.toList 47) (a.extract 0 n) b := fun k => by
        simp only [name_Compare.l0]
        rw [ib, ib, Option.bind_some, Option.bind_some, hn, if_pos (by omega), if_pos (by omega), if_pos (by omega), Int.toNat_natCast]
      refine Ev.step s ?_
      obtain ⟨Y, B, hB⟩ : ∃ Y B, Nm.texts b.data.toList = Y :: B := ⟨_, _, rfl⟩
      refine ncompare_j1 a b (a.extract 0 n) n _ (Nm.texts (a.data.toList.drop (n + 1))) B Y hB ?_ (by rw [texts_some hn, hB, Lib.extract_data]; simp)
      rintro c rfl
      rw [if_neg (by omega)]
      obtain ⟨Z, C, hC⟩ : ∃ Z C, Nm.texts (a.data.toList.drop (n + 1)) = Z :: C := ⟨_, _, rfl⟩
      by_cases hj : Lib.indexByte b.data.toList 47 = -1
      · rw [texts_none hj] at hB
        injection hB with h1 h2
        subst h2
        rw [hC]
        refine Ev.step (fun k => ?_) (Ev.now _)
        simp only [name_Compare.j3, Bool.false_eq_true, if_false]
        rw [if_neg (by omega), if_pos (by omega)]
        rfl
      · have := Lib.indexByte_ge b.data.toList 47
        obtain ⟨m, hm⟩ : ∃ m : Nat, Lib.indexByte b.data.toList 47 = m := ⟨(Lib.indexByte b.data.toList 47).toNat, by omega⟩
        have hlt2 := (Nm.pc_some _ 0 m hm).1
        rw [len_eq] at hlt2
        rw [texts_some hm] at hB
        injection hB with h1 h2
        subst h2
        have s2 : ∀ k, name_Compare.j3 (k + 1) a b (n : Int) (Lib.indexByte b.data.toList 47) false = name_Compare.l0 k (a.extract (n + 1) a.size) (b.extract (m + 1) b.size) := fun k => by
          simp only [name_Compare.j3, Bool.false_eq_true, if_false]
          rw [if_neg (by omega), if_neg (by omega), hm, wrap_succ (by omega), wrap_succ (by omega), if_pos (by omega), if_pos (by omega), if_pos (by omega), if_pos (by omega), Int.toNat_natCast, Int.toNat_natCast]
        refine Ev.step s2 ?_
        have e1 : (a.extract (n + 1) a.size).data.toList = a.data.toList.drop (n + 1) := Lib.extract_to_end a (n + 1)
        have e2 : (b.extract (m + 1) b.size).data.toList = b.data.toList.drop (m + 1) := Lib.extract_to_end b (m + 1)
        have l1 : (a.extract (n + 1) a.size).size = a.size - (n + 1) := by rw [← len_eq, e1, List.length_drop, len_eq]
        have l2 : (b.extract (m + 1) b.size).size = b.size - (m + 1) := by rw [← len_eq, e2, List.length_drop, len_eq]
        have := ih (a.extract (n + 1) a.size) (b.extract (m + 1) b.size) (by omega) (by omega) (by omega)
        rw [e1, e2] at this
        exact this
end Go.Proofs.YthpecpkncifngaaDoor.Pure
end

/- The contract of tree.Check. -/
section
namespace Go.Proofs.YthpecpkncifngaaDoor.X
open Go.RowKit Go.Shelf Go.Proofs.YthpecpkncifngaaDoor Go.Proofs.YthpecpkncifngaaDoorW.PrintWords Go.Proofs.YthpecpkncifngaaDoorW.PrintLast Go.Proofs.YthpecpkncifngaaDoorW.PrintMore Go.Proofs.YthpecpkncifngaaDoor.Pure
theorem Ev.some_ {α : Type} {g : Nat → Option α} {r : α} (h : Ev g r) : ∃ k, g k = some r := h.imp fun K hK => hK K (Nat.le_refl _)
theorem compare_any (a b : ByteArray) (w : World) (ha : a.size ≤ 140737488355328) (hb : b.size ≤ 140737488355328) :
    Calls Tryd.prog 36 #[.string a, .string b] w fun e w' => e = .returned (.int .i64 (Nm.cmpL (Nm.texts a.data.toList) (Nm.texts b.data.toList))) ∧ ∃ n, w' = w.drewN n := by
  obtain ⟨k, hk⟩ := Ev.some_ (ncompare_l0 a.size a b (Nat.le_refl _) ha hb)
  refine (name_Compare.calls k a b _ w hk).mono ?_
  rintro e w' ⟨rfl, h⟩
  exact ⟨rfl, h.out⟩
theorem up_any (p : ByteArray) (w : World) (hp : p.size ≤ 1099511627776) :
    Calls Tryd.prog 27 #[.string p] w fun e w' => e = .returned (.string (upB p)) ∧ Below w.heap.size w w' := by
  obtain ⟨k, hk⟩ := Ev.some_ (up_ev p hp)
  exact name_Up.calls k p _ w hk
def kd (xs : List S26) : Nat → ByteArray → Int
  | 0, _ => 0
  | k + 1, s => if (rd_T26 xs k).f0 = s then (rd_T26 xs k).f1 else kd xs k s
def kinds (xs : List S26) : Nat → List (ByteArray × Value)
  | 0 => []
  | k + 1 => Mp.mput (kinds xs k) (rd_T26 xs k).f0 (.int .u8 (rd_T26 xs k).f1)
theorem kinds_get (xs : List S26) (k : Nat) (s : ByteArray) : (Mp.mget (kinds xs k) s).getD (.int .u8 0) = .int .u8 (kd xs k s) := by
  induction k with
  | zero => rfl
  | succ k ih =>
    simp only [kinds, Mp.mget_put, kd]
    split
    · rfl
    · exact ih
def cmpA (xs : List S26) (k : Nat) : Int := Nm.cmpL (Nm.texts (rd_T26 xs (k - 1 : Nat)).f0.data.toList) (Nm.texts (rd_T26 xs k).f0.data.toList)
def stepP (xs : List S26) (k : Nat) : Int :=
  if mayP (rd_T26 xs k) ≠ 0 then mayP (rd_T26 xs k) else
  if 0 < k ∧ 0 ≤ cmpA xs k then 111 else
  if (upB (rd_T26 xs k).f0).toList ≠ [] ∧ kd xs k (upB (rd_T26 xs k).f0) ≠ 2 then 112 else
  if (rd_T26 xs k).f1 = 3 ∧ kd xs k (rd_T26 xs k).f5 ≠ 1 then 113 else 0
def chkP (xs : List S26) : Nat → Int × Int
  | k => if h : k < xs.length then (if stepP xs k = 0 then chkP xs (k + 1) else ((k : Int), stepP xs k)) else (0, 0)
termination_by k => xs.length - k
theorem chkP_go {xs : List S26} {k : Nat} (h : k < xs.length) (hs : stepP xs k = 0) : chkP xs k = chkP xs (k + 1) := by rw [chkP, dif_pos h, if_pos hs]
theorem chkP_stop {xs : List S26} {k : Nat} {e : Int} (h : k < xs.length) (hs : stepP xs k = e) (h0 : e ≠ 0) : chkP xs k = ((k : Int), e) := by rw [chkP, dif_pos h, if_neg (by rw [hs]; exact h0), hs]
theorem chkP_end {xs : List S26} {k : Nat} (h : xs.length ≤ k) : chkP xs k = (0, 0) := by rw [chkP, dif_neg (by omega)]
def checkP (xs : List S26) : Int × Int := if 256 < xs.length then (256, 3) else chkP xs 0
theorem may_size {x : S26} (h : mayP x = 0) : x.f0.size ≤ 400 := by
  unfold mayP at h
  split at h
  · rename_i hne
    omega
  · rename_i hne
    have hl := Pure.len_eq x.f0
    unfold Nm.check at hne
    by_cases h4 : 400 < x.f0.data.toList.length
    · rw [if_pos h4] at hne; simp at hne
    · omega
section
variable {xs : List S26} {k : Nat}
theorem step1 (h : mayP (rd_T26 xs k) ≠ 0) : stepP xs k = mayP (rd_T26 xs k) := by rw [stepP, if_pos h]
theorem step2 (h : mayP (rd_T26 xs k) = 0) (h2 : 0 < k ∧ 0 ≤ cmpA xs k) : stepP xs k = 111 := by rw [stepP, if_neg (by simp [h]), if_pos h2]
theorem step3 (h : mayP (rd_T26 xs k) = 0) (h2 : ¬ (0 < k ∧ 0 ≤ cmpA xs k)) (h3 : (upB (rd_T26 xs k).f0).toList ≠ [] ∧ kd xs k (upB (rd_T26 xs k).f0) ≠ 2) : stepP xs k = 112 := by rw [stepP, if_neg (by simp [h]), if_neg h2, if_pos h3]
theorem step4 (h : mayP (rd_T26 xs k) = 0) (h2 : ¬ (0 < k ∧ 0 ≤ cmpA xs k)) (h3 : ¬ ((upB (rd_T26 xs k).f0).toList ≠ [] ∧ kd xs k (upB (rd_T26 xs k).f0) ≠ 2)) (h4 : (rd_T26 xs k).f1 = 3 ∧ kd xs k (rd_T26 xs k).f5 ≠ 1) : stepP xs k = 113 := by rw [stepP, if_neg (by simp [h]), if_neg h2, if_neg h3, if_pos h4]
theorem step5 (h : mayP (rd_T26 xs k) = 0) (h2 : ¬ (0 < k ∧ 0 ≤ cmpA xs k)) (h3 : ¬ ((upB (rd_T26 xs k).f0).toList ≠ [] ∧ kd xs k (upB (rd_T26 xs k).f0) ≠ 2)) (h4 : ¬ ((rd_T26 xs k).f1 = 3 ∧ kd xs k (rd_T26 xs k).f5 ≠ 1)) : stepP xs k = 0 := by rw [stepP, if_neg (by simp [h]), if_neg h2, if_neg h3, if_neg h4]
end
theorem zero23 (w : World) : (zeroValue 23).run Tryd.prog w = .ok (.int .u8 0) w := by kernel_rfl
set_option maxRecDepth 100000 in
set_option maxHeartbeats 4000000 in
theorem check_list (A : Option Addr) (c : Nat) (xs : List S26) (w : World) (hr : Kd.C k26 w A xs.length xs) (hm : xs.length ≤ 256) :
    Calls Tryd.prog 13 #[.slice A xs.length c] w fun e w' => e = .returned (.tuple #[.int .i64 (chkP xs 0).1, .int .i64 (chkP xs 0).2]) ∧ Below w.heap.size w w' := by
  have hmm := @run_makeMap Tryd.prog
  have HR := Aside0.mk hr
  have hd : decide ((256 : Int) < (xs.length : Int)) = false := decide_eq_false (by omega)
  have hd' : decide (256 < xs.length) = false := decide_eq_false (by omega)
  clear hr
  go_enter Tryd.func13, Tryd.ntmps13
  go_wp2
  clear hd hd'
  go_loopw [15] (fun i wr => ∃ k : Nat, k ≤ xs.length ∧ i = .int .i64 k ∧ Hid (chkP xs 0 = chkP xs k) ∧ Aside0 (Below w.heap.size w wr) ∧ Aside0 (Mp.At Mp.strKey wr w.heap.size (kinds xs k)) ∧ Aside0 (0 < k → mayP (rd_T26 xs (k - 1 : Nat)) = 0)) (fun i _ => xs.length - (intOf i).toNat)
  case atStart => exact ⟨0, Nat.zero_le _, rfl, Lib.hid rfl, ⟨(Below.refl _ _).alloc (Nat.le_refl _) _⟩, ⟨Mp.at_made w⟩, ⟨fun h => absurd h (Nat.lt_irrefl 0)⟩⟩
  case round =>
    obtain ⟨k, hk, rfl, hi, hB, hM, hP⟩ := hrel
    by_cases hlt : k < xs.length
    · obtain ⟨ad, A4, c4, rfl, h0, h1, h2, h3, h4, h5, hl, hr4⟩ := at_it HR.out hB.out k hlt
      have HR4 := Aside0.mk hr4
      clear hr4
      go_wp2_with fail
      refine (may_any (rd_T26 xs k) A4 c4 _ hl (Kd.C_below HR4.out ((Below.refl _ _).alloc (Nat.le_refl _) _))).mono ?_
      rintro e w1 ⟨rfl, hb⟩
      obtain ⟨a0, a1, a2, a3, a4, a5, az⟩ := box_it (rd_T26 xs k) A4 c4 hb
      have HB1 := Aside0.mk (hB.out.trans (((Below.refl _ wr).alloc (Nat.le_refl _) _).trans (hb.mono (by simp)) |>.mono hB.out.size))
      have HM1 := Aside0.mk (hM.out.below (((Below.refl _ wr).alloc (Nat.le_refl _) _).trans (hb.mono (by simp))))
      clear hb h0 h1 h2 h3 h4 h5
      by_cases hmay : mayP (rd_T26 xs k) = 0
      case neg =>
        have hne : (mayP (rd_T26 xs k) != 0) = true := by simpa using hmay
        have HI := Lib.hid (hi.out.trans (chkP_stop hlt (step1 hmay) hmay))
        clear hi hmay
        go_wp2
        go_ret2
        exact ⟨by rw [HI.out]; rfl, HB1.out⟩
      have hne : (mayP (rd_T26 xs k) != 0) = false := by simpa using hmay
      have HMay := Lib.hid hmay
      have HSz := Lib.hid (may_size hmay)
      clear hmay
      by_cases hk0 : 0 < k
      · have d0 : decide ((0 : Int) < (k : Int)) = true := decide_eq_true (by omega)
        obtain ⟨ad', A4', c4', ea, p0, -⟩ := at_it HR.out HB1.out (k - 1) (by omega)
        cases ea
        have HPs := Lib.hid (may_size (hP.out hk0))
        by_cases hcm : 0 ≤ cmpA xs k
        · have d1 : decide (0 ≤ Nm.cmpL (Nm.texts (rd_T26 xs (k - 1 : Nat)).f0.data.toList) (Nm.texts (rd_T26 xs k).f0.data.toList)) = true := decide_eq_true hcm
          have HI := Lib.hid (hi.out.trans (chkP_stop hlt (step2 HMay.out ⟨hk0, hcm⟩) (by decide)))
          clear hi hcm
          go_wp2
          go_quiet (exact Calls.quiet_of (compare_any _ _ _ (by have := HPs.out; omega) (by have := HSz.out; omega)))
          go_wp2
          go_ret2
          exact ⟨by rw [HI.out]; rfl, pw_below_drewN HB1.out _⟩
        · have H2 := Lib.hid (show ¬ (0 < k ∧ 0 ≤ cmpA xs k) from fun h => hcm h.2)
          have d1 : decide (0 ≤ Nm.cmpL (Nm.texts (rd_T26 xs (k - 1 : Nat)).f0.data.toList) (Nm.texts (rd_T26 xs k).f0.data.toList)) = false := decide_eq_false hcm
          clear hcm
          go_wp2
          go_quiet (exact Calls.quiet_of (compare_any _ _ _ (by have := HPs.out; omega) (by have := HSz.out; omega)))
          go_wp2_with fail
          refine (up_any _ _ (by have := HSz.out; omega)).mono ?_
          rintro e w2 ⟨rfl, hb⟩
          have st : ∀ {j : Nat} {v : Value}, w1.cell? ⟨wr.heap.size, j, none⟩ = some v → w2.cell? ⟨wr.heap.size, j, none⟩ = some v := fun {j v} hv => (hb.cell (p := ⟨wr.heap.size, j, none⟩) az).trans hv
          have b0 := st a0
          have b1 := st a1
          have b5 := st a5
          have HB2 := Aside0.mk ((pw_below_drewN HB1.out nq).trans (hb.mono HB1.out.size))
          have HM2 := Aside0.mk ((HM1.out.move (W' := w1.drewN nq) rfl).below hb)
          clear hb st a0 a1 a2 a3 a4 a5 HB1 HM1
          have hrun1 : (Instr.lookup 63 (.map (some w.heap.size)) (.string (upB (rd_T26 xs k).f0)) false).run Tryd.prog w2 = .ok (.int .u8 (kd xs k (upB (rd_T26 xs k).f0))) w2 := by
            rw [← kinds_get]; exact HM2.out.lookup (K := Mp.strKey) Tryd.underlying63 Tryd.underlying9 _ zero23 false
          have hrun2 : (Instr.lookup 63 (.map (some w.heap.size)) (.string (rd_T26 xs k).f5) false).run Tryd.prog w2 = .ok (.int .u8 (kd xs k (rd_T26 xs k).f5)) w2 := by
            rw [← kinds_get]; exact HM2.out.lookup (K := Mp.strKey) Tryd.underlying63 Tryd.underlying9 _ zero23 false
          obtain ⟨o, ho, hrun3, hM3⟩ := HM2.out.update (K := Mp.strKey) Tryd.underlying63 Tryd.underlying9 (rd_T26 xs k).f0 (.int .u8 (rd_T26 xs k).f1)
          have HM3 := Aside0.mk hM3
          have hrun4 : (Instr.mapUpdate 63 (.map (some w.heap.size)) (.string (rd_T26 xs k).f0) (.int .u8 (rd_T26 xs k).f1)).run Tryd.prog w2 = .ok () (w2.putObj w.heap.size o) := hrun3
          clear hM3 hrun3
          by_cases k3 : (upB (rd_T26 xs k).f0).toList ≠ [] ∧ kd xs k (upB (rd_T26 xs k).f0) ≠ 2
          · have HI := Lib.hid (hi.out.trans (chkP_stop hlt (step3 HMay.out H2.out k3) (by decide)))
            have e1 : (upB (rd_T26 xs k).f0).toList.isEmpty = false := by simpa using k3.1
            have e2 : (kd xs k (upB (rd_T26 xs k).f0) != 2) = true := by simpa using k3.2
            clear hi k3
            go_wp2
            go_ret2
            exact ⟨by rw [HI.out]; rfl, HB2.out⟩
          have H3 := Lib.hid k3
          have E3 : ((upB (rd_T26 xs k).f0).toList.isEmpty = false ∧ (kd xs k (upB (rd_T26 xs k).f0) != 2) = false) ∨ (upB (rd_T26 xs k).f0).toList.isEmpty = true := by
            by_cases q : (upB (rd_T26 xs k).f0).toList = []
            · right; simpa using q
            · left; exact ⟨by simpa using q, by simpa using fun h => k3 ⟨q, h⟩⟩
          clear k3
          by_cases k4 : (rd_T26 xs k).f1 = 3 ∧ kd xs k (rd_T26 xs k).f5 ≠ 1
          · have HI := Lib.hid (hi.out.trans (chkP_stop hlt (step4 HMay.out H2.out H3.out k4) (by decide)))
            have e3 : ((rd_T26 xs k).f1 == 3) = true := by simpa using k4.1
            have e4 : (kd xs k (rd_T26 xs k).f5 != 1) = true := by simpa using k4.2
            clear hi k4
            rcases E3 with ⟨e1, e2⟩ | e1
            all_goals
              go_wp2
              go_ret2
              exact ⟨by rw [HI.out]; rfl, HB2.out⟩
          have HI := Lib.hid (hi.out.trans (chkP_go hlt (step5 HMay.out H2.out H3.out k4)))
          have E4 : ((rd_T26 xs k).f1 == 3) = false ∨ (((rd_T26 xs k).f1 == 3) = true ∧ (kd xs k (rd_T26 xs k).f5 != 1) = false) := by
            by_cases q : (rd_T26 xs k).f1 = 3
            · right; exact ⟨by simpa using q, by simpa using fun h => k4 ⟨q, h⟩⟩
            · left; simpa using q
          clear hi k4
          rcases E3 with ⟨e1, e2⟩ | e1 <;> rcases E4 with e3 | ⟨e3, e4⟩
          all_goals
            go_wp2
            go_roundw
            case rel => exact ⟨k + 1, by omega, by go_num, HI, ⟨HB2.out.grown (grownBy_putObj' _ _ _) HB2.out.size (fun j hj => by cases hj; exact Nat.le_refl _)⟩, HM3, ⟨fun _ => by rw [Nat.add_sub_cancel]; exact HMay.out⟩⟩
            case measure => simp [intOf]; omega
      · have H2 := Lib.hid (show ¬ (0 < k ∧ 0 ≤ cmpA xs k) from fun h => hk0 h.1)
        have d0 : decide ((0 : Int) < (k : Int)) = false := decide_eq_false (by omega)
        go_wp2
        go_quiet (fail)
        go_wp2_with fail
        refine (up_any _ _ (by have := HSz.out; omega)).mono ?_
        rintro e w2 ⟨rfl, hb⟩
        have st : ∀ {j : Nat} {v : Value}, w1.cell? ⟨wr.heap.size, j, none⟩ = some v → w2.cell? ⟨wr.heap.size, j, none⟩ = some v := fun {j v} hv => (hb.cell (p := ⟨wr.heap.size, j, none⟩) az).trans hv
        have b0 := st a0
        have b1 := st a1
        have b5 := st a5
        have HB2 := Aside0.mk ((pw_below_drewN HB1.out nq).trans (hb.mono HB1.out.size))
        have HM2 := Aside0.mk ((HM1.out.move (W' := w1.drewN nq) rfl).below hb)
        clear hb st a0 a1 a2 a3 a4 a5 HB1 HM1
        have hrun1 : (Instr.lookup 63 (.map (some w.heap.size)) (.string (upB (rd_T26 xs k).f0)) false).run Tryd.prog w2 = .ok (.int .u8 (kd xs k (upB (rd_T26 xs k).f0))) w2 := by
          rw [← kinds_get]; exact HM2.out.lookup (K := Mp.strKey) Tryd.underlying63 Tryd.underlying9 _ zero23 false
        have hrun2 : (Instr.lookup 63 (.map (some w.heap.size)) (.string (rd_T26 xs k).f5) false).run Tryd.prog w2 = .ok (.int .u8 (kd xs k (rd_T26 xs k).f5)) w2 := by
          rw [← kinds_get]; exact HM2.out.lookup (K := Mp.strKey) Tryd.underlying63 Tryd.underlying9 _ zero23 false
        obtain ⟨o, ho, hrun3, hM3⟩ := HM2.out.update (K := Mp.strKey) Tryd.underlying63 Tryd.underlying9 (rd_T26 xs k).f0 (.int .u8 (rd_T26 xs k).f1)
        have HM3 := Aside0.mk hM3
        have hrun4 : (Instr.mapUpdate 63 (.map (some w.heap.size)) (.string (rd_T26 xs k).f0) (.int .u8 (rd_T26 xs k).f1)).run Tryd.prog w2 = .ok () (w2.putObj w.heap.size o) := hrun3
        clear hM3 hrun3
        by_cases k3 : (upB (rd_T26 xs k).f0).toList ≠ [] ∧ kd xs k (upB (rd_T26 xs k).f0) ≠ 2
        · have HI := Lib.hid (hi.out.trans (chkP_stop hlt (step3 HMay.out H2.out k3) (by decide)))
          have e1 : (upB (rd_T26 xs k).f0).toList.isEmpty = false := by simpa using k3.1
          have e2 : (kd xs k (upB (rd_T26 xs k).f0) != 2) = true := by simpa using k3.2
          clear hi k3
          go_wp2
          go_ret2
          exact ⟨by rw [HI.out]; rfl, HB2.out⟩
        have H3 := Lib.hid k3
        have E3 : ((upB (rd_T26 xs k).f0).toList.isEmpty = false ∧ (kd xs k (upB (rd_T26 xs k).f0) != 2) = false) ∨ (upB (rd_T26 xs k).f0).toList.isEmpty = true := by
          by_cases q : (upB (rd_T26 xs k).f0).toList = []
          · right; simpa using q
          · left; exact ⟨by simpa using q, by simpa using fun h => k3 ⟨q, h⟩⟩
        clear k3
        by_cases k4 : (rd_T26 xs k).f1 = 3 ∧ kd xs k (rd_T26 xs k).f5 ≠ 1
        · have HI := Lib.hid (hi.out.trans (chkP_stop hlt (step4 HMay.out H2.out H3.out k4) (by decide)))
          have e3 : ((rd_T26 xs k).f1 == 3) = true := by simpa using k4.1
          have e4 : (kd xs k (rd_T26 xs k).f5 != 1) = true := by simpa using k4.2
          clear hi k4
          rcases E3 with ⟨e1, e2⟩ | e1
          all_goals
            go_wp2
            go_ret2
            exact ⟨by rw [HI.out]; rfl, HB2.out⟩
        have HI := Lib.hid (hi.out.trans (chkP_go hlt (step5 HMay.out H2.out H3.out k4)))
        have E4 : ((rd_T26 xs k).f1 == 3) = false ∨ (((rd_T26 xs k).f1 == 3) = true ∧ (kd xs k (rd_T26 xs k).f5 != 1) = false) := by
          by_cases q : (rd_T26 xs k).f1 = 3
          · right; exact ⟨by simpa using q, by simpa using fun h => k4 ⟨q, h⟩⟩
          · left; simpa using q
        clear hi k4
        rcases E3 with ⟨e1, e2⟩ | e1 <;> rcases E4 with e3 | ⟨e3, e4⟩
        all_goals
          go_wp2
          go_roundw
          case rel => exact ⟨k + 1, by omega, by go_num, HI, ⟨HB2.out.grown (grownBy_putObj' _ _ _) HB2.out.size (fun j hj => by cases hj; exact Nat.le_refl _)⟩, HM3, ⟨fun _ => by rw [Nat.add_sub_cancel]; exact HMay.out⟩⟩
          case measure => simp [intOf]; omega
    · have HI := Lib.hid (hi.out.trans (chkP_end (by omega)))
      clear hi
      go_wp2
      go_ret2
      exact ⟨by rw [HI.out]; rfl, hB.out⟩
theorem check_tree (A : Option Addr) (c : Nat) (xs : List S26) (w : World) (hr : Kd.C k26 w A xs.length xs) :
    Calls Tryd.prog 13 #[.slice A xs.length c] w fun e w' => e = .returned (.tuple #[.int .i64 (checkP xs).1, .int .i64 (checkP xs).2]) ∧ Below w.heap.size w w' := by
  by_cases h : 256 < xs.length
  · have hd : decide ((256 : Int) < (xs.length : Int)) = true := decide_eq_true (by omega)
    have hd' : decide (256 < xs.length) = true := decide_eq_true (by omega)
    have H := Lib.hid h
    clear h hr
    go_enter Tryd.func13, Tryd.ntmps13
    go_wp2
    go_ret2
    exact ⟨by unfold checkP; rw [if_pos H.out]; rfl, Below.refl _ _⟩
  · unfold checkP
    rw [if_neg h]
    exact check_list A c xs w hr (by omega)
end Go.Proofs.YthpecpkncifngaaDoor.X
end

/- NameJoins: the pure statement. -/
section
namespace Go.Proofs.YthpecpkncifngaaDoor.Pure
open Go.RowKit Go.Proofs.YthpecpkncifngaaDoor.X Go.Proofs.YthpecpkncifngaaDoorW.PrintWords Go.Proofs.YthpecpkncifngaaDoorW.PrintLast Go.Proofs.YthpecpkncifngaaDoorW.PrintMore
open Go.Proofs.YthpecpkncifngaaDoor
theorem join_eq (l : List (List UInt8)) : Lib.join l [47] = Nm.joinT l := by
  induction l with
  | nil => rfl
  | cons x l ih =>
    cases l with
    | nil => simp [Lib.join, List.intercalate, Nm.joinT]
    | cons y r =>
      simp only [Lib.join, List.intercalate, List.intersperse] at ih ⊢
      simp only [Nm.joinT]
      rw [← ih]
      simp
end Go.Proofs.YthpecpkncifngaaDoor.Pure
end

/- Plain words on paths: the order of paths is one, and what is beneath a path stands right behind it. -/
section
namespace Go.Proofs.YthpecpkncifngaaDoor.Nm
theorem bl_irrefl : ∀ x : List UInt8, Op.bytesLess x x = false
  | [] => rfl
  | a :: x => by
    simp only [Op.bytesLess, bl_irrefl x, Bool.and_false, Bool.or_false, decide_eq_false_iff_not]
    exact fun h => by rw [UInt8.lt_iff_toNat_lt] at h; omega
theorem bl_trans : ∀ x y z : List UInt8, Op.bytesLess x y = true → Op.bytesLess y z = true → Op.bytesLess x z = true
  | [], _, [], _, h => by cases ‹List UInt8› <;> simp [Op.bytesLess] at h
  | [], _, _ :: _, _, _ => rfl
  | _ :: _, [], _, h, _ => by simp [Op.bytesLess] at h
  | _ :: _, _ :: _, [], _, h => by simp [Op.bytesLess] at h
  | a :: x, b :: y, c :: z, h1, h2 => by
    simp only [Op.bytesLess, Bool.or_eq_true, decide_eq_true_eq, Bool.and_eq_true, beq_iff_eq] at h1 h2 ⊢
    rcases h1 with h1 | ⟨rfl, h1⟩
    · rcases h2 with h2 | ⟨rfl, h2⟩
      · left; rw [UInt8.lt_iff_toNat_lt] at *; omega
      · left; exact h1
    · rcases h2 with h2 | ⟨rfl, h2⟩
      · left; exact h2
      · right; exact ⟨rfl, bl_trans x y z h1 h2⟩
theorem bl_asymm {x y : List UInt8} (h : Op.bytesLess x y = true) : Op.bytesLess y x = false := by
  cases h2 : Op.bytesLess y x with
  | false => rfl
  | true => have := bl_trans _ _ _ h h2; rw [bl_irrefl] at this; exact this.symm
theorem bl_tri (x y : List UInt8) : x = y ∨ Op.bytesLess x y = true ∨ Op.bytesLess y x = true := by
  cases h1 : Op.bytesLess x y with
  | true => exact .inr (.inl rfl)
  | false =>
    cases h2 : Op.bytesLess y x with
    | true => exact .inr (.inr rfl)
    | false =>
      left
      have := bytesLess_swap x y
      rw [h2, h1] at this
      simpa using this
theorem cmp_cons (x : List UInt8) (a : List (List UInt8)) (y : List UInt8) (b : List (List UInt8)) : cmpL (x :: a) (y :: b) = if x = y then cmpL a b else if Op.bytesLess x y = true then -1 else 1 := by
  simp only [cmpL]
  rcases bl_tri x y with h | h | h
  · subst h; rw [bl_irrefl]; simp
  · rw [if_pos h, if_neg (fun e => by rw [e, bl_irrefl] at h; simp at h), if_pos h]
  · rw [if_neg (by rw [bl_asymm h]; simp), if_pos h, if_neg (fun e => by rw [e, bl_irrefl] at h; simp at h), if_neg (by rw [bl_asymm h]; simp)]
theorem cmp_self : ∀ x : List (List UInt8), cmpL x x = 0
  | [] => rfl
  | x :: a => by rw [cmp_cons, if_pos rfl, cmp_self a]
theorem cmp_vals : ∀ x y : List (List UInt8), cmpL x y = -1 ∨ cmpL x y = 0 ∨ cmpL x y = 1
  | [], [] => .inr (.inl rfl)
  | [], _ :: _ => .inl rfl
  | _ :: _, [] => .inr (.inr rfl)
  | x :: a, y :: b => by
    rw [cmp_cons]
    split
    · exact cmp_vals a b
    · split <;> simp
theorem cmp_lt_trans : ∀ x y z : List (List UInt8), cmpL x y = -1 → cmpL y z = -1 → cmpL x z = -1
  | [], [], _, h, _ => by simp [cmpL] at h
  | _ :: _, [], _, h, _ => by simp [cmpL] at h
  | _, _ :: _, [], _, h => by simp [cmpL] at h
  | [], _ :: _, _ :: _, _, _ => rfl
  | x :: a, y :: b, z :: c, h1, h2 => by
    rw [cmp_cons] at h1 h2 ⊢
    by_cases e1 : x = y
    · rw [if_pos e1] at h1
      subst e1
      by_cases e2 : x = z
      · rw [if_pos e2] at h2 ⊢; exact cmp_lt_trans a b c h1 h2
      · rw [if_neg e2] at h2 ⊢; exact h2
    · rw [if_neg e1] at h1
      have b1 : Op.bytesLess x y = true := by
        cases hb : Op.bytesLess x y with
        | true => rfl
        | false => rw [hb] at h1; simp at h1
      by_cases e2 : y = z
      · subst e2; rw [if_neg e1, if_pos b1]
      · rw [if_neg e2] at h2
        have b2 : Op.bytesLess y z = true := by
          cases hb : Op.bytesLess y z with
          | true => rfl
          | false => rw [hb] at h2; simp at h2
        have b3 := bl_trans _ _ _ b1 b2
        rw [if_neg (fun e => by rw [e, bl_irrefl] at b3; simp at b3), if_pos b3]
end Go.Proofs.YthpecpkncifngaaDoor.Nm
end

/- The reference's Check, told by the same plain words as the program's. -/
section
namespace Go.Proofs.YthpecpkncifngaaDoor.X
open Go.RowKit Go.Shelf Go.Proofs.YthpecpkncifngaaDoor Go.Proofs.YthpecpkncifngaaDoorW.PrintWords Go.Proofs.YthpecpkncifngaaDoorW.PrintLast Go.Proofs.YthpecpkncifngaaDoorW.PrintMore Go.Proofs.YthpecpkncifngaaDoor.Pure
theorem rd_drop (xs : List S26) (i : Nat) (h : i < xs.length) : xs.drop i = rd_T26 xs i :: xs.drop (i + 1) := by
  rw [List.drop_eq_getElem_cons h]
  congr 1
  unfold rd_T26
  rw [Int.toNat_natCast, List.getD_eq_getElem?_getD, List.getElem?_eq_getElem h]
  rfl
theorem mem_take (xs : List S26) (k : Nat) (hk : k ≤ xs.length) (x : S26) : x ∈ xs.take k ↔ ∃ i, i < k ∧ rd_T26 xs i = x := by
  have rd : ∀ i : Nat, (h : i < xs.length) → rd_T26 xs i = xs[i] := fun i h => by
    unfold rd_T26
    rw [Int.toNat_natCast, List.getD_eq_getElem?_getD, List.getElem?_eq_getElem h]; rfl
  rw [List.mem_take_iff_getElem]
  constructor
  · rintro ⟨i, hi, rfl⟩
    exact ⟨i, by omega, rd i (by omega)⟩
  · rintro ⟨i, hi, rfl⟩
    exact ⟨i, by omega, (rd i (by omega)).symm⟩
theorem rises {xs : List S26} {k : Nat} (h : ∀ j, j < k → stepP xs j = 0) : ∀ (j i : Nat), i < j → j < k → Nm.cmpL (Nm.texts (rd_T26 xs i).f0.data.toList) (Nm.texts (rd_T26 xs j).f0.data.toList) = -1 := by
  have one : ∀ j : Nat, j + 1 < k → Nm.cmpL (Nm.texts (rd_T26 xs j).f0.data.toList) (Nm.texts (rd_T26 xs (j + 1 : Nat)).f0.data.toList) = -1 := by
    intro j hj
    have hs := h (j + 1) hj
    have hm : mayP (rd_T26 xs (j + 1 : Nat)) = 0 := by
      by_cases hm : mayP (rd_T26 xs (j + 1 : Nat)) = 0
      · exact hm
      · rw [step1 hm] at hs; exact hs
    by_cases hc : 0 ≤ cmpA xs (j + 1)
    · rw [step2 hm ⟨by omega, hc⟩] at hs; simp at hs
    · unfold cmpA at hc
      rw [Nat.add_sub_cancel] at hc
      rcases Nm.cmp_vals (Nm.texts (rd_T26 xs j).f0.data.toList) (Nm.texts (rd_T26 xs (j + 1 : Nat)).f0.data.toList) with e | e | e <;> omega
  intro j
  induction j with
  | zero => intro i hi; omega
  | succ j ih =>
    intro i hi hj
    rcases Nat.lt_or_ge i j with hlt | hge
    · exact Nm.cmp_lt_trans _ _ _ (ih i hlt (by omega)) (one j hj)
    · obtain rfl : i = j := by omega
      exact one i hj
theorem apart {xs : List S26} {k : Nat} (h : ∀ j, j < k → stepP xs j = 0) {i j : Nat} (hi : i < k) (hj : j < k) (e : (rd_T26 xs i).f0 = (rd_T26 xs j).f0) : i = j := by
  rcases Nat.lt_trichotomy i j with hl | hl | hl
  · have := rises h j i hl hj
    rw [e, Nm.cmp_self] at this; simp at this
  · exact hl
  · have := rises h i j hl hi
    rw [e, Nm.cmp_self] at this; simp at this
theorem kd_some (xs : List S26) (s : ByteArray) (K : Int) (h0 : K ≠ 0) : ∀ k, kd xs k s = K → ∃ i, i < k ∧ (rd_T26 xs i).f0 = s ∧ (rd_T26 xs i).f1 = K
  | 0, h => absurd h.symm h0
  | k + 1, h => by
    simp only [kd] at h
    split at h
    · rename_i hk
      exact ⟨k, by omega, hk, h⟩
    · obtain ⟨i, hi, h1⟩ := kd_some xs s K h0 k h
      exact ⟨i, by omega, h1⟩
end Go.Proofs.YthpecpkncifngaaDoor.X
end

/- The contracts of slices.Clip, tree.own and tree.some. -/
section
namespace Go.Proofs.YthpecpkncifngaaDoor.X
open Go.RowKit Go.Shelf Go.Proofs.YthpecpkncifngaaDoor Go.Proofs.YthpecpkncifngaaDoorW.PrintWords Go.Proofs.YthpecpkncifngaaDoorW.PrintLast Go.Proofs.YthpecpkncifngaaDoorW.PrintMore Go.Proofs.YthpecpkncifngaaDoor.Pure
theorem clip_bytes (A : Option Addr) (n c : Nat) (w : World) (hc : n ≤ c) (hn : c ≤ 9223372036854775807) :
    Calls Tryd.prog 82 #[.slice A n c] w fun e w' => e = .returned (.slice A n n) ∧ w' = w := by
  go_enter Tryd.func82, Tryd.ntmps82
  go_wp2
  go_ret
  exact ⟨rfl, rfl⟩
theorem clip_items (A : Option Addr) (n c : Nat) (w : World) (hc : n ≤ c) (hn : c ≤ 9223372036854775807) :
    Calls Tryd.prog 54 #[.slice A n c] w fun e w' => e = .returned (.slice A n n) ∧ w' = w := by
  go_enter Tryd.func54, Tryd.ntmps54
  go_wp2
  go_ret
  exact ⟨rfl, rfl⟩
theorem cells_grown {W w1 : World} {g t : Nat} {cs : Array Value} (h : W.heap[g]? = some (.cells cs t (0, 0))) (hg : W.grownBy w1 none) : w1.heap[g]? = some (.cells cs t (0, 0)) := blk_grown h hg (by simp)
set_option maxRecDepth 100000 in
set_option maxHeartbeats 4000000 in
theorem own_any (x : S26) (A4 : Option Addr) (c4 : Nat) (w : World) (hl : x.f4.length ≤ c4) (hm : x.f4.length ≤ 140737488355328) (hr : (Kd.int .u8).C w A4 x.f4.length x.f4) :
    Calls Tryd.prog 56 #[.agg (cellsIt x A4 c4)] w fun e w' => (∃ A, e = .returned (.agg (cellsIt x A x.f4.length)) ∧ Kd.F (Kd.int .u8) w' (fun k => w.heap.size ≤ k) A x.f4.length x.f4) ∧ Below w.heap.size w w' := by
  have HR := Aside0.mk hr
  clear hr
  unfold cellsIt
  go_enter Tryd.func56, Tryd.ntmps56
  go_wp2_with (refine Kd.R_append_rows (Kd.int .u8) (w0 := w) w.heap.size rfl _ _ 24 5 (.int .u8 0) 1 rfl Tryd.underlying24 info5 rfl (by decide) (by decide) (.slice none 0 0) [] x.f4 A4 x.f4.length c4 (fun k => w.heap.size + 2 ≤ k) (fun _ => False) rfl rfl (Kd.R_nil _ _ _ _ _) (Kd.C_below HR.out (((Below.refl _ w).alloc (Nat.le_refl _) _).alloc (by simp) _)) (fun _ _ h => h) (fun _ h => h.elim) (fun k h => by simp at h; omega) (((Below.refl _ w).alloc (Nat.le_refl _) _).alloc (by simp) _) (by simp; omega) (by simp; omega) ?_)
  intro v1 w1 hR hB hg hat
  obtain ⟨A, c, rfl, hc, hC⟩ := Kd.R_reads hR
  have hcm : c ≤ 9223372036854775807 := by
    obtain ⟨inner, ho⟩ := Kd.R_own hR
    rcases ho.2 with ⟨he, h0⟩ | ⟨g, cap, cur, he, _, _, _, hcm, _⟩
    · injection he with _ _ e3; omega
    · injection he with _ _ e3; unfold maxLen at hcm; omega
  have k0 : w1.heap[w.heap.size]? = some (.cells #[.string x.f0, .int .u8 x.f1, .int .i64 x.f2, .int .i64 x.f3, .slice A4 x.f4.length c4, .string x.f5] 26 (0, 0)) := by
    refine cells_grown ?_ hg
    exact ((Below.refl _ (w.alloc (.cells #[.string x.f0, .int .u8 x.f1, .int .i64 x.f2, .int .i64 x.f3, .slice A4 x.f4.length c4, .string x.f5] 26))).alloc (Nat.le_refl _) _).block w.heap.size (by simp) |>.trans (blk_new w _)
  have k1 : w1.heap[w.heap.size + 1]? = some (.cells #[.string ⟨#[]⟩, .int .u8 0, .int .i64 0, .int .i64 0, .slice none 0 0, .string ⟨#[]⟩] 26 (0, 0)) := by
    refine cells_grown ?_ hg
    have := blk_new (w.alloc (.cells #[.string x.f0, .int .u8 x.f1, .int .i64 x.f2, .int .i64 x.f3, .slice A4 x.f4.length c4, .string x.f5] 26)) (.cells #[.string ⟨#[]⟩, .int .u8 0, .int .i64 0, .int .i64 0, .slice none 0 0, .string ⟨#[]⟩] 26)
    rw [World.size_alloc] at this
    exact this
  have c00 := (blk_cell k0 0).trans rfl
  have c01 := (blk_cell k0 1).trans rfl
  have c02 := (blk_cell k0 2).trans rfl
  have c03 := (blk_cell k0 3).trans rfl
  have c04 := (blk_cell k0 4).trans rfl
  have c05 := (blk_cell k0 5).trans rfl
  have f04 := blk_frozen k0 4
  have c10 := (blk_cell k1 0).trans rfl
  have c11 := (blk_cell k1 1).trans rfl
  have c12 := (blk_cell k1 2).trans rfl
  have c13 := (blk_cell k1 3).trans rfl
  have c14 := (blk_cell k1 4).trans rfl
  have c15 := (blk_cell k1 5).trans rfl
  have f10 := blk_frozen k1 0
  have f11 := blk_frozen k1 1
  have f12 := blk_frozen k1 2
  have f13 := blk_frozen k1 3
  have f14 := blk_frozen k1 4
  have f15 := blk_frozen k1 5
  have HRR := Aside0.mk hR
  have HB := Aside0.mk hB
  have HG := Aside0.mk hg
  clear hR hB hg hat k0 k1 hC
  go_wp2_with fail
  refine (clip_bytes A x.f4.length c _ hc hcm).mono ?_
  rintro e w2 ⟨rfl, rfl⟩
  go_wp2
  have hF0 := Kd.R_F HRR.out
  have hok0 : ∀ k, w.heap.size + 2 ≤ k → ∀ j, k ≠ (⟨w.heap.size, j, none⟩ : Addr).block := fun k hk j => by simp; omega
  have hok1 : ∀ k, w.heap.size + 2 ≤ k → ∀ j, k ≠ (⟨w.heap.size + 1, j, none⟩ : Addr).block := fun k hk j => by simp; omega
  refine bodyPost_ret (v := .agg #[.string x.f0, .int .u8 x.f1, .int .i64 x.f2, .int .i64 x.f3, .slice A x.f4.length x.f4.length, .string x.f5]) (by simp [results, Tryd.results56, go_sem, c00, c01, c02, c03, c04, c05, c10, c11, c12, c13, c14, c15]) rfl ⟨⟨A, rfl, ?_⟩, ?_⟩
  · refine Kd.F_mono ?_ (fun k (hk : w.heap.size + 2 ≤ k) => (by omega : w.heap.size ≤ k))
    exact Kd.F_far (Kd.F_far (Kd.F_far (Kd.F_far (Kd.F_far (Kd.F_far (Kd.F_far (Kd.F_far hF0 (fun k hk => hok0 k hk 4) _) (fun k hk => hok0 k hk 4) _) (fun k hk => hok1 k hk 0) _) (fun k hk => hok1 k hk 1) _) (fun k hk => hok1 k hk 2) _) (fun k hk => hok1 k hk 3) _) (fun k hk => hok1 k hk 4) _) (fun k hk => hok1 k hk 5) _
  · exact below_set (below_set (below_set (below_set (below_set (below_set (below_set (below_set HB.out (Nat.le_refl _)) (Nat.le_refl _)) (Nat.le_succ _)) (Nat.le_succ _)) (Nat.le_succ _)) (Nat.le_succ _)) (Nat.le_succ _)) (Nat.le_succ _)
theorem N_cap {α : Type} {d : Kd α} {e : Nat} {w : World} {base : Nat} {ok : Nat → Prop} {v : Value} {xs : List α} (h : Kd.N d e w base ok v xs) : ∃ A c, v = .slice A xs.length c ∧ xs.length ≤ c ∧ c ≤ 9223372036854775807 := by
  obtain ⟨A, c, rfl, hc, _⟩ := Kd.N_reads h
  refine ⟨A, c, rfl, hc, ?_⟩
  obtain ⟨_, rows, _, hR, _⟩ := h
  obtain ⟨inner, ho⟩ := Kd.R_own hR
  rcases ho.2 with ⟨he, h0⟩ | ⟨g, cap, cur, he, _, _, _, hcm, _⟩
  · injection he with _ _ e3; omega
  · injection he with _ _ e3; unfold maxLen at hcm; omega
def keepP (p : S26 → Bool) (xs : List S26) : Nat → List S26
  | 0 => []
  | k + 1 => if p (rd_T26 xs k) then keepP p xs k ++ [rd_T26 xs k] else keepP p xs k
theorem keepP_len (p : S26 → Bool) (xs : List S26) (k : Nat) : (keepP p xs k).length ≤ k := by
  induction k with
  | zero => exact Nat.le_refl _
  | succ k ih =>
    simp only [keepP]
    split
    · rw [List.length_append, List.length_singleton]; omega
    · omega
set_option maxRecDepth 100000 in
set_option maxHeartbeats 4000000 in
theorem some_own (g : Nat) (cap : Array Value) (p : S26 → Bool) (A : Option Addr) (c : Nat) (xs : List S26) (w : World) (hr : Kd.C k26 w A xs.length xs) (hm : xs.length * 80 ≤ 140737488351232) (hb4 : ∀ x ∈ xs, x.f4.length ≤ 140737488355328)
    (hcall : ∀ (args : Array Value) (W : World), (callFunc g args).run Tryd.prog W = .ok (.enter g args) W) (hp : Tells g cap p w) :
    Calls Tryd.prog 46 #[.slice A xs.length c, .func (.func g) #[] cap] w fun e w' => (∃ A' c', e = .returned (.slice A' (keepP p xs xs.length).length (keepP p xs xs.length).length) ∧ Kd.N k26 26 w' w.heap.size (fun k => w.heap.size ≤ k) (.slice A' (keepP p xs xs.length).length c') (keepP p xs xs.length)) ∧ Below w.heap.size w w' := by
  have HR := Aside0.mk hr
  have HP := Aside0.mk hp
  have H4 := Aside0.mk hb4
  clear hr hp hb4
  go_enter Tryd.func46, Tryd.ntmps46
  go_wp2
  go_loopw [5, 10] (fun v i wr => ∃ k : Nat, k ≤ xs.length ∧ i = .int .i64 k ∧ Aside0 (Below w.heap.size w wr) ∧ Aside0 (Kd.N k26 26 wr w.heap.size (fun k => w.heap.size ≤ k) v (keepP p xs k))) (fun _ i _ => xs.length - (intOf i).toNat)
  case atStart => exact ⟨0, Nat.zero_le _, rfl, ⟨Below.refl _ _⟩, ⟨Kd.N_nil _ _ _ _ _⟩⟩
  case round =>
    obtain ⟨k, hk, rfl, hB, hN⟩ := hrel
    by_cases hlt : k < xs.length
    · obtain ⟨ad, A4, c4, rfl, h0, h1, h2, h3, h4, h5, hl, hr4⟩ := at_it HR.out hB.out k hlt
      have HR4 := Aside0.mk hr4
      clear hr4
      go_wp2_with fail
      refine (HP.out _ (rd_T26 xs k) A4 c4 (hB.out.trans (((Below.refl _ wr).alloc (Nat.le_refl _) _).mono hB.out.size)) hl (Kd.C_below HR4.out ((Below.refl _ _).alloc (Nat.le_refl _) _))).mono ?_
      rintro e w1 ⟨rfl, hb⟩
      obtain ⟨a0, a1, a2, a3, a4, a5, az⟩ := box_it (rd_T26 xs k) A4 c4 hb
      have hbw := ((Below.refl _ wr).alloc (Nat.le_refl _) (.cells (cellsIt (rd_T26 xs k) A4 c4) 26)).trans (hb.mono (by simp))
      have HB1 := Aside0.mk (hB.out.trans (hbw.mono hB.out.size))
      have HBW := Aside0.mk hbw
      have HN1 := Aside0.mk (Kd.N_below hN.out hbw)
      clear hb hbw h0 h1 h2 h3 h4 h5
      by_cases hpk : p (rd_T26 xs k) = true
      · have HK := Lib.hid hpk
        have HS := Lib.hid (show keepP p xs (k + 1) = keepP p xs k ++ [rd_T26 xs k] by rw [keepP, if_pos hpk])
        rw [hpk]
        clear hpk
        have hm4 : (rd_T26 xs k).f4.length ≤ 140737488355328 := H4.out _ (by unfold rd_T26; rw [Int.toNat_natCast, List.getD_eq_getElem?_getD, List.getElem?_eq_getElem hlt]; exact List.getElem_mem hlt)
        go_wp2_with fail
        refine (own_any (rd_T26 xs k) A4 c4 _ hl hm4 (Kd.C_below HR4.out HBW.out)).mono ?_
        rintro e w2 ⟨⟨A', rfl, hF⟩, hb2⟩
        unfold cellsIt
        have HF := Aside0.mk hF
        have HN2 := Aside0.mk (Kd.N_below HN1.out hb2)
        have HB2 := Aside0.mk (HB1.out.trans (hb2.mono HB1.out.size))
        have hlt1 := HBW.out.size
        have hkl := keepP_len p xs k
        clear hF hb2 a0 a1 a2 a3 a4 a5
        go_wp2_with ((with_reducible refine gate_builtin (b := .append) (xs := #[.tmp 17, .tmp 20]) rfl ?_); at_builtin; refine Kd.N_append k26 (w0 := w) w.heap.size rfl (.tmp 17) (.tmp 20) 22 26 (.agg #[.string ⟨#[]⟩, .int .u8 0, .int .i64 0, .int .i64 0, .slice none 0 0, .string ⟨#[]⟩]) 80 rfl Tryd.underlying22 info26 rfl (by decide) (by decide) _ (keepP p xs k) (rd_T26 xs k) [.string (rd_T26 xs k).f0, .int .u8 (rd_T26 xs k).f1, .int .i64 (rd_T26 xs k).f2, .int .i64 (rd_T26 xs k).f3, .slice A' (rd_T26 xs k).f4.length (rd_T26 xs k).f4.length, .string (rd_T26 xs k).f5] (fun k_ => w.heap.size ≤ k_) (fun k_ => w1.heap.size ≤ k_) rfl rfl (k26_mkF _ _ _ (Nat.le_refl _) HF.out) (fun k_ h => ⟨Nat.le_trans HB1.out.size h, fun e => by have := Kd.N_lt HN1.out k_ e.symm; omega⟩) (fun k_ h => Nat.le_trans HB2.out.size h) HN2.out HB2.out HB2.out.size (by omega) ?_)
        intro v1 w3 hN3 hB3 hg hat
        rw [← HS.out] at hN3
        have HN3 := Aside0.mk hN3
        have HB3 := Aside0.mk hB3
        clear hN3 hB3 hg hat hlt1 hkl
        go_wp2
        go_roundw
        case rel => exact ⟨k + 1, by omega, by go_num, HB3, HN3⟩
        case measure => simp [intOf]; omega
      · have hpk' : p (rd_T26 xs k) = false := by simpa using hpk
        have HS := Lib.hid (show keepP p xs (k + 1) = keepP p xs k by rw [keepP, if_neg hpk])
        rw [hpk']
        clear hpk hpk'
        have hN3 := HN1.out
        rw [← HS.out] at hN3
        have HN3 := Aside0.mk hN3
        clear hN3 a0 a1 a2 a3 a4 a5
        go_wp2
        go_roundw
        case rel => exact ⟨k + 1, by omega, by go_num, HB1, HN3⟩
        case measure => simp [intOf]; omega
    · obtain rfl : k = xs.length := by omega
      obtain ⟨A', c', rfl, hc', hcm'⟩ := N_cap hN.out
      go_wp2_with fail
      refine (clip_items A' (keepP p xs xs.length).length c' _ hc' hcm').mono ?_
      rintro e w2 ⟨rfl, rfl⟩
      go_wp2
      go_ret
      exact ⟨⟨_, _, rfl, hN.out⟩, hB.out⟩
theorem some_clip (g : Nat) (cap : Array Value) (p : S26 → Bool) (A : Option Addr) (c : Nat) (xs : List S26) (w : World) (hr : Kd.C k26 w A xs.length xs) (hm : xs.length * 80 ≤ 140737488351232) (hb4 : ∀ x ∈ xs, x.f4.length ≤ 140737488355328)
    (hcall : ∀ (args : Array Value) (W : World), (callFunc g args).run Tryd.prog W = .ok (.enter g args) W) (hp : Tells g cap p w) :
    Calls Tryd.prog 46 #[.slice A xs.length c, .func (.func g) #[] cap] w fun e w' => (∃ A', e = .returned (.slice A' (keepP p xs xs.length).length (keepP p xs xs.length).length) ∧ Kd.V k26 26 w' w.heap.size (fun k => w.heap.size ≤ k) (.slice A' (keepP p xs xs.length).length (keepP p xs xs.length).length) (keepP p xs xs.length)) ∧ Below w.heap.size w w' := by
  refine (some_own g cap p A c xs w hr hm hb4 hcall hp).mono ?_
  rintro e w1 ⟨⟨A', c', rfl, hN⟩, hb⟩
  exact ⟨⟨_, rfl, Kd.V_mk (Nat.le_refl _) (Kd.N_F hN)⟩, hb⟩
theorem some_any (g : Nat) (cap : Array Value) (p : S26 → Bool) (A : Option Addr) (c : Nat) (xs : List S26) (w : World) (hr : Kd.C k26 w A xs.length xs) (hm : xs.length * 80 ≤ 140737488351232) (hb4 : ∀ x ∈ xs, x.f4.length ≤ 140737488355328)
    (hcall : ∀ (args : Array Value) (W : World), (callFunc g args).run Tryd.prog W = .ok (.enter g args) W) (hp : Tells g cap p w) :
    Calls Tryd.prog 46 #[.slice A xs.length c, .func (.func g) #[] cap] w fun e w' => (∃ v, e = .returned v ∧ Kd.V k26 26 w' w.heap.size (fun k => w.heap.size ≤ k) v (keepP p xs xs.length)) ∧ Below w.heap.size w w' := by
  refine (some_clip g cap p A c xs w hr hm hb4 hcall hp).mono ?_
  rintro e w1 ⟨⟨A', rfl, hV⟩, hb⟩
  exact ⟨⟨_, rfl, hV⟩, hb⟩
end Go.Proofs.YthpecpkncifngaaDoor.X
end

/- The contracts of the law's own lent and kept: a list in memory of its own, with marks behind it and behind each body. -/
section
namespace Go.Proofs.YthpecpkncifngaaDoor.X
open Go.RowKit Go.Shelf Go.Proofs.YthpecpkncifngaaDoor Go.Proofs.YthpecpkncifngaaDoorW.PrintWords Go.Proofs.YthpecpkncifngaaDoorW.PrintLast Go.Proofs.YthpecpkncifngaaDoorW.PrintMore Go.Proofs.YthpecpkncifngaaDoor.Pure
set_option maxRecDepth 100000 in
set_option maxHeartbeats 4000000 in
theorem same_any (A : Option Addr) (c : Nat) (A1 : Option Addr) (c1 : Nat) (xs : List S26) (w : World) (hr : Kd.C k26 w A xs.length xs) (hc : xs.length ≤ c) (hr1 : Kd.C k26 w A1 xs.length xs) (hc1 : xs.length ≤ c1) (hx : xs.length ≤ 140737488355328) :
    Calls Tryd.prog 20 #[.slice A xs.length c, .slice A1 xs.length c1] w fun e w' => e = .returned (.bool true) ∧ Below w.heap.size w w' := by
  have HR := Aside0.mk hr
  have HR1 := Aside0.mk hr1
  clear hr hr1
  go_enter Tryd.func20, Tryd.ntmps20
  go_wp2
  go_loopw [5] (fun i wr => ∃ k : Nat, k ≤ xs.length ∧ i = .int .i64 k ∧ Aside0 (Below w.heap.size w wr)) (fun i _ => xs.length - (intOf i).toNat)
  case atStart => exact ⟨0, Nat.zero_le _, rfl, ⟨Below.refl _ _⟩⟩
  case round =>
    obtain ⟨k, hk, rfl, hB⟩ := hrel
    by_cases hlt : k < xs.length
    · obtain ⟨ad, A4, c4, rfl, h0, h1, h2, h3, h4, h5, hl, hr4⟩ := at_it HR.out hB.out k hlt
      obtain ⟨bd, B4, d4, rfl, g0, g1, g2, g3, g4, g5, gl, gr4⟩ := at_it HR1.out hB.out k hlt
      have lt0 := World.block_lt_of_cell? _ _ g0
      have hbx : Below wr.heap.size wr ((wr.alloc (.cells #[.string (rd_T26 xs k).f0, .int .u8 (rd_T26 xs k).f1, .int .i64 (rd_T26 xs k).f2, .int .i64 (rd_T26 xs k).f3, .slice A4 (rd_T26 xs k).f4.length c4, .string (rd_T26 xs k).f5] 26)).alloc (.cells #[.string (rd_T26 xs k).f0, .int .u8 (rd_T26 xs k).f1, .int .i64 (rd_T26 xs k).f2, .int .i64 (rd_T26 xs k).f3, .slice B4 (rd_T26 xs k).f4.length d4, .string (rd_T26 xs k).f5] 26)) := ((Below.refl _ _).alloc (Nat.le_refl _) _).alloc (by simp) _
      have hcv1 := Kd.C_string (P := Tryd.prog) (A := A4) (c := c4) Tryd.underlying24 Tryd.underlying5 Tryd.underlying9 (Kd.C_below hr4 hbx)
      have hcv2 := Kd.C_string (P := Tryd.prog) (A := B4) (c := d4) Tryd.underlying24 Tryd.underlying5 Tryd.underlying9 (Kd.C_below gr4 hbx)
      have HBX := Aside0.mk (hB.out.trans (hbx.mono hB.out.size))
      clear hr4 gr4 hbx
      go_wp2
      go_roundw
      case rel => exact ⟨k + 1, by omega, by go_num, HBX⟩
      case measure => simp [intOf]; omega
    · go_wp2
      go_ret
      exact ⟨rfl, hB.out⟩
end Go.Proofs.YthpecpkncifngaaDoor.X
end

/- The contracts of tree.Beneath, tree.checked, tree.Without. -/
section
namespace Go.Proofs.YthpecpkncifngaaDoor.X
open Go.RowKit Go.Shelf Go.Proofs.YthpecpkncifngaaDoor Go.Proofs.YthpecpkncifngaaDoorW.PrintWords Go.Proofs.YthpecpkncifngaaDoorW.PrintLast Go.Proofs.YthpecpkncifngaaDoorW.PrintMore Go.Proofs.YthpecpkncifngaaDoor.Pure
theorem ben_any (a p : ByteArray) (w : World) :
    Calls Tryd.prog 48 #[.string a, .string p] w fun e w' => e = .returned (.bool (ben a.data.toList p.data.toList)) ∧ Below w.heap.size w w' :=
  name_Beneath.calls a p _ w (nbeneath a p)
theorem beneath1_tells (root : ByteArray) (B : Nat) (w : World) (hc : w.cell? ⟨B, 0, none⟩ = some (.string root)) : Tells 66 #[.pointer (some ⟨B, 0, none⟩)] (fun x => ben root.data.toList x.f0.data.toList) w := by
  intro W x A4 c4 hB hl hr
  have hb := World.block_lt_of_cell? w _ hc
  have hc' := (hB.cell hb).trans hc
  have hbW : B < W.heap.size := Nat.lt_of_lt_of_le hb hB.size
  clear hc
  unfold cellsIt
  go_enter Tryd.func66, Tryd.ntmps66
  go_wp2_with fail
  refine (ben_any _ _ _).mono ?_
  rintro e w1 ⟨rfl, h1⟩
  go_wp2
  go_ret
  exact ⟨rfl, ((Below.refl _ W).alloc (Nat.le_refl _) _).trans (h1.mono (by simp))⟩
noncomputable def beneathP (xs : List S26) (root : ByteArray) : List S26 := keepP (fun x => ben root.data.toList x.f0.data.toList) xs xs.length
theorem tree_beneath (A : Option Addr) (c : Nat) (xs : List S26) (root : ByteArray) (w : World) (hr : Kd.C k26 w A xs.length xs) (hm : xs.length * 80 ≤ 140737488351232) (hb4 : ∀ x ∈ xs, x.f4.length ≤ 140737488355328) :
    Calls Tryd.prog 28 #[.slice A xs.length c, .string root] w fun e w' => (∃ v, e = .returned v ∧ Kd.V k26 26 w' w.heap.size (fun k => w.heap.size ≤ k) v (beneathP xs root)) ∧ Below w.heap.size w w' := by
  have HR := Aside0.mk hr
  clear hr
  have hB0 : Below w.heap.size w (w.alloc (.cells #[.string root] 9)) := (Below.refl _ w).alloc (Nat.le_refl _) _
  have hcell : (w.alloc (.cells #[.string root] 9)).cell? ⟨w.heap.size, 0, none⟩ = some (.string root) := (cell_new_l w (.string root) 9).1
  have HT := Aside0.mk (beneath1_tells root w.heap.size _ hcell)
  clear hcell
  go_enter Tryd.func28, Tryd.ntmps28
  go_wp2_with fail
  refine (some_any 66 _ _ A c xs _ (Kd.C_below HR.out hB0) hm hb4 (fun args W => by kernel_rfl) HT.out).mono ?_
  rintro e w1 ⟨⟨v, rfl, hV⟩, hb⟩
  have HV := Aside0.mk hV
  clear hV
  go_wp2
  go_ret
  exact ⟨⟨_, rfl, Kd.V_mono HV.out (fun k h => Nat.le_trans hB0.size h)⟩, hB0.trans (hb.mono hB0.size)⟩
theorem checked_any (A : Option Addr) (c : Nat) (xs : List S26) (w : World) (hr : Kd.C k26 w A xs.length xs) :
    Calls Tryd.prog 45 #[.slice A xs.length c] w fun e w' => e = .returned (if (checkP xs).2 = 0 then .tuple #[.slice A xs.length c, .int .i64 0] else .tuple #[.slice none 0 0, .int .i64 (checkP xs).2]) ∧ Below w.heap.size w w' := by
  have HR := Aside0.mk hr
  clear hr
  by_cases h : (checkP xs).2 = 0
  · have hd : ((checkP xs).2 != 0) = false := by simpa using h
    rw [if_pos h]
    have H := Lib.hid h
    clear h
    go_enter Tryd.func45, Tryd.ntmps45
    go_wp2_with fail
    refine (check_tree A c xs _ HR.out).mono ?_
    rintro e w1 ⟨rfl, hb⟩
    go_wp2
    go_ret2
    exact ⟨rfl, hb⟩
  · have hd : ((checkP xs).2 != 0) = true := by simpa using h
    rw [if_neg h]
    have H := Lib.hid h
    clear h
    go_enter Tryd.func45, Tryd.ntmps45
    go_wp2_with fail
    refine (check_tree A c xs _ HR.out).mono ?_
    rintro e w1 ⟨rfl, hb⟩
    go_wp2
    go_ret2
    exact ⟨rfl, hb⟩
noncomputable def outP (path : ByteArray) (x : S26) : Bool := (x.f0.toList != path.toList) && !ben path.data.toList x.f0.data.toList
theorem without1_tells (path : ByteArray) (B : Nat) (w : World) (hc : w.cell? ⟨B, 0, none⟩ = some (.string path)) : Tells 47 #[.pointer (some ⟨B, 0, none⟩)] (outP path) w := by
  intro W x A4 c4 hB hl hr
  have hb := World.block_lt_of_cell? w _ hc
  have hc' := (hB.cell hb).trans hc
  have hbW : B < W.heap.size := Nat.lt_of_lt_of_le hb hB.size
  clear hc
  unfold cellsIt
  by_cases h : (x.f0.toList != path.toList) = true
  · have H := Lib.hid (show outP path x = !ben path.data.toList x.f0.data.toList by unfold outP; rw [h]; rfl)
    have he : (x.f0.toList == path.toList) = false := by simpa using h
    have hp : ¬ (x.f0.toList = path.toList) := by simpa using h
    clear h
    go_enter Tryd.func47, Tryd.ntmps47
    go_wp2_with fail
    refine (ben_any _ _ _).mono ?_
    rintro e w1 ⟨rfl, h1⟩
    go_wp2
    go_ret
    exact ⟨by rw [H.out]; rfl, ((Below.refl _ W).alloc (Nat.le_refl _) _).trans (h1.mono (by simp))⟩
  · have h' : (x.f0.toList != path.toList) = false := by simpa using h
    have H := Lib.hid (show outP path x = false by unfold outP; rw [h']; rfl)
    have he : (x.f0.toList == path.toList) = true := by simpa using h
    have hp : x.f0.toList = path.toList := by simpa using h
    clear h h'
    go_enter Tryd.func47, Tryd.ntmps47
    go_wp2
    go_ret
    exact ⟨by rw [H.out]; rfl, (Below.refl _ W).alloc (Nat.le_refl _) _⟩
noncomputable def withoutP (xs : List S26) (path : ByteArray) : List S26 × Int :=
  if (checkP xs).2 ≠ 0 then ([], (checkP xs).2) else if (findP xs path).2 ≠ 0 then ([], (findP xs path).2) else
  if (checkP (keepP (outP path) xs xs.length)).2 = 0 then (keepP (outP path) xs xs.length, 0) else ([], (checkP (keepP (outP path) xs xs.length)).2)
theorem without_any (A : Option Addr) (c : Nat) (xs : List S26) (path : ByteArray) (w : World) (hr : Kd.C k26 w A xs.length xs) (hm : xs.length * 80 ≤ 140737488351232) (hb4 : ∀ x ∈ xs, x.f4.length ≤ 140737488355328) :
    Calls Tryd.prog 18 #[.slice A xs.length c, .string path] w fun e w' => (∃ v, e = .returned (.tuple #[v, .int .i64 (withoutP xs path).2]) ∧ Kd.V k26 26 w' w.heap.size (fun k => w.heap.size ≤ k) v (withoutP xs path).1) ∧ Below w.heap.size w w' := by
  have HR := Aside0.mk hr
  have H4 := Aside0.mk hb4
  clear hr hb4
  have hB0 : Below w.heap.size w (w.alloc (.cells #[.string path] 9)) := (Below.refl _ w).alloc (Nat.le_refl _) _
  have hcell : (w.alloc (.cells #[.string path] 9)).cell? ⟨w.heap.size, 0, none⟩ = some (.string path) := (cell_new_l w (.string path) 9).1
  have HC := Aside0.mk hcell
  clear hcell
  have hm' : xs.length ≤ 140737488355328 := by omega
  by_cases h1 : (checkP xs).2 = 0
  case neg =>
    have H := Lib.hid (show withoutP xs path = ([], (checkP xs).2) by unfold withoutP; rw [if_pos h1])
    have hd : ((checkP xs).2 != 0) = true := by simpa using h1
    rw [H.out]
    clear h1
    go_enter Tryd.func18, Tryd.ntmps18
    go_wp2_with fail
    refine (check_tree A c xs _ (Kd.C_below HR.out hB0)).mono ?_
    rintro e w1 ⟨rfl, hb⟩
    go_wp2
    go_ret2
    exact ⟨⟨_, rfl, Kd.V_nil _ _ _ _ _⟩, hB0.trans (hb.mono hB0.size)⟩
  have hd : ((checkP xs).2 != 0) = false := by simpa using h1
  by_cases h2 : (findP xs path).2 = 0
  case neg =>
    have H := Lib.hid (show withoutP xs path = ([], (findP xs path).2) by unfold withoutP; rw [if_neg (by simpa using h1), if_pos h2])
    have hd2 : ((findP xs path).2 != 0) = true := by simpa using h2
    rw [H.out]
    clear h1 h2
    go_enter Tryd.func18, Tryd.ntmps18
    go_wp2_with fail
    refine (check_tree A c xs _ (Kd.C_below HR.out hB0)).mono ?_
    rintro e w1 ⟨rfl, hb⟩
    have HB1 := Aside0.mk (hB0.trans (hb.mono hB0.size))
    have hcell := (hb.cell (p := ⟨w.heap.size, 0, none⟩) (by simp)).trans HC.out
    clear hb
    go_wp2_with fail
    refine (find_any A c xs path _ (Kd.C_below HR.out HB1.out) hm').mono ?_
    rintro e w2 ⟨rfl, hb⟩
    go_wp2
    go_ret2
    exact ⟨⟨_, rfl, Kd.V_nil _ _ _ _ _⟩, HB1.out.trans (hb.mono HB1.out.size)⟩
  have hd2 : ((findP xs path).2 != 0) = false := by simpa using h2
  have H := Lib.hid (show withoutP xs path = if (checkP (keepP (outP path) xs xs.length)).2 = 0 then (keepP (outP path) xs xs.length, 0) else ([], (checkP (keepP (outP path) xs xs.length)).2) by unfold withoutP; rw [if_neg (by simpa using h1), if_neg (by simpa using h2)])
  by_cases h3 : (checkP (keepP (outP path) xs xs.length)).2 = 0
  · rw [H.out, if_pos h3]
    have H3 := Lib.hid h3
    clear h1 h2 h3
    go_enter Tryd.func18, Tryd.ntmps18
    go_wp2_with fail
    refine (check_tree A c xs _ (Kd.C_below HR.out hB0)).mono ?_
    rintro e w1 ⟨rfl, hb⟩
    have HB1 := Aside0.mk (hB0.trans (hb.mono hB0.size))
    have hcell := (hb.cell (p := ⟨w.heap.size, 0, none⟩) (by simp)).trans HC.out
    have hlt1 : w.heap.size < w1.heap.size := Nat.lt_of_lt_of_le (by simp) hb.size
    clear hb
    go_wp2_with fail
    refine (find_any A c xs path _ (Kd.C_below HR.out HB1.out) hm').mono ?_
    rintro e w2 ⟨rfl, hb⟩
    have HB2 := Aside0.mk (HB1.out.trans (hb.mono HB1.out.size))
    have HC2 := Aside0.mk ((hb.cell (p := ⟨w.heap.size, 0, none⟩) hlt1).trans hcell)
    clear hb hcell
    go_wp2_with fail
    refine (some_any 47 _ _ A c xs _ (Kd.C_below HR.out HB2.out) hm H4.out (fun args W => by kernel_rfl) (without1_tells path w.heap.size _ HC2.out)).mono ?_
    rintro e w3 ⟨⟨v, rfl, hV⟩, hb⟩
    have HB3 := Aside0.mk (HB2.out.trans (hb.mono HB2.out.size))
    have HV := Aside0.mk (Kd.V_mono hV (fun k h => Nat.le_trans HB2.out.size h))
    clear hV hb HC2 hlt1
    obtain ⟨A', c', rfl⟩ := Kd.V_slice HV.out
    go_wp2_with fail
    refine (checked_any A' c' (keepP (outP path) xs xs.length) _ (Kd.V_reads' HV.out).2.2).mono ?_
    rw [if_pos H3.out]
    rintro e w4 ⟨rfl, hb⟩
    go_wp2
    go_ret2
    exact ⟨⟨_, rfl, Kd.V_below HV.out hb⟩, HB3.out.trans (hb.mono HB3.out.size)⟩
  · rw [H.out, if_neg h3]
    have H3 := Lib.hid h3
    clear h1 h2 h3
    go_enter Tryd.func18, Tryd.ntmps18
    go_wp2_with fail
    refine (check_tree A c xs _ (Kd.C_below HR.out hB0)).mono ?_
    rintro e w1 ⟨rfl, hb⟩
    have HB1 := Aside0.mk (hB0.trans (hb.mono hB0.size))
    have hcell := (hb.cell (p := ⟨w.heap.size, 0, none⟩) (by simp)).trans HC.out
    have hlt1 : w.heap.size < w1.heap.size := Nat.lt_of_lt_of_le (by simp) hb.size
    clear hb
    go_wp2_with fail
    refine (find_any A c xs path _ (Kd.C_below HR.out HB1.out) hm').mono ?_
    rintro e w2 ⟨rfl, hb⟩
    have HB2 := Aside0.mk (HB1.out.trans (hb.mono HB1.out.size))
    have HC2 := Aside0.mk ((hb.cell (p := ⟨w.heap.size, 0, none⟩) hlt1).trans hcell)
    clear hb hcell
    go_wp2_with fail
    refine (some_any 47 _ _ A c xs _ (Kd.C_below HR.out HB2.out) hm H4.out (fun args W => by kernel_rfl) (without1_tells path w.heap.size _ HC2.out)).mono ?_
    rintro e w3 ⟨⟨v, rfl, hV⟩, hb⟩
    have HB3 := Aside0.mk (HB2.out.trans (hb.mono HB2.out.size))
    have HV := Aside0.mk (Kd.V_mono hV (fun k h => Nat.le_trans HB2.out.size h))
    clear hV hb HC2 hlt1
    obtain ⟨A', c', rfl⟩ := Kd.V_slice HV.out
    go_wp2_with fail
    refine (checked_any A' c' (keepP (outP path) xs xs.length) _ (Kd.V_reads' HV.out).2.2).mono ?_
    rw [if_neg H3.out]
    rintro e w4 ⟨rfl, hb⟩
    go_wp2
    go_ret2
    exact ⟨⟨_, rfl, Kd.V_nil _ _ _ _ _⟩, HB3.out.trans (hb.mono HB3.out.size)⟩
end Go.Proofs.YthpecpkncifngaaDoor.X
end

/- TreeWithout: the reference's Find and Without, and the law's walk. -/
section
namespace Go.Proofs.YthpecpkncifngaaDoor.X
open Go.RowKit Go.Shelf Go.Proofs.YthpecpkncifngaaDoor Go.Proofs.YthpecpkncifngaaDoorW.PrintWords Go.Proofs.YthpecpkncifngaaDoorW.PrintLast Go.Proofs.YthpecpkncifngaaDoorW.PrintMore Go.Proofs.YthpecpkncifngaaDoor.Pure
theorem at_itF {w W : World} {A : Option Addr} {n : Nat} {xs : List S26} (h : Kd.C k26 w A n xs) (hb : Below w.heap.size w W) (i : Nat) (h1 : i < n) :
    ∃ ad A4 c4, A = some ad ∧ W.cell? (ad.add (i * 6)) = some (.string (rd_T26 xs i).f0) ∧ W.cell? ⟨(ad.add (i * 6)).block, (ad.add (i * 6)).off + 1, none⟩ = some (.int .u8 (rd_T26 xs i).f1) ∧ W.cell? ⟨(ad.add (i * 6)).block, (ad.add (i * 6)).off + 2, none⟩ = some (.int .i64 (rd_T26 xs i).f2) ∧ W.cell? ⟨(ad.add (i * 6)).block, (ad.add (i * 6)).off + 3, none⟩ = some (.int .i64 (rd_T26 xs i).f3) ∧ W.cell? ⟨(ad.add (i * 6)).block, (ad.add (i * 6)).off + 4, none⟩ = some (.slice A4 (rd_T26 xs i).f4.length c4) ∧ W.cell? ⟨(ad.add (i * 6)).block, (ad.add (i * 6)).off + 5, none⟩ = some (.string (rd_T26 xs i).f5) ∧ (rd_T26 xs i).f4.length ≤ c4 ∧ Kd.F (Kd.int .u8) W (fun k => k < w.heap.size) A4 (rd_T26 xs i).f4.length (rd_T26 xs i).f4 := by
  obtain ⟨ad, A4, c4, e, h0, h1', h2, h3, h4, h5, hl, hr⟩ := at_it h (Below.refl _ w) i h1
  have st : ∀ {a : Addr} {v : Value}, w.cell? a = some v → W.cell? a = some v := fun {a v} hv => (hb.cell (World.block_lt_of_cell? w _ hv)).trans hv
  exact ⟨ad, A4, c4, e, st h0, st h1', st h2, st h3, st h4, st h5, hl, Kd.F_below (Kd.C_F (Kd.heap_int _) hr) hb⟩
end Go.Proofs.YthpecpkncifngaaDoor.X
end

/- Copies and appends of wide elements; a row of one's own that reads foreign elements. No program. -/
section
namespace Go.Proofs.YthpecpkncifngaaDoor.X
open Go Go.RowKit Go.Shelf Go.Proofs.YthpecpkncifngaaDoorW.PrintWords
theorem run_copy_wide {P : Program} (w : World) (dT sT ty elem : TypeId) (sz g o dLen dCap : Nat) (sp : Option Addr) (sLen sCap : Nat) (cur : Array Value) (t : TypeId) (cs : List Value)
    (hu : P.underlying dT = some (.slice elem)) (hs : (P.info? elem).map (·.size) = some sz)
    (hg : w.heap[g]? = some (.cells cur t (0, 0))) (hn : cs.length = Nat.min sLen dLen * sz)
    (hsrc : 0 < cs.length → ∃ ad, sp = some ad ∧ ∀ j v, cs[j]? = some v → w.cell? (ad.add j) = some v) (hfit : o + cs.length ≤ cur.size) (h1 : ∀ v ∈ cs, v.oneCell' = true) :
    (Builtin.copy_ #[dT, sT] ty #[.slice (some ⟨g, o, none⟩) dLen dCap, .slice sp sLen sCap]).run P w =
      .ok (goInt (Nat.min sLen dLen)) (w.setRow g (cur.toList.take o ++ cs ++ cur.toList.drop (o + cs.length)).toArray) := by
  have hst := run_storeCells_at P g o t cs 0 cur w hg (by simpa using hfit) h1
  cases hq : P.info? elem with
  | none => simp [hq] at hs
  | some i =>
    have hi : i.size = sz := by simpa [hq] using hs
    by_cases h0 : cs.length = 0
    · obtain rfl : cs = [] := List.eq_nil_of_length_eq_zero h0
      cases sp with
      | none => simp [Builtin.copy_, run_underlying hu, Builtin.lenOf, Builtin.firstCells, sizeOf, typeInfo, hq, hi] at hst ⊢; simp [hst]
      | some ad =>
        have hl := run_loadCells_list (P := P) w ad [] (fun j v h => by cases h)
        have hn' : Nat.min sLen dLen * sz = 0 := by rw [← hn]; rfl
        simp at hl hst
        simp [Builtin.copy_, run_underlying hu, Builtin.lenOf, Builtin.firstCells, sizeOf, typeInfo, hq, hi, hn', hl, hst]
    · obtain ⟨ad, rfl, hc⟩ := hsrc (by omega)
      have hl := run_loadCells_list (P := P) w ad cs hc
      simp [Builtin.copy_, run_underlying hu, Builtin.lenOf, Builtin.firstCells, sizeOf, typeInfo, hq, hi, ← hn, hl, hst]
theorem F_block {α : Type} {d : Kd α} {W : World} {ok : Nat → Prop} {g t : Nat} {cur : Array Value} {inner pad : List Value} {xs : List α} (hb : W.heap[g]? = some (.cells cur t (0, 0))) (hcur : cur.toList = inner ++ pad)
    (hR : Reps (Kd.FK d W ok) d.sz xs inner) (hg : ok g) (hm : xs.length ≤ 9223372036854775807) : Kd.F d W ok (some ⟨g, 0, none⟩) xs.length xs := by
  intro W' hW
  have hgl : g < W.heap.size := by
    rcases Nat.lt_or_ge g W.heap.size with h | h
    · exact h
    · rw [Array.getElem?_eq_none h] at hb; cases hb
  have hb' : W'.heap[g]? = some (.cells cur t (0, 0)) := (hW g hg hgl).trans hb
  refine ⟨rfl, hm, fun hn => ⟨_, rfl, fun j p hj => ?_⟩⟩
  have hjl : j < xs.length := (List.getElem?_eq_some_iff.1 hj).1
  have hk := hR.2 j p hj W' hW
  refine ⟨(inner.drop (j * d.sz)).take d.sz, d.K_len hk, hk, fun i u hu => ?_⟩
  have hi : i < d.sz := by
    have := (List.getElem?_eq_some_iff.1 hu).1
    rw [List.length_take] at this
    omega
  rw [List.getElem?_take_of_lt hi, List.getElem?_drop] at hu
  have ha : (⟨g, 0, none⟩ : Addr).add (j * d.sz + i) = ⟨g, j * d.sz + i, none⟩ := by rw [Addr.add_lit, Nat.zero_add]
  rw [ha, blk_cell hb']
  have : cur.toList[j * d.sz + i]? = some u := by rw [hcur, List.getElem?_append_left (List.getElem?_eq_some_iff.1 hu).1]; exact hu
  simpa using this
theorem F_inner {α : Type} {d : Kd α} {e : Nat} {W : World} {base : Nat} {ok : Nat → Prop} {ad : Addr} {n c : Nat} {xs : List α} (z : α) (h : Kd.V d e W base ok (.slice (some ad) n c) xs) :
    ∃ inner, Reps (Kd.FK d W ok) d.sz xs inner ∧ ∀ j u, inner[j]? = some u → W.cell? (ad.add j) = some u := by
  have hn := (Kd.V_at h).1
  have key : ∀ m, m ≤ xs.length → ∃ inner, Reps (Kd.FK d W ok) d.sz (xs.take m) inner ∧ ∀ j u, inner[j]? = some u → W.cell? (ad.add j) = some u := by
    intro m
    induction m with
    | zero => exact fun _ => ⟨[], Reps.none _ _, fun j u hu => by simp at hu⟩
    | succ m ih =>
      intro hm
      obtain ⟨inner, hr, hc⟩ := ih (by omega)
      obtain ⟨c', hcl, hK, hcc⟩ := Kd.V_get h z (m : Int) (by omega) (by omega)
      rw [Int.toNat_natCast] at hK hcc
      refine ⟨inner ++ c', ?_, fun j u hu => ?_⟩
      · rw [List.take_add_one, List.getElem?_eq_getElem (by omega)]
        refine Reps.snoc hr ?_ hcl
        rw [List.getD_eq_getElem?_getD, List.getElem?_eq_getElem (by omega)] at hK
        exact hK
      · have hil : inner.length = m * d.sz := by rw [hr.1, List.length_take]; congr 1; omega
        rcases Nat.lt_or_ge j inner.length with hj | hj
        · rw [List.getElem?_append_left hj] at hu; exact hc j u hu
        · rw [List.getElem?_append_right hj] at hu
          have := hcc _ u hu
          rwa [hil, show m * d.sz + (j - m * d.sz) = j by omega] at this
  obtain ⟨inner, hr, hc⟩ := key xs.length (Nat.le_refl _)
  rw [List.take_length] at hr
  exact ⟨inner, hr, hc⟩
theorem Reps.append_ {α : Type} {R : α → List Value → Prop} {size : Nat} {ps qs : List α} {cs ds : List Value} (h : Reps R size ps cs) (h' : Reps R size qs ds) : Reps R size (ps ++ qs) (cs ++ ds) := by
  refine ⟨by rw [List.length_append, List.length_append, h.1, h'.1, Nat.add_mul], fun j p hj => ?_⟩
  rcases Nat.lt_or_ge j ps.length with hlt | hge
  · rw [List.getElem?_append_left hlt] at hj
    have := h.2 j p hj
    have h2 : j * size + size ≤ cs.length := by rw [h.1, ← Nat.succ_mul]; exact Nat.mul_le_mul_right _ hlt
    rw [List.drop_append_of_le_length (by omega), List.take_append_of_le_length (by rw [List.length_drop]; omega)]
    exact this
  · rw [List.getElem?_append_right hge] at hj
    have := h'.2 _ p hj
    have e : j * size = cs.length + (j - ps.length) * size := by rw [h.1, ← Nat.add_mul]; congr 1; omega
    rw [e, List.drop_append, List.drop_eq_nil_of_le (by omega), List.nil_append, Nat.add_sub_cancel_left]
    exact this
theorem Reps.take_ {α : Type} {R : α → List Value → Prop} {size : Nat} {ps : List α} {cs : List Value} (h : Reps R size ps cs) (i : Nat) (hi : i ≤ ps.length) : Reps R size (ps.take i) (cs.take (i * size)) := by
  refine ⟨by rw [List.length_take, List.length_take, h.1, Nat.min_eq_left hi, Nat.min_eq_left (Nat.mul_le_mul_right _ hi)], fun j p hj => ?_⟩
  have hji : j < i := by have := (List.getElem?_eq_some_iff.1 hj).1; rw [List.length_take] at this; omega
  rw [List.getElem?_take_of_lt hji] at hj
  have := h.2 j p hj
  have h2 : j * size + size ≤ i * size := by rw [← Nat.succ_mul]; exact Nat.mul_le_mul_right _ hji
  rw [List.drop_take, List.take_take, Nat.min_eq_left (by omega)]
  exact this
theorem Reps.drop_ {α : Type} {R : α → List Value → Prop} {size : Nat} {ps : List α} {cs : List Value} (h : Reps R size ps cs) (i : Nat) (hi : i ≤ ps.length) : Reps R size (ps.drop i) (cs.drop (i * size)) := by
  refine ⟨by rw [List.length_drop, List.length_drop, h.1, Nat.sub_mul], fun j p hj => ?_⟩
  rw [List.getElem?_drop] at hj
  have := h.2 _ p hj
  rw [Nat.add_mul] at this
  rw [List.drop_drop]
  exact this
theorem Reps.single_ {α : Type} {R : α → List Value → Prop} {size : Nat} {p : α} {c : List Value} (hp : R p c) (hc : c.length = size) : Reps R size [p] c := by
  have := Reps.snoc (Reps.none R size) hp hc
  simpa using this
theorem Reps.one_ {α : Type} {d : Kd α} {W : World} {ok : Nat → Prop} {xs : List α} {inner : List Value} (h : Reps (Kd.FK d W ok) d.sz xs inner) : ∀ v ∈ inner, v.oneCell' = true := by
  intro v hv
  obtain ⟨k, hk, rfl⟩ := List.getElem_of_mem hv
  have hs : 0 < d.sz := by
    rcases Nat.eq_zero_or_pos d.sz with h0 | h0
    · have := h.1; rw [h0, Nat.mul_zero] at this; omega
    · exact h0
  have hkl : k / d.sz < xs.length := by rw [Nat.div_lt_iff_lt_mul hs, ← h.1]; exact hk
  have hK := Kd.FK_now (h.2 (k / d.sz) _ (List.getElem?_eq_getElem hkl))
  refine d.K_one hK _ ?_
  refine List.mem_iff_getElem?.2 ⟨k % d.sz, ?_⟩
  rw [List.getElem?_take_of_lt (Nat.mod_lt _ hs), List.getElem?_drop, Nat.mul_comm, Nat.div_add_mod]
  exact List.getElem?_eq_getElem hk
end Go.Proofs.YthpecpkncifngaaDoor.X
end

/- The contracts of slices.Insert (of one item, into a row without room), tree.byPath, slices.BinarySearchFunc, tree.With. -/
section
namespace Go.Proofs.YthpecpkncifngaaDoor.X
open Go Go.RowKit Go.Shelf Go.Proofs.YthpecpkncifngaaDoor Go.Proofs.YthpecpkncifngaaDoorW.PrintWords Go.Proofs.YthpecpkncifngaaDoorW.PrintLast Go.Proofs.YthpecpkncifngaaDoorW.PrintMore Go.Proofs.YthpecpkncifngaaDoor.Pure
def zIt : Value := .agg #[.string ⟨#[]⟩, .int .u8 0, .int .i64 0, .int .i64 0, .slice none 0 0, .string ⟨#[]⟩]
theorem zero_size (n : Nat) : (Builtin.zeroCells zIt.cells n).size = n * 6 := by
  simp [Builtin.zeroCells, Value.cells, zIt]
set_option maxRecDepth 100000 in
set_option maxHeartbeats 4000000 in
theorem insert_any (A : Option Addr) (i : Nat) (vd : Addr) (xs : List S26) (x : S26) (c : List Value) (base : Nat) (ok : Nat → Prop) (w : World)
    (hV : Kd.V k26 26 w base ok (.slice A xs.length xs.length) xs) (hx : Kd.FK k26 w ok x c) (hcv : ∀ j u, c[j]? = some u → w.cell? (vd.add j) = some u)
    (hi : i ≤ xs.length) (hm : (xs.length + 1) * 80 ≤ 140737488355328) :
    Calls Tryd.prog 55 #[.slice A xs.length xs.length, .int .i64 i, .slice (some vd) 1 1] w fun e w' => (∃ g G, e = .returned (.slice (some ⟨g, 0, none⟩) (xs.length + 1) G) ∧ xs.length + 1 ≤ G ∧ G ≤ 9223372036854775807 ∧ Kd.F k26 w' (fun k => ok k ∨ w.heap.size ≤ k) (some ⟨g, 0, none⟩) (xs.length + 1) (xs.take i ++ [x] ++ xs.drop i)) ∧ Below w.heap.size w w' := by
  obtain ⟨i0, hi0, hz0, hzs, hzb⟩ := info_parts info26
  have hsz : (Tryd.prog.info? 26).map (·.size) = some 6 := by rw [hi0]; simp [hzs]
  have hcl : c.length = 6 := k26.K_len (Kd.FK_now hx)
  have hc1 : ∀ v ∈ c, v.oneCell' = true := k26.K_one (Kd.FK_now hx)
  have hvw : vd.block < w.heap.size := World.block_lt_of_cell? w _ (by have := hcv 0 _ (List.getElem?_eq_getElem (by omega)); exact this)
  obtain ⟨inner, hR, hrd⟩ : ∃ inner, Reps (Kd.FK k26 w ok) 6 xs inner ∧ (0 < inner.length → ∃ ad, A = some ad ∧ ∀ j u, inner[j]? = some u → w.cell? (ad.add j) = some u) := by
    cases A with
    | none =>
      have h0 : xs.length = 0 := by
        rcases Nat.eq_zero_or_pos xs.length with h | h
        · exact h
        · obtain ⟨ad, e, _⟩ := (Kd.V_reads' hV).2.2.2.2 h; cases e
      obtain rfl : xs = [] := List.eq_nil_of_length_eq_zero h0
      exact ⟨[], Reps.none _ _, fun h => by simp at h⟩
    | some ad =>
      obtain ⟨inner, hR, hc⟩ := F_inner (⟨⟨#[]⟩, 0, 0, 0, [], ⟨#[]⟩⟩ : S26) hV
      exact ⟨inner, hR, fun _ => ⟨ad, rfl, hc⟩⟩
  have hil : inner.length = xs.length * 6 := hR.1
  have h1i : ∀ v ∈ inner, v.oneCell' = true := Reps.one_ (d := k26) hR
  have hold : ∀ m, m ≤ xs.length → (Builtin.firstCells i0.size m (.slice A m xs.length)).run Tryd.prog w.drew = .ok (inner.take (m * 6)).toArray w.drew := fun m hm => by
    rw [hzs]
    rcases Nat.eq_zero_or_pos m with h0 | h0
    · subst h0
      cases A with
      | none => rw [run_firstCells_none]; simp
      | some ad => exact run_firstCells_some w.drew 6 0 ad 0 _ (inner.take (0 * 6)) (by simp) (fun j v hj => by simp at hj)
    · obtain ⟨ad, rfl, hc⟩ := hrd (by omega)
      exact run_firstCells_some w.drew 6 m ad m _ (inner.take (m * 6)) (by rw [List.length_take]; omega) (fun j v hj => by
        rw [List.getElem?_take] at hj
        split at hj
        · exact hc j v hj
        · cases hj)
  obtain ⟨G, hG⟩ : ∃ G, G = grownCap w (xs.length + 1) xs.length 26 := ⟨_, rfl⟩
  have hGn : xs.length + 1 ≤ G := by rw [hG]; exact grownCap_ge w _ _ _
  have hG63 : G ≤ 9223372036854775807 := by
    have := grownCap_le_maxLen w (xs.length + 1) xs.length 26 (by unfold maxLen; omega)
    rw [← hG] at this
    unfold maxLen at this
    omega
  have hfr : w.heap.size < (w.drew.alloc (.cells #[] 0)).heap.size := by simp
  by_cases hin : i = xs.length
  · subst hin
    obtain ⟨W1, cur, pad, hW1, hB1, hcur, hrz⟩ : ∃ W1 cur pad, W1.heap[w.heap.size]? = some (.cells cur 26 (0, 0)) ∧ Below w.heap.size w W1 ∧ cur.toList = (inner ++ c) ++ pad ∧ ∀ ty, (Builtin.append_ #[22, 22] ty #[.slice A xs.length xs.length, .slice (some vd) 1 1]).run Tryd.prog w = .ok (.slice (some ⟨w.heap.size, 0, none⟩) (xs.length + 1) G) W1 := by
      refine ⟨w.drew.alloc (.cells ((inner ++ c).toArray ++ Builtin.zeroCells zIt.cells (G - (xs.length + 1))) 26), _, (Builtin.zeroCells zIt.cells (G - (xs.length + 1))).toList, blk_new w.drew _, (below_drew (Below.refl _ _)).alloc (by simp) _, by simp, fun ty => ?_⟩
      rw [hG]
      have hs : Src Tryd.prog i0.size 22 (.slice (some vd) 1 1) 1 c w := Src.ofSlice w Tryd.underlying22 vd 1 1 c (by rw [hzs]; omega) hcv hc1
      have := run_append_grow_src w 22 22 ty 26 i0 _ Tryd.underlying22 hi0 hz0 A xs.length xs.length inner (by have := hold xs.length (Nat.le_refl _); rwa [List.take_of_length_le (by omega)] at this) (.slice (some vd) 1 1) 1 c hs (by omega) (by omega) (by rw [hzb]; exact growslice_fits (by omega) hm)
      exact this
    have HF := Aside0.mk (show Kd.F k26 W1 (fun k => ok k ∨ w.heap.size ≤ k) (some ⟨w.heap.size, 0, none⟩) (xs ++ [x]).length (xs ++ [x]) from F_block hW1 hcur (Reps.append_ (hR.imp_ (fun p c hp => Kd.FK_mono (Kd.FK_below hp hB1) (fun k hk => .inl hk))) (Reps.single_ (Kd.FK_mono (Kd.FK_below hx hB1) (fun k hk => .inl hk)) hcl)) (.inr (Nat.le_refl _)) (by rw [List.length_append, List.length_singleton]; omega))
    have HB := Aside0.mk hB1
    clear hold hrd hR h1i hcv hx hV hcur hW1 hB1 hG hfr
    go_enter Tryd.func55, Tryd.ntmps55
    go_wp2_with (at_builtin; refine Lib.wpList_append_run _ rfl _ _ _ _ rfl _ _ rfl rfl _ _ (hrz _) ?_)
    go_ret
    refine ⟨⟨w.heap.size, G, rfl, hGn, hG63, ?_⟩, HB.out⟩
    have := HF.out
    rw [List.length_append, List.length_singleton] at this
    rw [List.take_length, List.drop_length, List.append_nil]
    exact this
  · have hlt : i < xs.length := by omega
    obtain ⟨ad, rfl, hc⟩ := hrd (by omega)
    have hbw : ad.block < w.heap.size := World.block_lt_of_cell? w _ (hc 0 _ (List.getElem?_eq_getElem (by omega)))
    obtain ⟨W1, cur1, Z, hW1, hB1, hcur1, hZ, hrz⟩ : ∃ W1 cur1 Z, W1.heap[w.heap.size]? = some (.cells cur1 26 (0, 0)) ∧ Below w.heap.size w W1 ∧ cur1.toList = inner.take (i * 6) ++ Z ∧ (xs.length + 1 - i) * 6 ≤ Z.length ∧ ∀ ty, (Builtin.append_ #[22, 3] ty #[.slice (some ad) i xs.length, .int .i64 ((xs.length : Int) + 1 - (i : Int))]).run Tryd.prog w = .ok (.slice (some ⟨w.heap.size, 0, none⟩) (xs.length + 1) G) W1 := by
      refine ⟨w.drew.alloc (.cells ((inner.take (i * 6)).toArray ++ Builtin.zeroCells zIt.cells (xs.length + 1 - i) ++ Builtin.zeroCells zIt.cells (G - (xs.length + 1))) 26), _, (Builtin.zeroCells zIt.cells (xs.length + 1 - i)).toList ++ (Builtin.zeroCells zIt.cells (G - (xs.length + 1))).toList, blk_new w.drew _, (below_drew (Below.refl _ _)).alloc (by simp) _, by simp, by have z1 := zero_size (xs.length + 1 - i); rw [← Array.length_toList] at z1; rw [List.length_append]; omega, fun ty => ?_⟩
      rw [hG]
      have hik : i + (xs.length + 1 - i) = xs.length + 1 := by omega
      have h := Lib.run_append_grow_zeros w 22 3 ty 26 i0 _ .i64 .i64 Tryd.underlying22 Tryd.underlying3 hi0 hz0 (some ad) i xs.length (inner.take (i * 6)) (by
        rw [hzs]
        exact run_firstCells_some w.drew 6 i ad i _ (inner.take (i * 6)) (by rw [List.length_take]; omega) (fun j v hj => by
          rw [List.getElem?_take] at hj
          split at hj
          · exact hc j v hj
          · cases hj)) (xs.length + 1 - i) (by omega) (by omega) (by omega) (by omega) (by rw [hzb]; omega) (by rw [hzb, hik]; exact growslice_fits (by omega) hm)
      rw [hik] at h
      rw [show (xs.length : Int) + 1 - (i : Int) = ((xs.length + 1 - i : Nat) : Int) by omega]
      exact h
    have hil2 : (inner.take (i * 6)).length = i * 6 := by rw [List.length_take]; omega
    -- the one copied
    obtain ⟨W2, cur2, hW2, hB2, hcur2, hcpA⟩ : ∃ W2 cur2, W2.heap[w.heap.size]? = some (.cells cur2 26 (0, 0)) ∧ Below w.heap.size w W2 ∧ cur2.toList = inner.take (i * 6) ++ c ++ Z.drop 6 ∧ ∀ ty dc, (Builtin.copy_ #[22, 22] ty #[.slice (some ⟨w.heap.size, i * 6, none⟩) (xs.length + 1 - i) dc, .slice (some vd) 1 1]).run Tryd.prog W1 = .ok (.int .i64 1) W2 := by
      have hmin : Nat.min 1 (xs.length + 1 - i) = 1 := by simp only [Nat.min_def]; split <;> omega
      have hfit : i * 6 + c.length ≤ cur1.size := by rw [← Array.length_toList, hcur1, List.length_append]; omega
      refine ⟨W1.setRow w.heap.size (cur1.toList.take (i * 6) ++ c ++ cur1.toList.drop (i * 6 + c.length)).toArray, _, setRow_heap W1 w.heap.size cur1 _ _ _ hW1, below_setRow hB1 (Nat.le_refl _) _, ?_, fun ty dc => ?_⟩
      · rw [hcur1, List.take_append_of_le_length (by omega), List.take_of_length_le (by omega), List.drop_append, List.drop_eq_nil_of_le (by omega), List.nil_append, hil2, hcl]
        simp
      · have := run_copy_wide W1 22 22 ty 26 6 w.heap.size (i * 6) (xs.length + 1 - i) dc (some vd) 1 1 cur1 26 c Tryd.underlying22 hsz hW1 (by rw [hmin]; omega) (fun _ => ⟨vd, rfl, fun j v hj => (hB1.cell (World.block_lt_of_cell? w _ (hcv j v hj))).trans (hcv j v hj)⟩) hfit hc1
        rw [hmin] at this
        exact this
    obtain ⟨W3, cur3, pad, hW3, hB3, hcur3, hcpB⟩ : ∃ W3 cur3 pad, W3.heap[w.heap.size]? = some (.cells cur3 26 (0, 0)) ∧ Below w.heap.size w W3 ∧ cur3.toList = (inner.take (i * 6) ++ c ++ inner.drop (i * 6)) ++ pad ∧ ∀ ty dc sc, (Builtin.copy_ #[22, 22] ty #[.slice (some ⟨w.heap.size, (i + 1) * 6, none⟩) (xs.length + 1 - (i + 1)) dc, .slice (some (ad.add (i * 6))) (xs.length - i) sc]).run Tryd.prog W2.drew = .ok (.int .i64 ((xs.length - i : Nat) : Int)) W3 := by
      have hmin : Nat.min (xs.length - i) (xs.length + 1 - (i + 1)) = xs.length - i := by simp only [Nat.min_def]; split <;> omega
      have hdl : (inner.drop (i * 6)).length = (xs.length - i) * 6 := by rw [List.length_drop]; omega
      have hfit : (i + 1) * 6 + (inner.drop (i * 6)).length ≤ cur2.size := by rw [← Array.length_toList, hcur2]; simp only [List.length_append, List.length_drop]; omega
      refine ⟨W2.drew.setRow w.heap.size (cur2.toList.take ((i + 1) * 6) ++ inner.drop (i * 6) ++ cur2.toList.drop ((i + 1) * 6 + (inner.drop (i * 6)).length)).toArray, _, cur2.toList.drop ((i + 1) * 6 + (inner.drop (i * 6)).length), setRow_heap W2.drew w.heap.size cur2 _ _ _ hW2, below_setRow (below_drew hB2) (Nat.le_refl _) _, ?_, fun ty dc sc => ?_⟩
      · rw [show cur2.toList.take ((i + 1) * 6) = inner.take (i * 6) ++ c by rw [hcur2, List.take_append_of_le_length (by rw [List.length_append]; omega), List.take_of_length_le (by rw [List.length_append]; omega)]]
      · have := run_copy_wide W2.drew 22 22 ty 26 6 w.heap.size ((i + 1) * 6) (xs.length + 1 - (i + 1)) dc (some (ad.add (i * 6))) (xs.length - i) sc cur2 26 (inner.drop (i * 6)) Tryd.underlying22 hsz hW2 (by rw [hmin]; exact hdl) (fun _ => ⟨_, rfl, fun j v hj => by
          rw [List.getElem?_drop] at hj
          have h := hc _ v hj
          rw [Addr.add_add]
          refine ((below_drew hB2).cell ?_).trans h
          exact World.block_lt_of_cell? w _ h⟩) hfit (fun v hv => h1i v (List.mem_of_mem_drop hv))
        rw [hmin] at this
        exact this
    have mv : ∀ {p : S26} {c : List Value}, Kd.FK k26 w ok p c → Kd.FK k26 W3 (fun k => ok k ∨ w.heap.size ≤ k) p c := fun h => Kd.FK_mono (Kd.FK_below h hB3) (fun k hk => .inl hk)
    have HF := Aside0.mk (show Kd.F k26 W3 (fun k => ok k ∨ w.heap.size ≤ k) (some ⟨w.heap.size, 0, none⟩) (xs.take i ++ [x] ++ xs.drop i).length (xs.take i ++ [x] ++ xs.drop i) from F_block hW3 hcur3 (Reps.append_ (Reps.append_ (Reps.take_ (hR.imp_ (fun p c hp => mv hp)) i hi) (Reps.single_ (mv hx) hcl)) (Reps.drop_ (hR.imp_ (fun p c hp => mv hp)) i hi)) (.inr (Nat.le_refl _)) (by simp; omega))
    have HB := Aside0.mk hB3
    clear hold hR h1i hcv hx hV hcur1 hW1 hB1 hG hfr hcur2 hW2 hB2 hcur3 hW3 hB3 mv hrd hc hZ
    go_enter Tryd.func55, Tryd.ntmps55
    go_wp2_with (first
      | (at_builtin; refine Lib.wpList_append_run _ rfl _ _ _ _ rfl _ _ rfl rfl _ _ (hrz _) ?_)
      | (at_builtin; refine wpList_copy_runI _ rfl _ _ 22 22 rfl _ _ rfl rfl (hcpA _ _) ?_))
    have hw1 : IntKind.i64.wrap ((i : Int) + 1) = (i : Int) + 1 := by rw [IntKind.wrap_i64]; omega
    have hb1 : (0 : Int) ≤ (i : Int) + 1 := by omega
    have htn : ((i : Int) + 1).toNat = i + 1 := by omega
    have hb2 : (i : Int) + 1 ≤ (xs.length : Int) + 1 := by omega
    have hb3 : (i : Int) ≤ (xs.length : Int) := by omega
    have hci : ¬ (xs.length = i) := by omega
    have hGim : ¬ (G = i + 1) := by omega
    have mixed : Tryd.prog.follows Departure.mixedOrders = true := by kernel_rfl
    go_region_law_o (refine step_copy_runI rfl _ _ 22 22 rfl (.slice (some ⟨w.heap.size, (i + 1) * 6, none⟩) (xs.length + 1 - (i + 1)) (G - (i + 1))) (.slice (some (ad.add (i * 6))) (xs.length - i) (xs.length - i)) (by simp [Act.eval, Act.put]) (by simp [Act.eval, Act.put]) (hcpB 3 (G - (i + 1)) (xs.length - i)) ?_)
    go_wp2
    go_ret
    refine ⟨⟨w.heap.size, G, rfl, hGn, hG63, ?_⟩, HB.out⟩
    have := HF.out
    rw [show (xs.take i ++ [x] ++ xs.drop i).length = xs.length + 1 by simp; omega] at this
    exact this
end Go.Proofs.YthpecpkncifngaaDoor.X
end

/- The contracts of tree.byPath, slices.BinarySearchFunc. -/
section
namespace Go.Proofs.YthpecpkncifngaaDoor.X
open Go Go.RowKit Go.Shelf Go.Proofs.YthpecpkncifngaaDoor Go.Proofs.YthpecpkncifngaaDoorW.PrintWords Go.Proofs.YthpecpkncifngaaDoorW.PrintLast Go.Proofs.YthpecpkncifngaaDoorW.PrintMore Go.Proofs.YthpecpkncifngaaDoor.Pure
def cmpI (x y : S26) : Int := Nm.cmpL (Nm.texts x.f0.data.toList) (Nm.texts y.f0.data.toList)
theorem bypath_any (x y : S26) (A4 B4 : Option Addr) (c4 d4 : Nat) (w : World) (hx : x.f0.size ≤ 140737488355328) (hy : y.f0.size ≤ 140737488355328) :
    Calls Tryd.prog 53 #[.agg (cellsIt x A4 c4), .agg (cellsIt y B4 d4)] w fun e w' => e = .returned (.int .i64 (cmpI x y)) ∧ Below w.heap.size w w' := by
  unfold cellsIt
  go_enter Tryd.func53, Tryd.ntmps53
  go_wp2_with fail
  refine (compare_any _ _ _ hx hy).mono ?_
  rintro e w1 ⟨rfl, n, rfl⟩
  go_wp2
  go_ret
  exact ⟨rfl, pw_below_drewN (((Below.refl _ w).alloc (Nat.le_refl _) _).alloc (by simp) _) _⟩
def posP (xs : List S26) (y : S26) : Nat := xs.countP (fun x => decide (cmpI x y < 0))
theorem rd_get (xs : List S26) (k : Nat) (h : k < xs.length) : rd_T26 xs k = xs[k] := by
  unfold rd_T26
  rw [Int.toNat_natCast, List.getD_eq_getElem?_getD, List.getElem?_eq_getElem h]; rfl
theorem posP_eq (y : S26) : ∀ (xs : List S26) (i : Nat), i ≤ xs.length → (∀ t, t < i → cmpI (rd_T26 xs t) y < 0) → (∀ t, i ≤ t → t < xs.length → 0 ≤ cmpI (rd_T26 xs t) y) → posP xs y = i
  | [], i, hi, _, _ => by simp at hi; simp [hi, posP]
  | a :: r, 0, _, _, h2 => by
    unfold posP
    rw [List.countP_eq_zero]
    intro x hx
    obtain ⟨t, ht, rfl⟩ := List.getElem_of_mem hx
    have := h2 t (Nat.zero_le _) ht
    rw [rd_get _ _ ht] at this
    simpa using this
  | a :: r, i + 1, hi, h1, h2 => by
    have ha : cmpI a y < 0 := by have := h1 0 (Nat.succ_pos _); rwa [rd_get (a :: r) 0 (by simp)] at this
    have ih := posP_eq y r i (by simpa using hi) (fun t ht => by
      have := h1 (t + 1) (by omega)
      have hl : t < r.length := by simp at hi; omega
      rw [rd_get (a :: r) (t + 1) (by simpa using hl)] at this
      rw [rd_get r t hl]; simpa using this) (fun t h3 h4 => by
      have := h2 (t + 1) (by omega) (by simpa using h4)
      rw [rd_get (a :: r) (t + 1) (by simpa using h4)] at this
      rw [rd_get r t h4]; simpa using this)
    unfold posP at ih ⊢
    rw [List.countP_cons_of_pos (by simpa using ha), ih]
set_option maxRecDepth 100000 in
set_option maxHeartbeats 4000000 in
theorem bsearch_any (A : Option Addr) (c : Nat) (xs : List S26) (y : S26) (B4 : Option Addr) (d4 : Nat) (w : World) (hr : Kd.C k26 w A xs.length xs) (hm : xs.length ≤ 140737488355328)
    (hx : ∀ k : Nat, k < xs.length → (rd_T26 xs k).f0.size ≤ 140737488355328) (hy : y.f0.size ≤ 140737488355328)
    (hmono : ∀ a b : Nat, a ≤ b → b < xs.length → cmpI (rd_T26 xs b) y < 0 → cmpI (rd_T26 xs a) y < 0) :
    Calls Tryd.prog 52 #[.slice A xs.length c, .agg (cellsIt y B4 d4), .func (.func 53) #[] #[]] w fun e w' => (∃ b, e = .returned (.tuple #[.int .i64 (posP xs y), .bool b])) ∧ Below w.heap.size w w' := by
  have HR := Aside0.mk hr
  have HX := Aside0.mk hx
  have M := Aside0.mk hmono
  clear hr hx hmono
  generalize hcnt : posP xs y = cnt
  have CN := Lib.hid hcnt
  clear hcnt
  have hB0 : Below w.heap.size w (w.alloc (.cells (cellsIt y B4 d4) 26)) := (Below.refl _ w).alloc (Nat.le_refl _) _
  obtain ⟨wb, hwb⟩ : ∃ wb, wb = w.alloc (.cells (cellsIt y B4 d4) 26) := ⟨_, rfl⟩
  have hbx := box_it y B4 d4 (w := w) (w1 := wb) (by rw [hwb]; exact Below.refl _ _)
  obtain ⟨b0, b1, b2, b3, b4, b5, bz⟩ := hbx
  have BX := Aside0.mk (And.intro b0 (And.intro b1 (And.intro b2 (And.intro b3 (And.intro b4 b5)))))
  clear b0 b1 b2 b3 b4 b5
  have HB0 := Aside0.mk hB0
  clear hB0
  rw [← hwb] at HB0
  have HWB := Lib.hid hwb
  have hcall : ∀ (args : Array Value) (W : World), (callFunc 53 args).run Tryd.prog W = .ok (.enter 53 args) W := fun args W => by kernel_rfl
  unfold cellsIt at hwb
  unfold cellsIt
  go_enter Tryd.func52, Tryd.ntmps52
  go_wp2
  rw [← hwb]
  clear hwb
  have mixed : Tryd.prog.follows Departure.mixedOrders = true := by kernel_rfl
  go_loopg [9, 10] xs.length (fun kx s9 s10 wr => ∃ lo hi : Nat, s9 = .int .i64 lo ∧ s10 = .int .i64 hi ∧ lo ≤ hi ∧ hi ≤ xs.length ∧ hi - lo ≤ kx ∧ Aside0 (Below wb.heap.size wb wr) ∧
    Aside0 ((∀ t, t < lo → cmpI (rd_T26 xs t) y < 0) ∧ (∀ t, hi ≤ t → t < xs.length → 0 ≤ cmpI (rd_T26 xs t) y)))
  case atStart => exact ⟨0, xs.length, rfl, rfl, Nat.zero_le _, Nat.le_refl _, by omega, ⟨Below.refl _ _⟩, ⟨⟨fun t ht => absurd ht (Nat.not_lt_zero _), fun t h1 h2 => by omega⟩⟩⟩
  case round =>
    obtain ⟨lo, hi, rfl, rfl, hlh, hin, hg, hB, I⟩ := hrel
    have hBx := Aside0.mk (HB0.out.trans (hB.out.mono HB0.out.size))
    have st : ∀ {j : Nat} {v : Value}, wb.cell? ⟨w.heap.size, j, none⟩ = some v → wr.cell? ⟨w.heap.size, j, none⟩ = some v := fun {j v} hv => (hB.out.cell (p := ⟨w.heap.size, j, none⟩) bz).trans hv
    have b0 := st BX.out.1
    have b1 := st BX.out.2.1
    have b2 := st BX.out.2.2.1
    have b3 := st BX.out.2.2.2.1
    have b4 := st BX.out.2.2.2.2.1
    have b5 := st BX.out.2.2.2.2.2
    clear st
    by_cases hlt : lo < hi
    · obtain ⟨ad, A4, c4, rfl, h0, h1, h2, h3, h4, h5, hl, hr4⟩ := at_it HR.out hBx.out ((lo + hi) / 2) (by omega)
      have hsx := HX.out ((lo + hi) / 2) (by omega)
      have i1 : (0 : Int) ≤ ((lo : Int) + (hi : Int)) / 2 := by omega
      have i2 : ((lo : Int) + (hi : Int)) / 2 < (xs.length : Int) := by omega
      have i3 : (((lo : Int) + (hi : Int)) / 2).toNat = (lo + hi) / 2 := by omega
      obtain ⟨x, hxk⟩ : ∃ x, x = rd_T26 xs ((lo + hi) / 2 : Nat) := ⟨_, rfl⟩
      rw [← hxk] at h0 h1 h2 h3 h4 h5 hl hsx
      have HXK := Lib.hid hxk
      clear hxk
      have HXC := Aside0.mk (And.intro h0 (And.intro h1 (And.intro h2 (And.intro h3 (And.intro h4 h5)))))
      by_cases hyx : cmpI x y < 0
      · have I2 := Aside0.mk (show (∀ t, t < (lo + hi) / 2 + 1 → cmpI (rd_T26 xs t) y < 0) ∧ (∀ t, hi ≤ t → t < xs.length → 0 ≤ cmpI (rd_T26 xs t) y) from ⟨fun t ht => M.out t ((lo + hi) / 2) (by omega) (by omega) (by rw [← HXK.out]; exact hyx), I.out.2⟩)
        have hd : decide (cmpI x y < 0) = true := decide_eq_true hyx
        clear hyx I
        go_wp2
        have hBn : Below wr.heap.size wr wr.drew := below_drew (Below.refl _ _)
        go_region_held3 (fun W => Below wr.heap.size wr W ∧ W.cell? (ad.add ((lo + hi) / 2 * 6)) = some (.string x.f0) ∧ W.cell? ⟨(ad.add ((lo + hi) / 2 * 6)).block, (ad.add ((lo + hi) / 2 * 6)).off + 1, none⟩ = some (.int .u8 x.f1) ∧ W.cell? ⟨(ad.add ((lo + hi) / 2 * 6)).block, (ad.add ((lo + hi) / 2 * 6)).off + 2, none⟩ = some (.int .i64 x.f2) ∧ W.cell? ⟨(ad.add ((lo + hi) / 2 * 6)).block, (ad.add ((lo + hi) / 2 * 6)).off + 3, none⟩ = some (.int .i64 x.f3) ∧ W.cell? ⟨(ad.add ((lo + hi) / 2 * 6)).block, (ad.add ((lo + hi) / 2 * 6)).off + 4, none⟩ = some (.slice A4 x.f4.length c4) ∧ W.cell? ⟨(ad.add ((lo + hi) / 2 * 6)).block, (ad.add ((lo + hi) / 2 * 6)).off + 5, none⟩ = some (.string x.f5) ∧ W.cell? ⟨w.heap.size, 0, none⟩ = some (.string y.f0) ∧ W.cell? ⟨w.heap.size, 1, none⟩ = some (.int .u8 y.f1) ∧ W.cell? ⟨w.heap.size, 2, none⟩ = some (.int .i64 y.f2) ∧ W.cell? ⟨w.heap.size, 3, none⟩ = some (.int .i64 y.f3) ∧ W.cell? ⟨w.heap.size, 4, none⟩ = some (.slice B4 y.f4.length d4) ∧ W.cell? ⟨w.heap.size, 5, none⟩ = some (.string y.f5))
          (exact ⟨hBn, (hBn.cell (World.block_lt_of_cell? wr _ HXC.out.1)).trans HXC.out.1, (hBn.cell (World.block_lt_of_cell? wr _ HXC.out.2.1)).trans HXC.out.2.1, (hBn.cell (World.block_lt_of_cell? wr _ HXC.out.2.2.1)).trans HXC.out.2.2.1, (hBn.cell (World.block_lt_of_cell? wr _ HXC.out.2.2.2.1)).trans HXC.out.2.2.2.1, (hBn.cell (World.block_lt_of_cell? wr _ HXC.out.2.2.2.2.1)).trans HXC.out.2.2.2.2.1, (hBn.cell (World.block_lt_of_cell? wr _ HXC.out.2.2.2.2.2)).trans HXC.out.2.2.2.2.2,
            (hBn.cell (World.block_lt_of_cell? wr _ b0)).trans b0, (hBn.cell (World.block_lt_of_cell? wr _ b1)).trans b1, (hBn.cell (World.block_lt_of_cell? wr _ b2)).trans b2, (hBn.cell (World.block_lt_of_cell? wr _ b3)).trans b3, (hBn.cell (World.block_lt_of_cell? wr _ b4)).trans b4, (hBn.cell (World.block_lt_of_cell? wr _ b5)).trans b5⟩)
          (first | (go_at_fn 53; refine (bypath_any x y A4 B4 c4 d4 _ hsx hy).mono ?_; rintro e w1 ⟨rfl, hb⟩; replace hBn := hBn.trans (hb.mono hBn.size); clear hb))
        go_wp2
        have HB2 := Aside0.mk (hB.out.trans (hBn.mono hB.out.size))
        go_roundg (hi - ((lo + hi) / 2 + 1))
        case measure => omega
        case rel => exact ⟨(lo + hi) / 2 + 1, hi, by rw [show ((lo : Int) + (hi : Int)) / 2 + 1 = (((lo + hi) / 2 + 1 : Nat) : Int) by omega], rfl, by omega, hin, Nat.le_refl _, HB2, I2⟩
      · have I2 := Aside0.mk (show (∀ t, t < lo → cmpI (rd_T26 xs t) y < 0) ∧ (∀ t, (lo + hi) / 2 ≤ t → t < xs.length → 0 ≤ cmpI (rd_T26 xs t) y) from ⟨I.out.1, fun t ht htn => Int.not_lt.1 fun h => hyx (by rw [HXK.out]; exact M.out ((lo + hi) / 2) t ht htn h)⟩)
        have hd : decide (cmpI x y < 0) = false := decide_eq_false hyx
        clear hyx I
        go_wp2
        have hBn : Below wr.heap.size wr wr.drew := below_drew (Below.refl _ _)
        go_region_held3 (fun W => Below wr.heap.size wr W ∧ W.cell? (ad.add ((lo + hi) / 2 * 6)) = some (.string x.f0) ∧ W.cell? ⟨(ad.add ((lo + hi) / 2 * 6)).block, (ad.add ((lo + hi) / 2 * 6)).off + 1, none⟩ = some (.int .u8 x.f1) ∧ W.cell? ⟨(ad.add ((lo + hi) / 2 * 6)).block, (ad.add ((lo + hi) / 2 * 6)).off + 2, none⟩ = some (.int .i64 x.f2) ∧ W.cell? ⟨(ad.add ((lo + hi) / 2 * 6)).block, (ad.add ((lo + hi) / 2 * 6)).off + 3, none⟩ = some (.int .i64 x.f3) ∧ W.cell? ⟨(ad.add ((lo + hi) / 2 * 6)).block, (ad.add ((lo + hi) / 2 * 6)).off + 4, none⟩ = some (.slice A4 x.f4.length c4) ∧ W.cell? ⟨(ad.add ((lo + hi) / 2 * 6)).block, (ad.add ((lo + hi) / 2 * 6)).off + 5, none⟩ = some (.string x.f5) ∧ W.cell? ⟨w.heap.size, 0, none⟩ = some (.string y.f0) ∧ W.cell? ⟨w.heap.size, 1, none⟩ = some (.int .u8 y.f1) ∧ W.cell? ⟨w.heap.size, 2, none⟩ = some (.int .i64 y.f2) ∧ W.cell? ⟨w.heap.size, 3, none⟩ = some (.int .i64 y.f3) ∧ W.cell? ⟨w.heap.size, 4, none⟩ = some (.slice B4 y.f4.length d4) ∧ W.cell? ⟨w.heap.size, 5, none⟩ = some (.string y.f5))
          (exact ⟨hBn, (hBn.cell (World.block_lt_of_cell? wr _ HXC.out.1)).trans HXC.out.1, (hBn.cell (World.block_lt_of_cell? wr _ HXC.out.2.1)).trans HXC.out.2.1, (hBn.cell (World.block_lt_of_cell? wr _ HXC.out.2.2.1)).trans HXC.out.2.2.1, (hBn.cell (World.block_lt_of_cell? wr _ HXC.out.2.2.2.1)).trans HXC.out.2.2.2.1, (hBn.cell (World.block_lt_of_cell? wr _ HXC.out.2.2.2.2.1)).trans HXC.out.2.2.2.2.1, (hBn.cell (World.block_lt_of_cell? wr _ HXC.out.2.2.2.2.2)).trans HXC.out.2.2.2.2.2,
            (hBn.cell (World.block_lt_of_cell? wr _ b0)).trans b0, (hBn.cell (World.block_lt_of_cell? wr _ b1)).trans b1, (hBn.cell (World.block_lt_of_cell? wr _ b2)).trans b2, (hBn.cell (World.block_lt_of_cell? wr _ b3)).trans b3, (hBn.cell (World.block_lt_of_cell? wr _ b4)).trans b4, (hBn.cell (World.block_lt_of_cell? wr _ b5)).trans b5⟩)
          (first | (go_at_fn 53; refine (bypath_any x y A4 B4 c4 d4 _ hsx hy).mono ?_; rintro e w1 ⟨rfl, hb⟩; replace hBn := hBn.trans (hb.mono hBn.size); clear hb))
        go_wp2
        have HB2 := Aside0.mk (hB.out.trans (hBn.mono hB.out.size))
        go_roundg ((lo + hi) / 2 - lo)
        case measure => omega
        case rel => exact ⟨lo, (lo + hi) / 2, rfl, by rw [show ((lo : Int) + (hi : Int)) / 2 = (((lo + hi) / 2 : Nat) : Int) by omega], by omega, by omega, Nat.le_refl _, HB2, I2⟩
    · obtain rfl : hi = lo := by omega
      have hcn : cnt = hi := by rw [← CN.out]; exact posP_eq y xs hi hin I.out.1 I.out.2
      have HCN := Lib.hid hcn
      clear I hlt hcn
      have hBn : Below wr.heap.size wr wr.drew := below_drew (Below.refl _ _)
      by_cases hn : hi < xs.length
      · obtain ⟨ad, A4, c4, rfl, h0, h1, h2, h3, h4, h5, hl, hr4⟩ := at_it HR.out hBx.out hi hn
        have hsx := HX.out hi hn
        clear hr4
        obtain ⟨x, hxk⟩ : ∃ x, x = rd_T26 xs hi := ⟨_, rfl⟩
        rw [← hxk] at h0 h1 h2 h3 h4 h5 hl hsx
        have HXC := Aside0.mk (And.intro h0 (And.intro h1 (And.intro h2 (And.intro h3 (And.intro h4 h5)))))
        clear hxk
        go_wp2
        go_region_held3 (fun W => Below wr.heap.size wr W ∧ W.cell? (ad.add (hi * 6)) = some (.string x.f0) ∧ W.cell? ⟨(ad.add (hi * 6)).block, (ad.add (hi * 6)).off + 1, none⟩ = some (.int .u8 x.f1) ∧ W.cell? ⟨(ad.add (hi * 6)).block, (ad.add (hi * 6)).off + 2, none⟩ = some (.int .i64 x.f2) ∧ W.cell? ⟨(ad.add (hi * 6)).block, (ad.add (hi * 6)).off + 3, none⟩ = some (.int .i64 x.f3) ∧ W.cell? ⟨(ad.add (hi * 6)).block, (ad.add (hi * 6)).off + 4, none⟩ = some (.slice A4 x.f4.length c4) ∧ W.cell? ⟨(ad.add (hi * 6)).block, (ad.add (hi * 6)).off + 5, none⟩ = some (.string x.f5) ∧ W.cell? ⟨w.heap.size, 0, none⟩ = some (.string y.f0) ∧ W.cell? ⟨w.heap.size, 1, none⟩ = some (.int .u8 y.f1) ∧ W.cell? ⟨w.heap.size, 2, none⟩ = some (.int .i64 y.f2) ∧ W.cell? ⟨w.heap.size, 3, none⟩ = some (.int .i64 y.f3) ∧ W.cell? ⟨w.heap.size, 4, none⟩ = some (.slice B4 y.f4.length d4) ∧ W.cell? ⟨w.heap.size, 5, none⟩ = some (.string y.f5))
          (exact ⟨hBn, (hBn.cell (World.block_lt_of_cell? wr _ HXC.out.1)).trans HXC.out.1, (hBn.cell (World.block_lt_of_cell? wr _ HXC.out.2.1)).trans HXC.out.2.1, (hBn.cell (World.block_lt_of_cell? wr _ HXC.out.2.2.1)).trans HXC.out.2.2.1, (hBn.cell (World.block_lt_of_cell? wr _ HXC.out.2.2.2.1)).trans HXC.out.2.2.2.1, (hBn.cell (World.block_lt_of_cell? wr _ HXC.out.2.2.2.2.1)).trans HXC.out.2.2.2.2.1, (hBn.cell (World.block_lt_of_cell? wr _ HXC.out.2.2.2.2.2)).trans HXC.out.2.2.2.2.2,
            (hBn.cell (World.block_lt_of_cell? wr _ b0)).trans b0, (hBn.cell (World.block_lt_of_cell? wr _ b1)).trans b1, (hBn.cell (World.block_lt_of_cell? wr _ b2)).trans b2, (hBn.cell (World.block_lt_of_cell? wr _ b3)).trans b3, (hBn.cell (World.block_lt_of_cell? wr _ b4)).trans b4, (hBn.cell (World.block_lt_of_cell? wr _ b5)).trans b5⟩)
          (first | (go_at_fn 53; refine (bypath_any x y A4 B4 c4 d4 _ hsx hy).mono ?_; rintro e w1 ⟨rfl, hb⟩; replace hBn := hBn.trans (hb.mono hBn.size); clear hb))
        go_wp2
        go_ret2
        exact ⟨⟨cmpI x y == 0, by rw [HCN.out]; rfl⟩, hBx.out.trans (hBn.mono hBx.out.size)⟩
      · obtain rfl : hi = xs.length := by omega
        clear hn
        have hno : decide ((xs.length : Int) < (xs.length : Int)) = false := decide_eq_false (by omega)
        go_wp2
        go_quiet (fail)
        go_wp2
        go_ret2
        exact ⟨⟨false, by rw [HCN.out]; rfl⟩, pw_below_drewN hBx.out _⟩
noncomputable def insP (xs : List S26) (y : S26) : List S26 := xs.take (posP xs y) ++ [y] ++ xs.drop (posP xs y)
def neP (y x : S26) : Bool := x.f0.toList != y.f0.toList
noncomputable def withP (xs : List S26) (y : S26) : List S26 × Int :=
  if (checkP xs).2 ≠ 0 then ([], (checkP xs).2) else
  if (checkP (insP (keepP (neP y) xs xs.length) y)).2 = 0 then (insP (keepP (neP y) xs xs.length) y, 0) else ([], (checkP (insP (keepP (neP y) xs xs.length) y)).2)
theorem with1_tells (y : S26) (B : Nat) (w : World) (hc : w.cell? ⟨B, 0, none⟩ = some (.string y.f0)) : Tells 51 #[.pointer (some ⟨B, 0, none⟩)] (neP y) w := by
  intro W x A4 c4 hB hl hr
  have hb := World.block_lt_of_cell? w _ hc
  have hc' := (hB.cell hb).trans hc
  have hbW : B < W.heap.size := Nat.lt_of_lt_of_le hb hB.size
  clear hc
  unfold cellsIt
  go_enter Tryd.func51, Tryd.ntmps51
  go_wp2
  go_ret
  exact ⟨by unfold neP; first | rfl | (simp [bne]; done), (Below.refl _ W).alloc (Nat.le_refl _) _⟩
end Go.Proofs.YthpecpkncifngaaDoor.X
end

/- The contract of tree.With. -/
section
namespace Go.Proofs.YthpecpkncifngaaDoor.X
open Go Go.RowKit Go.Shelf Go.Proofs.YthpecpkncifngaaDoor Go.Proofs.YthpecpkncifngaaDoorW.PrintWords Go.Proofs.YthpecpkncifngaaDoorW.PrintLast Go.Proofs.YthpecpkncifngaaDoorW.PrintMore Go.Proofs.YthpecpkncifngaaDoor.Pure
theorem chk_all {xs : List S26} (d : Nat) : ∀ i : Nat, xs.length - i = d → i ≤ xs.length → (chkP xs i).2 = 0 → ∀ j, i ≤ j → j < xs.length → stepP xs j = 0 := by
  induction d with
  | zero => intro i hd hi h j h1 h2; omega
  | succ d ih =>
    intro i hd hi h j h1 h2
    have hlt : i < xs.length := by omega
    by_cases hs : stepP xs i = 0
    · rw [chkP_go hlt hs] at h
      rcases Nat.eq_or_lt_of_le h1 with e | e
      · rw [← e]; exact hs
      · exact ih (i + 1) (by omega) (by omega) h j e h2
    · rw [chkP_stop hlt rfl hs] at h
      exact absurd h hs
theorem chk_ok {xs : List S26} (h : (checkP xs).2 = 0) : xs.length ≤ 256 ∧ ∀ j, j < xs.length → stepP xs j = 0 := by
  unfold checkP at h
  split at h
  · simp at h
  · exact ⟨by omega, fun j hj => chk_all _ 0 rfl (Nat.zero_le _) h j (Nat.zero_le _) hj⟩
theorem step_may {xs : List S26} {j : Nat} (h : stepP xs j = 0) : mayP (rd_T26 xs j) = 0 := by
  by_cases hm : mayP (rd_T26 xs j) = 0
  · exact hm
  · rw [step1 hm] at h; exact h
theorem chk_rise {xs : List S26} (h : (checkP xs).2 = 0) : xs.Pairwise (fun a b => cmpI a b = -1) ∧ ∀ x ∈ xs, mayP x = 0 := by
  obtain ⟨_, hs⟩ := chk_ok h
  constructor
  · rw [List.pairwise_iff_getElem]
    intro i j hi hj hij
    have := rises hs j i hij hj
    rw [rd_get xs i hi, rd_get xs j hj] at this
    exact this
  · intro x hx
    obtain ⟨i, hi, rfl⟩ := List.getElem_of_mem hx
    have := step_may (hs i hi)
    rwa [rd_get xs i hi] at this
theorem keepP_filter (p : S26 → Bool) (xs : List S26) : ∀ k, k ≤ xs.length → keepP p xs k = (xs.take k).filter p
  | 0, _ => rfl
  | k + 1, h => by
    have ih := keepP_filter p xs k (by omega)
    rw [keepP, rd_get xs k (by omega), List.take_add_one, List.getElem?_eq_getElem (by omega), List.filter_append, ih]
    by_cases hp : p xs[k] = true
    · rw [if_pos hp]; simp [hp]
    · rw [if_neg hp]; simp [hp]
theorem keepP_all (p : S26 → Bool) (xs : List S26) : keepP p xs xs.length = xs.filter p := by
  rw [keepP_filter p xs _ (Nat.le_refl _), List.take_length]
theorem rise_mono {xs : List S26} (h : xs.Pairwise (fun a b => cmpI a b = -1)) (y : S26) (a b : Nat) (hab : a ≤ b) (hb : b < xs.length) (hc : cmpI (rd_T26 xs b) y < 0) : cmpI (rd_T26 xs a) y < 0 := by
  rcases Nat.eq_or_lt_of_le hab with rfl | hlt
  · exact hc
  · have h1 := List.pairwise_iff_getElem.1 h a b (by omega) hb hlt
    rw [rd_get xs a (by omega)]
    rw [rd_get xs b hb] at hc
    have h2 : cmpI xs[b] y = -1 := by
      rcases Nm.cmp_vals (Nm.texts xs[b].f0.data.toList) (Nm.texts y.f0.data.toList) with e | e | e <;> unfold cmpI at hc ⊢ <;> omega
    have := Nm.cmp_lt_trans _ _ _ h1 h2
    unfold cmpI
    omega
end Go.Proofs.YthpecpkncifngaaDoor.X
end

/- Plain words on paths: parts that are not empty and have no stroke; what is joined of them is parted again. -/
section
namespace Go.Proofs.YthpecpkncifngaaDoor.Nm
def Pt (x : List UInt8) : Prop := x ≠ [] ∧ (47 : UInt8) ∉ x
def Good (L : List (List UInt8)) : Prop := ∀ x ∈ L, Pt x
theorem Good.nil : Good [] := fun x h => by cases h
theorem Good.cons {x : List UInt8} {L : List (List UInt8)} (h : Pt x) (hL : Good L) : Good (x :: L) := fun y hy => by
  rcases List.mem_cons.1 hy with rfl | hy
  · exact h
  · exact hL y hy
theorem Good.append {a b : List (List UInt8)} (ha : Good a) (hb : Good b) : Good (a ++ b) := fun x hx => (List.mem_append.1 hx).elim (ha x) (hb x)
theorem Good.head {x : List UInt8} {L : List (List UInt8)} (h : Good (x :: L)) : Pt x := h x (by simp)
theorem Good.tail {x : List UInt8} {L : List (List UInt8)} (h : Good (x :: L)) : Good L := fun y hy => h y (List.mem_cons_of_mem _ hy)
theorem Good.sub {a b : List (List UInt8)} (h : Good b) (hs : ∀ x ∈ a, x ∈ b) : Good a := fun x hx => h x (hs x hx)
theorem pc_ns : ∀ (l : List UInt8) (p : Nat), (47 : UInt8) ∉ (pc p l).1 ∧ ∀ x ∈ (pc p l).2, (47 : UInt8) ∉ x.2
  | [], _ => by simp [pc]
  | c :: l, p => by
    have h := pc_ns l (p + 1)
    by_cases hc : c = 47
    · simp only [pc, hc, if_true, List.mem_cons]
      refine ⟨by simp, ?_⟩
      rintro x (rfl | hx)
      · exact h.1
      · exact h.2 x hx
    · simp only [pc, hc, if_false, List.mem_cons, not_or]
      exact ⟨⟨fun e => hc e.symm, h.1⟩, h.2⟩
theorem texts_ns (l : List UInt8) : ∀ x ∈ texts l, (47 : UInt8) ∉ x := by
  intro x hx
  obtain ⟨y, hy, rfl⟩ := List.mem_map.1 hx
  rcases List.mem_cons.1 hy with rfl | hy
  · exact (pc_ns l 0).1
  · exact (pc_ns l 0).2 y hy
theorem bad_none_ne {l : List UInt8} (h : bad l = none) : l ≠ [] := by
  rintro rfl
  simp [bad] at h
theorem check_good {l : List UInt8} (h : (check l).2 = 0) : Good (texts l) := fun x hx => ⟨bad_none_ne (((check_ok l).1 h).2 x hx), texts_ns l x hx⟩
theorem texts_one {x : List UInt8} (h : (47 : UInt8) ∉ x) : texts x = [x] := by
  have : ∀ (l : List UInt8) (p : Nat), (47 : UInt8) ∉ l → pc p l = (l, []) := by
    intro l
    induction l with
    | nil => intro p _; rfl
    | cons c l ih =>
      intro p hl
      have hc : ¬ c = 47 := fun e => hl (by rw [e]; exact List.mem_cons_self ..)
      simp only [pc, hc, if_false, ih (p + 1) (fun h => hl (List.mem_cons_of_mem _ h))]
  simp [texts, pieces, this x 0 h]
theorem texts_joinT : ∀ (L : List (List UInt8)), L ≠ [] → (∀ x ∈ L, (47 : UInt8) ∉ x) → texts (joinT L) = L
  | [x], _, h => texts_one (h x (by simp))
  | x :: y :: r, _, h => by
    rw [joinT, texts_append, texts_one (h x (by simp)), texts_joinT (y :: r) (by simp) (fun z hz => h z (List.mem_cons_of_mem _ hz))]
    rfl
def partsL (s : List UInt8) : List (List UInt8) := if s = [] then [] else texts s
theorem joinT_nil {L : List (List UInt8)} (h : Good L) : joinT L = [] ↔ L = [] := by
  constructor
  · intro e
    match L, h, e with
    | [], _, _ => rfl
    | [x], h, e => exact absurd e (h.head).1
    | x :: y :: r, h, e => simp [joinT] at e
  · rintro rfl; rfl
theorem parts_joinT {L : List (List UInt8)} (h : Good L) : partsL (joinT L) = L := by
  by_cases e : L = []
  · subst e; rfl
  · rw [partsL, if_neg (fun q => e ((joinT_nil h).1 q)), texts_joinT L e (fun x hx => (h x hx).2)]
theorem joinT_parts (s : List UInt8) : joinT (partsL s) = s := by
  unfold partsL
  split
  · rename_i h; rw [h]; rfl
  · exact joinT_texts s
theorem parts_check {l : List UInt8} (h : (check l).2 = 0) : l ≠ [] ∧ partsL l = texts l ∧ Good (partsL l) := by
  have hne : l ≠ [] := by
    rintro rfl
    have := check_good h [] (by decide)
    exact this.1 rfl
  have e : partsL l = texts l := by rw [partsL, if_neg hne]
  exact ⟨hne, e, e ▸ check_good h⟩
theorem way_good : ∀ (b ps q : List (List UInt8)), way ps b = some q → Good ps → (∀ x ∈ b, (47 : UInt8) ∉ x) → Good q
  | [], ps, q, h, hp, _ => by simp only [way, Option.some.injEq] at h; exact h ▸ hp
  | x :: r, ps, q, h, hp, hb => by
    have hr : ∀ y ∈ r, (47 : UInt8) ∉ y := fun y hy => hb y (List.mem_cons_of_mem _ hy)
    simp only [way] at h
    split at h
    · exact way_good r ps q h hp hr
    · rename_i h1
      split at h
      · split at h
        · simp at h
        · exact way_good r _ q h (hp.sub fun y hy => (List.dropLast_sublist _).subset hy) hr
      · refine way_good r _ q h (hp.append (Good.cons ⟨fun e => h1 (.inl e), hb x (by simp)⟩ Good.nil)) hr
theorem lead_good {a t : List UInt8} (h : (lead a t).2 = 0) : ∃ q, (lead a t).1 = joinT q ∧ Good q ∧ totL q ≤ 802 := by
  unfold lead at h ⊢
  split at h
  · rename_i h1; exact absurd h h1
  · rename_i h1
    rw [if_neg h1]
    split at h
    · simp at h
    · rename_i h2
      rw [if_neg h2]
      split at h
      · simp at h
      · rename_i h3
        rw [if_neg h3]
        split at h
        · simp at h
        · rename_i h4
          rw [if_neg h4]
          split at h
          · simp at h
          · rename_i h5
            rw [if_neg h5]
            cases hw : way (texts a).dropLast (texts t) with
            | none => rw [hw] at h; simp [led] at h
            | some q =>
              have hc : (check a).2 = 0 := by omega
              have ha := ((check_ok a).1 hc).1
              refine ⟨q, by simp [led], way_good _ _ _ hw ((check_good hc).sub fun y hy => (List.dropLast_sublist _).subset hy) (texts_ns t), ?_⟩
              have := way_tot _ _ _ hw
              have := totL_dropLast (texts a)
              rw [totL_texts] at *
              omega
theorem joinT_len_good : ∀ (L : List (List UInt8)), L ≠ [] → (joinT L).length + 1 = totL L
  | [x], _ => by simp [joinT, totL]
  | x :: y :: r, _ => by
    have := joinT_len_good (y :: r) (by simp)
    simp only [joinT, totL, List.map_cons, List.sum_cons, List.length_append, List.length_cons] at this ⊢
    omega
end Go.Proofs.YthpecpkncifngaaDoor.Nm
end

/- Where a path leads, as plain words; what a checked list's items have. -/
section
namespace Go.Proofs.YthpecpkncifngaaDoor.X
open Go Go.RowKit Go.Shelf Go.Proofs.YthpecpkncifngaaDoor Go.Proofs.YthpecpkncifngaaDoorW.PrintWords Go.Proofs.YthpecpkncifngaaDoorW.PrintLast Go.Proofs.YthpecpkncifngaaDoorW.PrintMore Go.Proofs.YthpecpkncifngaaDoor.Pure
def itemOf (xs : List S26) (s : List UInt8) : Option S26 := xs.find? (fun x => x.f0.data.toList == s)
def hardTo (xs : List S26) (x : S26) : S26 := if x.f1 = 3 then (itemOf xs x.f5.data.toList).getD x else x
def realP (xs : List S26) (reached left : List (List UInt8)) (hops : Nat) : List UInt8 × Int :=
  match left with
  | [] => (Nm.joinT reached, 0)
  | p :: rest =>
    match itemOf xs (Nm.joinT (reached ++ [p])) with
    | none => ([], 4)
    | some x =>
      if (hardTo xs x).f1 = 1 ∧ rest ≠ [] then ([], 4)
      else if (hardTo xs x).f1 ≠ 4 then realP xs (Nm.partsL (hardTo xs x).f0.data.toList) rest hops
      else if h : 40 ≤ hops then ([], 114)
      else realP xs [] (Nm.partsL (Nm.lead (hardTo xs x).f0.data.toList (hardTo xs x).f5.data.toList).1 ++ rest) (hops + 1)
termination_by (40 - hops, left.length)
decreasing_by
  · exact Prod.Lex.right _ (by simp)
  · exact Prod.Lex.left _ _ (by omega)
section
variable {xs : List S26} {R rest : List (List UInt8)} {p : List UInt8} {hops : Nat} {x : S26}
theorem real_nil : realP xs R [] hops = (Nm.joinT R, 0) := by rw [realP]
theorem real_none (h : itemOf xs (Nm.joinT (R ++ [p])) = none) : realP xs R (p :: rest) hops = ([], 4) := by rw [realP, h]
theorem real_file (h : itemOf xs (Nm.joinT (R ++ [p])) = some x) (h1 : (hardTo xs x).f1 = 1) (h2 : rest ≠ []) : realP xs R (p :: rest) hops = ([], 4) := by
  rw [realP, h]; exact if_pos ⟨h1, h2⟩
theorem real_go (h : itemOf xs (Nm.joinT (R ++ [p])) = some x) (h1 : ¬ ((hardTo xs x).f1 = 1 ∧ rest ≠ [])) (h2 : (hardTo xs x).f1 ≠ 4) : realP xs R (p :: rest) hops = realP xs (Nm.partsL (hardTo xs x).f0.data.toList) rest hops := by
  rw [realP, h]; exact (if_neg h1).trans (if_pos h2)
theorem real_loop (h : itemOf xs (Nm.joinT (R ++ [p])) = some x) (h2 : (hardTo xs x).f1 = 4) (h3 : 40 ≤ hops) : realP xs R (p :: rest) hops = ([], 114) := by
  rw [realP, h]; exact (if_neg (fun q => by have := q.1; omega)).trans ((if_neg (by simp [h2])).trans (dif_pos h3))
theorem real_soft (h : itemOf xs (Nm.joinT (R ++ [p])) = some x) (h2 : (hardTo xs x).f1 = 4) (h3 : ¬ 40 ≤ hops) : realP xs R (p :: rest) hops = realP xs [] (Nm.partsL (Nm.lead (hardTo xs x).f0.data.toList (hardTo xs x).f5.data.toList).1 ++ rest) (hops + 1) := by
  rw [realP, h]; exact (if_neg (fun q => by have := q.1; omega)).trans ((if_neg (by simp [h2])).trans (dif_neg h3))
end
def realT (xs : List S26) (path : List UInt8) : List UInt8 × Int :=
  if (checkP xs).2 ≠ 0 then ([], (checkP xs).2) else if path = [] then ([], 0) else
  if (Nm.check path).2 ≠ 0 then ([], ((Nm.check path).2 : Int)) else realP xs [] (Nm.texts path) 0
theorem item_some {xs : List S26} {s : List UInt8} {x : S26} (h : itemOf xs s = some x) : x ∈ xs ∧ x.f0.data.toList = s :=
  ⟨List.mem_of_find?_eq_some h, by have := List.find?_some h; simpa using this⟩
def lk (xs : List S26) : Nat → ByteArray → Option Nat
  | 0, _ => none
  | k + 1, s => if (rd_T26 xs k).f0 = s then some k else lk xs k s
theorem lk_some (xs : List S26) (s : ByteArray) : ∀ (k i : Nat), lk xs k s = some i → i < k ∧ (rd_T26 xs i).f0 = s
  | 0, i, h => by simp [lk] at h
  | k + 1, i, h => by
    rw [lk] at h
    split at h
    · rename_i e
      obtain rfl : k = i := by simpa using h
      exact ⟨by omega, e⟩
    · obtain ⟨h1, h2⟩ := lk_some xs s k i h
      exact ⟨by omega, h2⟩
theorem lk_none (xs : List S26) (s : ByteArray) : ∀ (k : Nat), lk xs k s = none → ∀ i, i < k → (rd_T26 xs i).f0 ≠ s
  | 0, _, i, hi => by omega
  | k + 1, h, i, hi => by
    rw [lk] at h
    split at h
    · cases h
    · rename_i e
      rcases Nat.lt_succ_iff_lt_or_eq.1 hi with hi | rfl
      · exact lk_none xs s k h i hi
      · exact e
theorem data_inj {a b : ByteArray} (h : a.data.toList = b.data.toList) : a = b := by
  have : a.data = b.data := Array.toList_inj.1 h
  cases a; cases b; simpa using this
theorem item_of_mem {xs : List S26} (hc : (checkP xs).2 = 0) {x : S26} (hx : x ∈ xs) : itemOf xs x.f0.data.toList = some x := by
  obtain ⟨_, hs⟩ := chk_ok hc
  cases h : itemOf xs x.f0.data.toList with
  | none =>
    have := List.find?_eq_none.1 h x hx
    simp at this
  | some z =>
    obtain ⟨hz, he⟩ := item_some h
    obtain ⟨i, hi, rfl⟩ := List.getElem_of_mem hx
    obtain ⟨j, hj, rfl⟩ := List.getElem_of_mem hz
    have e : (rd_T26 xs j).f0 = (rd_T26 xs i).f0 := by rw [rd_get xs i hi, rd_get xs j hj]; exact data_inj he
    have := apart (k := xs.length) (fun j hj => hs j hj) hj hi e
    subst this
    rfl
theorem item_none {xs : List S26} {s : List UInt8} (h : ∀ i : Nat, i < xs.length → (rd_T26 xs i).f0.data.toList ≠ s) : itemOf xs s = none := by
  refine List.find?_eq_none.2 fun x hx => ?_
  obtain ⟨i, hi, rfl⟩ := List.getElem_of_mem hx
  have := h i hi
  rw [rd_get xs i hi] at this
  simpa using this
theorem lk_item {xs : List S26} (hc : (checkP xs).2 = 0) (s : ByteArray) : (lk xs xs.length s).map (fun i : Nat => rd_T26 xs i) = itemOf xs s.data.toList := by
  cases h : lk xs xs.length s with
  | none =>
    have := lk_none xs s _ h
    rw [item_none (fun i hi e => this i hi (data_inj e))]
    rfl
  | some i =>
    obtain ⟨h1, h2⟩ := lk_some xs s _ i h
    have hm : rd_T26 xs i ∈ xs := by rw [rd_get xs i h1]; exact List.getElem_mem h1
    have := item_of_mem hc hm
    rw [h2] at this
    rw [this]
    rfl
theorem item_idx {xs : List S26} (s : ByteArray) (d : Nat) : ∀ i : Nat, i ≤ xs.length → xs.length - i = d → (∀ j, j < i → (rd_T26 xs j).f0.toList ≠ s.toList) →
    (itemOf xs s.data.toList = none ∧ idxP (fun x => x.f0.toList == s.toList) xs i = -1) ∨ ∃ j : Nat, j < xs.length ∧ idxP (fun x => x.f0.toList == s.toList) xs i = (j : Int) ∧ itemOf xs s.data.toList = some (rd_T26 xs j) := by
  induction d with
  | zero =>
    intro i hi hd hn
    left
    refine ⟨item_none (fun j hj e => hn j (by omega) ?_), idxP_end (by omega)⟩
    rw [Lib.toList_data, Lib.toList_data]; exact e
  | succ d ih =>
    intro i hi hd hn
    have hlt : i < xs.length := by omega
    by_cases h : ((rd_T26 xs i).f0.toList == s.toList) = true
    · right
      refine ⟨i, hlt, idxP_yes hlt h, ?_⟩
      have e : (rd_T26 xs i).f0.data.toList = s.data.toList := by
        have := eq_of_beq h
        rwa [Lib.toList_data, Lib.toList_data] at this
      unfold itemOf
      rw [List.find?_eq_some_iff_append]
      refine ⟨by simpa using e, xs.take i, xs.drop (i + 1), ?_, ?_⟩
      · rw [← rd_drop xs i hlt, List.take_append_drop]
      · intro a ha
        obtain ⟨j, hj, rfl⟩ := (mem_take xs i hi a).1 ha
        have := hn j hj
        rw [Lib.toList_data, Lib.toList_data] at this
        simpa using this
    · have h' : ((rd_T26 xs i).f0.toList == s.toList) = false := by simpa using h
      rw [idxP_no (p := fun x => x.f0.toList == s.toList) hlt h']
      refine ih (i + 1) (by omega) (by omega) (fun j hj => ?_)
      rcases Nat.lt_succ_iff_lt_or_eq.1 hj with hj | rfl
      · exact hn j hj
      · simpa using h
theorem find_item (xs : List S26) (s : ByteArray) : (itemOf xs s.data.toList = none ∧ findP xs s = (0, 4)) ∨ ∃ j : Nat, j < xs.length ∧ findP xs s = ((j : Int), 0) ∧ itemOf xs s.data.toList = some (rd_T26 xs j) := by
  rcases item_idx (xs := xs) s _ 0 (Nat.zero_le _) rfl (fun j hj => by omega) with ⟨h1, h2⟩ | ⟨j, h1, h2, h3⟩
  · left; refine ⟨h1, ?_⟩; unfold findP; rw [h2]; rfl
  · right; refine ⟨j, h1, ?_, h3⟩; unfold findP; rw [h2, if_neg (by omega)]
theorem may_check {x : S26} (h : mayP x = 0) : (Nm.check x.f0.data.toList).2 = 0 := by
  by_cases hc : (Nm.check x.f0.data.toList).2 = 0
  · exact hc
  · unfold mayP at h
    rw [if_pos hc] at h
    omega
theorem may_kind {x : S26} (h : mayP x = 0) : x.f1 = 1 ∨ x.f1 = 2 ∨ x.f1 = 3 ∨ x.f1 = 4 := by
  have hc := may_check h
  unfold mayP at h
  rw [if_neg (by simp [hc])] at h
  by_cases h1 : x.f1 = 1
  · exact .inl h1
  rw [if_neg h1] at h
  by_cases h2 : x.f1 = 2
  · exact .inr (.inl h2)
  rw [if_neg h2] at h
  by_cases h3 : x.f1 = 3
  · exact .inr (.inr (.inl h3))
  rw [if_neg h3] at h
  by_cases h4 : x.f1 = 4
  · exact .inr (.inr (.inr h4))
  rw [if_neg h4] at h
  omega
theorem mayT_zero {x : S26} {M T : Int} {bo tq : Bool} {r : Int} (h : mayT x M T bo tq r = 0) : r = 0 := by
  unfold mayT at h
  by_cases a1 : x.f3 < 0
  · rw [if_pos a1] at h; omega
  rw [if_neg a1] at h
  by_cases a2 : T < x.f3
  · rw [if_pos a2] at h; omega
  rw [if_neg a2] at h
  by_cases a3 : x.f2 < 0
  · rw [if_pos a3] at h; omega
  rw [if_neg a3] at h
  by_cases a4 : M < x.f2
  · rw [if_pos a4] at h; omega
  rw [if_neg a4] at h
  by_cases a5 : 0 < x.f4.length ∧ bo = false
  · rw [if_pos a5] at h; omega
  rw [if_neg a5] at h
  by_cases a6 : x.f5.toList ≠ [] ∧ tq = false
  · rw [if_pos a6] at h; omega
  rwa [if_neg a6] at h
theorem may_soft_lead {x : S26} (h : mayP x = 0) (h4 : x.f1 = 4) : (Nm.lead x.f0.data.toList x.f5.data.toList).2 = 0 := by
  have hc := may_check h
  unfold mayP at h
  rw [if_neg (by simp [hc]), if_neg (by omega), if_neg (by omega), if_neg (by omega), if_pos h4] at h
  have := mayT_zero h
  unfold softP at this
  omega
theorem hard_file {xs : List S26} (hc : (checkP xs).2 = 0) {x : S26} (hx : x ∈ xs) (h3 : x.f1 = 3) : ∃ z, z ∈ xs ∧ itemOf xs x.f5.data.toList = some z ∧ z.f1 = 1 := by
  obtain ⟨_, hs⟩ := chk_ok hc
  obtain ⟨i, hi, rfl⟩ := List.getElem_of_mem hx
  have h := hs i hi
  have hm := step_may h
  have hk : kd xs i xs[i].f5 = 1 := by
    by_cases hk : kd xs i xs[i].f5 = 1
    · exact hk
    · exfalso
      unfold stepP at h
      rw [if_neg (by simp [hm]), rd_get xs i hi] at h
      split at h
      · omega
      · split at h
        · omega
        · rw [if_pos ⟨h3, hk⟩] at h; omega
  obtain ⟨j, hj, h1, h2⟩ := kd_some xs xs[i].f5 1 (by decide) i hk
  have hm : rd_T26 xs j ∈ xs := by rw [rd_get xs j (by omega)]; exact List.getElem_mem _
  refine ⟨rd_T26 xs j, hm, ?_, h2⟩
  have := item_of_mem hc hm
  rwa [h1] at this
end Go.Proofs.YthpecpkncifngaaDoor.X
end

/- Plain words on paths: what stands above a path. -/
section
namespace Go.Proofs.YthpecpkncifngaaDoor.Nm
theorem last_mem : ∀ (r : List UInt8), (47 : UInt8) ∈ r → 0 ≤ lastIdx 47 r
  | [], h => by simp at h
  | d :: s, h => by
    have hge := lastIdx_ge 47 s
    simp only [lastIdx]
    by_cases hs : 0 ≤ lastIdx 47 s
    · rw [if_pos hs]; omega
    · rw [if_neg hs]
      by_cases hd : d = 47
      · rw [if_pos hd]; exact Int.le_refl _
      · rcases List.mem_cons.1 h with e | e
        · exact absurd e.symm hd
        · exact absurd (last_mem s e) hs
theorem last_cut : ∀ (l : List UInt8) (n : Nat), lastIdx 47 l = n → ∃ b, l = l.take n ++ 47 :: b ∧ (47 : UInt8) ∉ b ∧ n < l.length
  | [], n, h => by simp [lastIdx] at h
  | c :: r, n, h => by
    have hge := lastIdx_ge 47 r
    simp only [lastIdx] at h
    by_cases hr : 0 ≤ lastIdx 47 r
    · rw [if_pos hr] at h
      obtain ⟨m, hm⟩ := Int.eq_ofNat_of_zero_le hr
      obtain ⟨b, e, hb, hlt⟩ := last_cut r m hm
      obtain rfl : n = m + 1 := by omega
      refine ⟨b, ?_, hb, by simp; omega⟩
      rw [List.take_succ_cons, List.cons_append, ← e]
    · rw [if_neg hr] at h
      by_cases hc : c = 47
      · rw [if_pos hc] at h
        obtain rfl : n = 0 := by omega
        refine ⟨r, by simp [hc], ?_, by simp⟩
        intro hm
        exact hr (last_mem r hm)
      · rw [if_neg hc] at h; omega
theorem up_texts (l : List UInt8) : l.take (lastIdx 47 l).toNat = joinT (texts l).dropLast ∧ ((texts l).dropLast ≠ [] → texts (l.take (lastIdx 47 l).toNat) = (texts l).dropLast) := by
  have hge := lastIdx_ge 47 l
  by_cases h : 0 ≤ lastIdx 47 l
  · obtain ⟨n, hn⟩ := Int.eq_ofNat_of_zero_le h
    obtain ⟨b, e, hb, hlt⟩ := last_cut l n hn
    have ht : texts l = texts (l.take n) ++ [b] := by
      conv => lhs; rw [e]
      rw [texts_append, texts_one hb]
    rw [hn, Int.toNat_natCast, ht, List.dropLast_concat]
    exact ⟨(joinT_texts _).symm, fun _ => rfl⟩
  · have hm : (47 : UInt8) ∉ l := fun hm => h (last_mem l hm)
    rw [texts_one hm]
    obtain ⟨k, hk⟩ : ∃ k : Int, lastIdx 47 l = k ∧ k < 0 := ⟨_, rfl, by omega⟩
    rw [hk.1, Int.toNat_of_nonpos (by omega)]
    simp [joinT]
end Go.Proofs.YthpecpkncifngaaDoor.Nm
end

/- The reference's Sort as plain words: one by one, each behind all that are not behind it. -/
section
namespace Go.Proofs.YthpecpkncifngaaDoor.X
open Go.RowKit Go.Shelf Go.Proofs.YthpecpkncifngaaDoor Go.Proofs.YthpecpkncifngaaDoorW.PrintWords Go.Proofs.YthpecpkncifngaaDoorW.PrintLast Go.Proofs.YthpecpkncifngaaDoorW.PrintMore Go.Proofs.YthpecpkncifngaaDoor.Pure
noncomputable def place (out : List S26) (x : S26) : Nat → Nat
  | 0 => 0
  | n + 1 => if cmpI (rd_T26 out n) x = 1 then place out x n else n + 1
end Go.Proofs.YthpecpkncifngaaDoor.X
end

/- Plain laws of trees: what stands above an item is there; what is put in is found, and taken out again. -/
section
namespace Go.Proofs.YthpecpkncifngaaDoor.X
open Go Go.RowKit Go.Shelf Go.Proofs.YthpecpkncifngaaDoor Go.Proofs.YthpecpkncifngaaDoorW.PrintWords Go.Proofs.YthpecpkncifngaaDoorW.PrintLast Go.Proofs.YthpecpkncifngaaDoorW.PrintMore Go.Proofs.YthpecpkncifngaaDoor.Pure
theorem up_item {xs : List S26} (hc : (checkP xs).2 = 0) {x : S26} (hx : x ∈ xs) (hd : (Nm.texts x.f0.data.toList).dropLast ≠ []) :
    ∃ z, z ∈ xs ∧ z.f1 = 2 ∧ z.f0.data.toList = Nm.joinT (Nm.texts x.f0.data.toList).dropLast := by
  obtain ⟨_, hs⟩ := chk_ok hc
  obtain ⟨i, hi, rfl⟩ := List.getElem_of_mem hx
  have h := hs i hi
  have hm := step_may h
  rw [rd_get xs i hi] at hm
  have hu : (upB xs[i].f0).data.toList = Nm.joinT (Nm.texts xs[i].f0.data.toList).dropLast := by
    rw [← (Nm.up_texts xs[i].f0.data.toList).1]
    simp [upB, ByteArray.data_extract]
  have hg : Nm.Good (Nm.texts xs[i].f0.data.toList).dropLast := (Nm.check_good (may_check hm)).sub fun y hy => (List.dropLast_sublist _).subset hy
  have hne : (upB xs[i].f0).toList ≠ [] := by
    rw [Lib.toList_data, hu]
    exact fun e => hd ((Nm.joinT_nil hg).1 e)
  have hk : kd xs i (upB xs[i].f0) = 2 := by
    by_cases hk : kd xs i (upB xs[i].f0) = 2
    · exact hk
    · exfalso
      unfold stepP at h
      rw [rd_get xs i hi, if_neg (by simp [hm])] at h
      split at h
      · omega
      · rw [if_pos ⟨hne, hk⟩] at h; omega
  obtain ⟨j, hj, h1, h2⟩ := kd_some xs _ 2 (by decide) i hk
  exact ⟨rd_T26 xs j, by rw [rd_get xs j (by omega)]; exact List.getElem_mem _, h2, by rw [h1, hu]⟩
theorem anc {xs : List S26} (hc : (checkP xs).2 = 0) : ∀ (n : Nat) (x : S26) (pre r : List (List UInt8)), x ∈ xs → Nm.texts x.f0.data.toList = pre ++ r → pre ≠ [] → r.length = n + 1 →
    ∃ z, z ∈ xs ∧ z.f1 = 2 ∧ z.f0.data.toList = Nm.joinT pre
  | n, x, pre, r, hx, ht, hp, hn => by
    have hr : r ≠ [] := by rintro rfl; simp at hn
    have hdl : (Nm.texts x.f0.data.toList).dropLast = pre ++ r.dropLast := by rw [ht, List.dropLast_append_of_ne_nil hr]
    obtain ⟨z, hz, h2, he⟩ := up_item hc hx (by rw [hdl]; simp [hp])
    rw [hdl] at he
    cases n with
    | zero =>
      have : r.dropLast = [] := by apply List.eq_nil_of_length_eq_zero; simp [hn]
      rw [this, List.append_nil] at he
      exact ⟨z, hz, h2, he⟩
    | succ n =>
      have hns : ∀ y ∈ pre ++ r.dropLast, (47 : UInt8) ∉ y := by
        intro y hy
        rw [← hdl] at hy
        exact Nm.texts_ns _ y ((List.dropLast_sublist _).subset hy)
      exact anc hc n z pre r.dropLast hz (by rw [he]; exact Nm.texts_joinT _ (by simp [hp]) hns) hp (by simp [hn])
theorem ben_anc {xs : List S26} (hc : (checkP xs).2 = 0) {x : S26} (hx : x ∈ xs) {p : List UInt8} (hp : p ≠ []) (hb : ben p x.f0.data.toList = true) : ∃ z, z ∈ xs ∧ z.f1 = 2 ∧ z.f0.data.toList = p := by
  have h : (Nm.check x.f0.data.toList).2 = 0 ∧ (p = [] ∨ ∃ b, x.f0.data.toList = p ++ 47 :: b) := by
    by_cases h : (Nm.check x.f0.data.toList).2 = 0 ∧ (p = [] ∨ ∃ b, x.f0.data.toList = p ++ 47 :: b)
    · exact h
    · rw [ben_false h] at hb; cases hb
  obtain ⟨r, hr, ht⟩ := (Nm.beneath_iff p x.f0.data.toList).1 (h.2.resolve_left hp)
  obtain ⟨n, hn⟩ : ∃ n, r.length = n + 1 := ⟨r.length - 1, by have := List.length_pos_iff.2 hr; omega⟩
  obtain ⟨z, hz, h2, he⟩ := anc hc n x (Nm.texts p) r hx ht (Nm.texts_ne p) hn
  exact ⟨z, hz, h2, by rw [he, Nm.joinT_texts]⟩
theorem insP_mem (ks : List S26) (y : S26) : y ∈ insP ks y := by unfold insP; simp
theorem insP_len (ks : List S26) (y : S26) : (insP ks y).length = ks.length + 1 := by
  have : posP ks y ≤ ks.length := List.countP_le_length
  unfold insP; simp; omega
theorem insP_filter (p : S26 → Bool) (ks : List S26) (y : S26) (h : p y = false) : (insP ks y).filter p = ks.filter p := by
  unfold insP
  rw [List.filter_append, List.filter_append]
  have : [y].filter p = [] := by simp [h]
  rw [this, List.append_nil, ← List.filter_append, List.take_append_drop]
section
variable {xs : List S26} {y : S26}
theorem with_ok (h : (withP xs y).2 = 0) : (checkP xs).2 = 0 ∧ (withP xs y).1 = insP (xs.filter (neP y)) y ∧ (checkP (withP xs y).1).2 = 0 := by
  have hk := keepP_all (neP y) xs
  unfold withP at h ⊢
  by_cases h1 : (checkP xs).2 = 0
  · rw [if_neg (by simp [h1])] at h ⊢
    by_cases h2 : (checkP (insP (keepP (neP y) xs xs.length) y)).2 = 0
    · rw [if_pos h2]
      exact ⟨h1, by rw [hk], h2⟩
    · rw [if_neg h2] at h; exact absurd h h2
  · rw [if_pos h1] at h; exact absurd h h1
theorem with_no (h : (withP xs y).2 ≠ 0) : (withP xs y).1 = [] := by
  unfold withP at h ⊢
  by_cases h1 : (checkP xs).2 = 0
  · rw [if_neg (by simp [h1])] at h ⊢
    by_cases h2 : (checkP (insP (keepP (neP y) xs xs.length) y)).2 = 0
    · rw [if_pos h2] at h; exact absurd rfl h
    · rw [if_neg h2]
  · rw [if_pos h1]
theorem with_find (h : (withP xs y).2 = 0) : ∃ j : Nat, j < (withP xs y).1.length ∧ findP (withP xs y).1 y.f0 = ((j : Int), 0) ∧ rd_T26 (withP xs y).1 j = y := by
  obtain ⟨h1, h2, h3⟩ := with_ok h
  have hm : y ∈ (withP xs y).1 := by rw [h2]; exact insP_mem _ _
  have hi := item_of_mem h3 hm
  rcases find_item (withP xs y).1 y.f0 with ⟨a, _⟩ | ⟨j, a, b, c⟩
  · rw [a] at hi; cases hi
  · exact ⟨j, a, b, by rw [c] at hi; exact Option.some.inj hi⟩
theorem neP_self : neP y y = false := by simp [neP]
theorem with_others (h : (withP xs y).2 = 0) : keepP (neP y) (withP xs y).1 (withP xs y).1.length = keepP (neP y) xs xs.length := by
  obtain ⟨h1, h2, h3⟩ := with_ok h
  rw [keepP_all, keepP_all, h2, insP_filter _ _ _ neP_self, List.filter_filter]
  simp
theorem with_without (h : (withP xs y).2 = 0) (hl : xs.length < (withP xs y).1.length) : withoutP (withP xs y).1 y.f0 = (xs, 0) := by
  obtain ⟨h1, h2, h3⟩ := with_ok h
  obtain ⟨j, _, hf, _⟩ := with_find h
  have hlen : (xs.filter (neP y)).length = xs.length := by
    rw [h2, insP_len] at hl
    have := List.length_filter_le (neP y) xs
    omega
  have hall : xs.filter (neP y) = xs := List.filter_eq_self.2 (List.length_filter_eq_length_iff.1 hlen)
  have hy : (Nm.check y.f0.data.toList).2 = 0 := may_check ((chk_rise h3).2 y (by rw [h2]; exact insP_mem _ _))
  have hpne := (Nm.parts_check hy).1
  have hout : (withP xs y).1.filter (outP y.f0) = xs := by
    rw [h2, insP_filter _ _ _ (by simp [outP]), hall]
    refine List.filter_eq_self.2 fun x hx => ?_
    have hn := List.length_filter_eq_length_iff.1 hlen
    have hnx := hn x hx
    have hb : ben y.f0.data.toList x.f0.data.toList = false := by
      cases hb : ben y.f0.data.toList x.f0.data.toList with
      | false => rfl
      | true =>
        obtain ⟨z, hz, _, he⟩ := ben_anc h1 hx hpne hb
        have hnz := hn z hz
        unfold neP at hnz
        rw [Lib.toList_data, Lib.toList_data, he] at hnz
        simp at hnz
    unfold outP
    rw [hb]
    unfold neP at hnx
    rw [hnx]
    rfl
  have hk := keepP_all (outP y.f0) (withP xs y).1
  unfold withoutP
  rw [if_neg (by simp [h3]), if_neg (by rw [hf]; simp), hk, hout, if_pos h1]
end
section
variable {xs : List S26} {p : ByteArray}
theorem without_no (h : (withoutP xs p).2 ≠ 0) : (withoutP xs p).1 = [] := by
  unfold withoutP at h ⊢
  by_cases h1 : (checkP xs).2 = 0
  · rw [if_neg (by simp [h1])] at h ⊢
    by_cases h2 : (findP xs p).2 = 0
    · rw [if_neg (by simp [h2])] at h ⊢
      by_cases h3 : (checkP (keepP (outP p) xs xs.length)).2 = 0
      · rw [if_pos h3] at h; exact absurd rfl h
      · rw [if_neg h3]
    · rw [if_pos h2]
  · rw [if_pos h1]
theorem without_ok (h : (withoutP xs p).2 = 0) : (checkP xs).2 = 0 ∧ (findP xs p).2 = 0 ∧ (withoutP xs p).1 = xs.filter (outP p) ∧ (checkP (withoutP xs p).1).2 = 0 := by
  have hk := keepP_all (outP p) xs
  unfold withoutP at h ⊢
  by_cases h1 : (checkP xs).2 = 0
  · rw [if_neg (by simp [h1])] at h ⊢
    by_cases h2 : (findP xs p).2 = 0
    · rw [if_neg (by simp [h2])] at h ⊢
      by_cases h3 : (checkP (keepP (outP p) xs xs.length)).2 = 0
      · rw [if_pos h3]; exact ⟨h1, h2, hk, h3⟩
      · rw [if_neg h3] at h; exact absurd h h3
    · rw [if_pos h2] at h; exact absurd h h2
  · rw [if_pos h1] at h; exact absurd h h1
theorem without_find (h : (withoutP xs p).2 = 0) : findP (withoutP xs p).1 p = (0, 4) := by
  obtain ⟨h1, h2, h3, h4⟩ := without_ok h
  rcases find_item (withoutP xs p).1 p with ⟨_, a⟩ | ⟨j, a, _, c⟩
  · exact a
  · exfalso
    obtain ⟨hm, he⟩ := item_some c
    have key : ∀ z, z ∈ (withoutP xs p).1 → z.f0.data.toList = p.data.toList → False := by
      intro z hz he
      rw [h3] at hz
      have := (List.mem_filter.1 hz).2
      unfold outP at this
      rw [Lib.toList_data, Lib.toList_data, he] at this
      simp at this
    exact key _ hm he
theorem without_ben (h : (withoutP xs p).2 = 0) : beneathP (withoutP xs p).1 p = [] := by
  obtain ⟨h1, h2, h3, h4⟩ := without_ok h
  unfold beneathP
  rw [keepP_all, List.filter_eq_nil_iff]
  intro x hx
  rw [h3] at hx
  have := (List.mem_filter.1 hx).2
  unfold outP at this
  simp at this
  simp [this.2]
theorem without_less (h : (withoutP xs p).2 = 0) : (withoutP xs p).1.length < xs.length := by
  obtain ⟨h1, h2, h3, h4⟩ := without_ok h
  rcases find_item xs p with ⟨_, a⟩ | ⟨j, a, _, c⟩
  · rw [a] at h2; simp at h2
  · obtain ⟨hm, he⟩ := item_some c
    rw [h3]
    refine Nat.lt_of_le_of_ne (List.length_filter_le _ _) fun e => ?_
    have := List.length_filter_eq_length_iff.1 e _ hm
    unfold outP at this
    rw [Lib.toList_data, Lib.toList_data, he] at this
    simp at this
end
end Go.Proofs.YthpecpkncifngaaDoor.X
end

/- TreeBack: the contract of the law's others. -/
section
namespace Go.Proofs.YthpecpkncifngaaDoor.X
open Go Go.RowKit Go.Shelf Go.Proofs.YthpecpkncifngaaDoor Go.Proofs.YthpecpkncifngaaDoorW.PrintWords Go.Proofs.YthpecpkncifngaaDoorW.PrintLast Go.Proofs.YthpecpkncifngaaDoorW.PrintMore Go.Proofs.YthpecpkncifngaaDoor.Pure
def apartP (path : ByteArray) (x : S26) : Bool := x.f0.toList != path.toList
set_option maxRecDepth 100000 in
set_option maxHeartbeats 4000000 in
theorem others_any (A : Option Addr) (c : Nat) (xs : List S26) (path : ByteArray) (w : World) (hr : Kd.C k26 w A xs.length xs) (hm : xs.length * 80 ≤ 140737488351232) :
    Calls Tryd.prog 30 #[.slice A xs.length c, .string path] w fun e w' => (∃ v, e = .returned v ∧ Kd.N k26 26 w' w.heap.size (fun _ => True) v (keepP (apartP path) xs xs.length)) ∧ Below w.heap.size w w' := by
  have HR := Aside0.mk hr
  clear hr
  go_enter Tryd.func30, Tryd.ntmps30
  go_wp2
  go_loopw [5, 6] (fun v i wr => ∃ k : Nat, k ≤ xs.length ∧ i = .int .i64 k ∧ Aside0 (Below w.heap.size w wr) ∧ Aside0 (Kd.N k26 26 wr w.heap.size (fun _ => True) v (keepP (apartP path) xs k))) (fun _ i _ => xs.length - (intOf i).toNat)
  case atStart => exact ⟨0, Nat.zero_le _, rfl, ⟨Below.refl _ _⟩, ⟨Kd.N_nil _ _ _ _ _⟩⟩
  case round =>
    obtain ⟨k, hk, rfl, hB, hN⟩ := hrel
    by_cases hlt : k < xs.length
    · obtain ⟨ad, A4, c4, rfl, h0, h1, h2, h3, h4, h5, hl, hr4⟩ := at_itF HR.out hB.out k hlt
      have HR4 := Aside0.mk hr4
      clear hr4
      have take : apartP path (rd_T26 xs k) = true → keepP (apartP path) xs (k + 1) = keepP (apartP path) xs k ++ [rd_T26 xs k] := fun h => by rw [keepP, if_pos h]
      have leave : apartP path (rd_T26 xs k) = false → keepP (apartP path) xs (k + 1) = keepP (apartP path) xs k := fun h => by rw [keepP, if_neg (by simp [h])]
      by_cases h : ((rd_T26 xs k).f0.toList != path.toList) = true
      · have he : ((rd_T26 xs k).f0.toList == path.toList) = false := by simpa using h
        have hp : ¬ ((rd_T26 xs k).f0.toList = path.toList) := by simpa using h
        have HT := Lib.hid (take h)
        have hkl := keepP_len (apartP path) xs k
        clear h take leave
        go_wp2_with ((with_reducible refine gate_builtin (b := .append) (xs := #[.tmp 20, .tmp 25]) rfl ?_); at_builtin; refine Kd.N_append k26 (w0 := w) w.heap.size rfl (.tmp 20) (.tmp 25) 22 26 (.agg #[.string ⟨#[]⟩, .int .u8 0, .int .i64 0, .int .i64 0, .slice none 0 0, .string ⟨#[]⟩]) 80 rfl Tryd.underlying22 info26 rfl (by decide) (by decide) _ (keepP (apartP path) xs k) (rd_T26 xs k) [.string (rd_T26 xs k).f0, .int .u8 (rd_T26 xs k).f1, .int .i64 (rd_T26 xs k).f2, .int .i64 (rd_T26 xs k).f3, .slice A4 (rd_T26 xs k).f4.length c4, .string (rd_T26 xs k).f5] (fun _ => True) (fun k_ => k_ < w.heap.size) rfl rfl (k26_mkF _ _ _ hl HR4.out) (fun k_ h => ⟨trivial, fun e => by have := Kd.N_base hN.out k_ e.symm; omega⟩) (fun _ _ => trivial) hN.out hB.out hB.out.size (by omega) ?_)
        intro v1 w4 hN4 hB4 hg hat
        rw [← HT.out] at hN4
        have HN4 := Aside0.mk hN4
        have HB4 := Aside0.mk hB4
        clear hN4 hB4 hg hat hkl
        go_wp2
        go_roundw
        case rel => exact ⟨k + 1, by omega, by go_num, HB4, HN4⟩
        case measure => simp [intOf]; omega
      · have h' : ((rd_T26 xs k).f0.toList != path.toList) = false := by simpa using h
        have he : ((rd_T26 xs k).f0.toList == path.toList) = true := by simpa using h
        have hp : (rd_T26 xs k).f0.toList = path.toList := by simpa using h
        have hN3 := hN.out
        rw [← leave h'] at hN3
        have HN3 := Aside0.mk hN3
        clear h h' hN3 take leave
        go_wp2
        go_roundw
        case rel => exact ⟨k + 1, by omega, by go_num, hB, HN3⟩
        case measure => simp [intOf]; omega
    · obtain rfl : k = xs.length := by omega
      go_wp2
      go_ret
      exact ⟨⟨_, rfl, hN.out⟩, hB.out⟩
end Go.Proofs.YthpecpkncifngaaDoor.X
end

/- The contract of tree.With: the walk. -/
section
namespace Go.Proofs.YthpecpkncifngaaDoor.X
open Go Go.RowKit Go.Shelf Go.Proofs.YthpecpkncifngaaDoor Go.Proofs.YthpecpkncifngaaDoorW.PrintWords Go.Proofs.YthpecpkncifngaaDoorW.PrintLast Go.Proofs.YthpecpkncifngaaDoorW.PrintMore Go.Proofs.YthpecpkncifngaaDoor.Pure
set_option maxRecDepth 100000 in
set_option maxHeartbeats 4000000 in
theorem with_any (A : Option Addr) (c : Nat) (xs : List S26) (y : S26) (A4 : Option Addr) (c4 : Nat) (w : World) (hr : Kd.C k26 w A xs.length xs) (hm : xs.length * 80 ≤ 140737488351232) (hb4 : ∀ x ∈ xs, x.f4.length ≤ 140737488355328)
    (hy0 : y.f0.size ≤ 140737488355328) (hl : y.f4.length ≤ c4) (hy4 : y.f4.length ≤ 140737488355328) (hr4 : (Kd.int .u8).C w A4 y.f4.length y.f4) :
    Calls Tryd.prog 21 #[.slice A xs.length c, .agg (cellsIt y A4 c4)] w fun e w' => (∃ v, e = .returned (.tuple #[v, .int .i64 (withP xs y).2]) ∧ Kd.V k26 26 w' w.heap.size (fun k => w.heap.size ≤ k) v (withP xs y).1) ∧ Below w.heap.size w w' := by
  have HR := Aside0.mk hr
  have HR4 := Aside0.mk hr4
  have H4 := Aside0.mk hb4
  clear hr hr4 hb4
  have hB0 : Below w.heap.size w (w.alloc (.cells (cellsIt y A4 c4) 26)) := (Below.refl _ w).alloc (Nat.le_refl _) _
  by_cases h1 : (checkP xs).2 = 0
  case neg =>
    have H := Lib.hid (show withP xs y = ([], (checkP xs).2) by unfold withP; rw [if_pos h1])
    have hd : ((checkP xs).2 != 0) = true := by simpa using h1
    rw [H.out]
    clear h1
    unfold cellsIt
    go_enter Tryd.func21, Tryd.ntmps21
    go_wp2_with fail
    refine (check_tree A c xs _ (Kd.C_below HR.out hB0)).mono ?_
    rintro e w1 ⟨rfl, hb⟩
    go_wp2
    go_ret2
    exact ⟨⟨_, rfl, Kd.V_nil _ _ _ _ _⟩, hB0.trans (hb.mono hB0.size)⟩
  have hd : ((checkP xs).2 != 0) = false := by simpa using h1
  obtain ⟨hlen, _⟩ := chk_ok h1
  obtain ⟨hrise, hmay⟩ := chk_rise h1
  have hkeep := keepP_all (neP y) xs
  have hkr : (keepP (neP y) xs xs.length).Pairwise (fun a b => cmpI a b = -1) := by rw [hkeep]; exact hrise.filter _
  have hkm : ∀ x ∈ keepP (neP y) xs xs.length, x.f0.size ≤ 140737488355328 := by
    rw [hkeep]
    intro x hx
    have := may_size (hmay x (List.mem_filter.1 hx).1)
    omega
  have hkl : (keepP (neP y) xs xs.length).length ≤ 256 := Nat.le_trans (keepP_len _ _ _) hlen
  have H := Lib.hid (show withP xs y = if (checkP (insP (keepP (neP y) xs xs.length) y)).2 = 0 then (insP (keepP (neP y) xs xs.length) y, 0) else ([], (checkP (insP (keepP (neP y) xs xs.length) y)).2) by unfold withP; rw [if_neg (by simpa using h1)])
  clear h1 hlen hrise hmay hkeep
  generalize hks : keepP (neP y) xs xs.length = ks at *
  have HKS := Lib.hid hks
  have HKR := Aside0.mk hkr
  have HKM := Aside0.mk hkm
  clear hkr hkm hks
  unfold cellsIt
  go_enter Tryd.func21, Tryd.ntmps21
  go_wp2_with fail
  refine (check_tree A c xs _ (Kd.C_below HR.out hB0)).mono ?_
  rintro e w1 ⟨rfl, hb⟩
  obtain ⟨a0, a1, a2, a3, a4, a5, az⟩ := box_it y A4 c4 hb
  have HB1 := Aside0.mk (hB0.trans (hb.mono hB0.size))
  clear hb
  have HT := Aside0.mk (with1_tells y w.heap.size w1 a0)
  go_wp2_with fail
  refine (some_clip 51 _ _ A c xs _ (Kd.C_below HR.out HB1.out) hm H4.out (fun args W => by kernel_rfl) HT.out).mono ?_
  rw [HKS.out]
  rintro e w2 ⟨⟨A', rfl, hV⟩, hb⟩
  have st : ∀ {j : Nat} {v : Value}, w1.cell? ⟨w.heap.size, j, none⟩ = some v → w2.cell? ⟨w.heap.size, j, none⟩ = some v := fun {j v} hv => (hb.cell (p := ⟨w.heap.size, j, none⟩) az).trans hv
  have b0 := st a0
  have b1 := st a1
  have b2 := st a2
  have b3 := st a3
  have b4 := st a4
  have b5 := st a5
  have bz := Nat.lt_of_lt_of_le az hb.size
  have HB2 := Aside0.mk (HB1.out.trans (hb.mono HB1.out.size))
  have HV2 := Aside0.mk (Kd.V_mono hV (fun k hk => Nat.le_trans HB1.out.size hk))
  have HT := ()
  clear hb hV st a0 a1 a2 a3 a4 a5 az HT
  go_wp2_with fail
  refine (bsearch_any A' ks.length ks y A4 c4 _ (Kd.V_reads' HV2.out).2.2 (by omega) (fun k hk => HKM.out _ (by rw [rd_get _ _ hk]; exact List.getElem_mem hk)) hy0 (rise_mono HKR.out y)).mono ?_
  rintro e w3 ⟨⟨bb, rfl⟩, hb⟩
  have st : ∀ {j : Nat} {v : Value}, w2.cell? ⟨w.heap.size, j, none⟩ = some v → w3.cell? ⟨w.heap.size, j, none⟩ = some v := fun {j v} hv => (hb.cell (p := ⟨w.heap.size, j, none⟩) bz).trans hv
  replace b0 := st b0
  replace b1 := st b1
  replace b2 := st b2
  replace b3 := st b3
  replace b4 := st b4
  replace b5 := st b5
  have HB3 := Aside0.mk (HB2.out.trans (hb.mono HB2.out.size))
  have HV3 := Aside0.mk (Kd.V_below HV2.out hb)
  clear hb st HB1 HB2 HV2 bz
  go_wp2_with fail
  refine (own_any y A4 c4 _ hl hy4 (Kd.C_below HR4.out HB3.out)).mono ?_
  rintro e w4 ⟨⟨A5, rfl, hF⟩, hb⟩
  unfold cellsIt
  have HB4 := Aside0.mk (HB3.out.trans (hb.mono HB3.out.size))
  have HV4 := Aside0.mk (Kd.V_below HV3.out hb)
  have HF4 := Aside0.mk (Kd.F_mono hF (fun k hk => Nat.le_trans HB3.out.size hk))
  clear hb hF
  go_wp2_with fail
  have hBa : Below w4.heap.size w4 (w4.alloc (.cells (cellsIt y A5 y.f4.length) 26)) := (Below.refl _ w4).alloc (Nat.le_refl _) _
  have hpl : posP ks y ≤ ks.length := List.countP_le_length
  refine (insert_any A' (posP ks y) ⟨w4.heap.size, 0, none⟩ ks y (cellsIt y A5 y.f4.length).toList w.heap.size (fun k => w.heap.size ≤ k) _ (Kd.V_below HV4.out hBa) (k26_mkF _ _ _ (Nat.le_refl _) (Kd.F_below HF4.out hBa)) (fun j u hj => ?_) hpl (by omega)).mono ?_
  · rw [Addr.add_lit, Nat.zero_add]
    refine (blk_cell (blk_new w4 _) j).trans ?_
    simpa using hj
  rintro e w5 ⟨⟨g, G, rfl, hG1, hG2, hF5⟩, hb⟩
  have HB5 := Aside0.mk (HB4.out.trans ((hBa.trans (hb.mono hBa.size)).mono HB4.out.size))
  have HF5 := Aside0.mk (show Kd.F k26 w5 (fun k => w.heap.size ≤ k) (some ⟨g, 0, none⟩) (insP ks y).length (insP ks y) by
    have hl5 : (insP ks y).length = ks.length + 1 := by unfold insP; simp; omega
    rw [hl5]
    exact Kd.F_mono hF5 (fun k hk => hk.elim id (fun h => Nat.le_trans HB4.out.size (Nat.le_trans hBa.size h))))
  have hl5 : ks.length + 1 = (insP ks y).length := by unfold insP; simp; omega
  clear hF5 hb hBa HV4 HV3 HF4 b0 b1 b2 b3 b4 b5 hpl
  rw [hl5] at hG1 ⊢
  generalize hins : insP ks y = r at *
  go_wp2_with fail
  refine (clip_items (some ⟨g, 0, none⟩) r.length G _ hG1 hG2).mono ?_
  rintro e w6 ⟨rfl, rfl⟩
  go_wp2_with fail
  refine (checked_any (some ⟨g, 0, none⟩) r.length r _ (Kd.F_now HF5.out)).mono ?_
  by_cases h3 : (checkP r).2 = 0
  · rw [if_pos h3]
    rw [if_pos h3] at H
    clear h3
    rintro e w7 ⟨rfl, hb⟩
    go_wp2
    go_ret2
    exact ⟨by rw [H.out]; exact ⟨_, rfl, Kd.V_below (Kd.V_mk (Nat.le_refl _) HF5.out) hb⟩, HB5.out.trans (hb.mono HB5.out.size)⟩
  · rw [if_neg h3]
    rw [if_neg h3] at H
    clear h3
    rintro e w7 ⟨rfl, hb⟩
    go_wp2
    go_ret2
    exact ⟨by rw [H.out]; exact ⟨_, rfl, Kd.V_nil _ _ _ _ _⟩, HB5.out.trans (hb.mono HB5.out.size)⟩
end Go.Proofs.YthpecpkncifngaaDoor.X
end

/- Plain words on paths: joined parts, cut at the first stroke, and trimmed of strokes. -/
section
namespace Go.Proofs.YthpecpkncifngaaDoor.Nm
theorem joinT_cut {p : List UInt8} {rest : List (List UInt8)} (h : Good (p :: rest)) :
    (rest = [] ∧ Lib.indexByte (joinT (p :: rest)) 47 = -1 ∧ joinT (p :: rest) = p) ∨
    (rest ≠ [] ∧ Lib.indexByte (joinT (p :: rest)) 47 = p.length ∧ p.length < (joinT (p :: rest)).length ∧ (joinT (p :: rest)).take p.length = p ∧ (joinT (p :: rest)).drop (p.length + 1) = joinT rest) := by
  have ht := texts_joinT (p :: rest) (by simp) (fun x hx => (h x hx).2)
  generalize hl : joinT (p :: rest) = l at ht ⊢
  have hge := Lib.indexByte_ge l 47
  by_cases hi : Lib.indexByte l 47 = -1
  · left
    have h1 : texts l = [l] := by simp [texts, pieces_none l 0 hi]
    rw [h1] at ht
    injection ht with a b
    exact ⟨b.symm, hi, a⟩
  · right
    obtain ⟨n, hn⟩ := Int.eq_ofNat_of_zero_le (show 0 ≤ Lib.indexByte l 47 by omega)
    have h1 : texts l = l.take n :: texts (l.drop (n + 1)) := by
      simp only [texts, pieces_some l 0 n hn, List.map_cons]
      rw [pieces_texts]; rfl
    have hlt := (pc_some l 0 n hn).1
    rw [h1] at ht
    injection ht with a b
    have hp : p.length = n := by rw [← a, List.length_take]; omega
    refine ⟨by rw [← b]; exact texts_ne _, by rw [hp]; exact hn, by omega, by rw [hp]; exact a, by rw [hp, ← b, joinT_texts]⟩
theorem joinT_first {L : List (List UInt8)} (h : Good L) (hne : L ≠ []) : ∃ c d, joinT L = c :: d ∧ c ≠ 47 := by
  match L, h, hne with
  | x :: r, h, _ =>
    obtain ⟨hx, hn⟩ := h.head
    match x, hx, hn with
    | c :: d, _, hn =>
      have hc : c ≠ 47 := fun e => hn (by rw [e]; exact List.mem_cons_self ..)
      match r with
      | [] => exact ⟨c, d, rfl, hc⟩
      | y :: s => exact ⟨c, _, rfl, hc⟩
theorem joinT_last : ∀ {L : List (List UInt8)}, Good L → L ≠ [] → ∃ a b, joinT L = a ++ [b] ∧ b ≠ 47
  | [x], h, _ => by
    obtain ⟨hx, hn⟩ := h.head
    refine ⟨x.dropLast, x.getLast hx, by rw [joinT, List.dropLast_concat_getLast], fun e => hn (by rw [← e]; exact List.getLast_mem hx)⟩
  | x :: y :: r, h, _ => by
    obtain ⟨a, b, e, hb⟩ := joinT_last (L := y :: r) h.tail (by simp)
    exact ⟨x ++ 47 :: a, b, by rw [joinT, e]; simp, hb⟩
theorem trimR_keep (a : List UInt8) (b : UInt8) (h : b ≠ 47) : Lib.trimRightB (a ++ [b]) 47 = a ++ [b] := by
  simp [Lib.trimRightB, List.dropWhile_cons, h]
theorem trimR_one (a : List UInt8) : Lib.trimRightB (a ++ [47]) 47 = Lib.trimRightB a 47 := by
  simp [Lib.trimRightB, List.dropWhile_cons]
theorem trimL_keep (c : UInt8) (d : List UInt8) (h : c ≠ 47) : Lib.trimLeftB (c :: d) 47 = c :: d := by
  simp [Lib.trimLeftB, List.dropWhile_cons, h]
theorem trimL_one (d : List UInt8) : Lib.trimLeftB (47 :: d) 47 = Lib.trimLeftB d 47 := by
  simp [Lib.trimLeftB, List.dropWhile_cons]
theorem trim_good {L : List (List UInt8)} (h : Good L) : Lib.trimRightB (joinT L) 47 = joinT L ∧ Lib.trimLeftB (joinT L) 47 = joinT L := by
  by_cases e : L = []
  · subst e; exact ⟨rfl, rfl⟩
  · obtain ⟨a, b, e1, hb⟩ := joinT_last h e
    obtain ⟨c, d, e2, hc⟩ := joinT_first h e
    exact ⟨by rw [e1, trimR_keep a b hb], by rw [e2, trimL_keep c d hc]⟩
theorem trim_join {q L : List (List UInt8)} (hq : Good q) (hL : Good L) : Lib.trimB (joinT q ++ 47 :: joinT L) 47 = joinT (q ++ L) := by
  unfold Lib.trimB
  by_cases eL : L = []
  · subst eL
    rw [show joinT q ++ 47 :: joinT [] = joinT q ++ [47] from rfl, trimR_one, (trim_good hq).1, (trim_good hq).2, List.append_nil]
  · obtain ⟨a, b, e1, hb⟩ := joinT_last hL eL
    have hr : Lib.trimRightB (joinT q ++ 47 :: joinT L) 47 = joinT q ++ 47 :: joinT L := by
      rw [e1, show joinT q ++ 47 :: (a ++ [b]) = (joinT q ++ 47 :: a) ++ [b] by simp, trimR_keep _ b hb]
    rw [hr]
    by_cases eq : q = []
    · subst eq
      rw [show joinT [] ++ 47 :: joinT L = 47 :: joinT L from rfl, trimL_one, (trim_good hL).2, List.nil_append]
    · rw [← joinT_append q L eq eL]
      exact (trim_good (hq.append hL)).2
end Go.Proofs.YthpecpkncifngaaDoor.Nm
end

/- The contract of tree.Real: the map of items. -/
section
namespace Go.Proofs.YthpecpkncifngaaDoor.X
open Go Go.RowKit Go.Shelf Go.Proofs.YthpecpkncifngaaDoor Go.Proofs.YthpecpkncifngaaDoorW.PrintWords Go.Proofs.YthpecpkncifngaaDoorW.PrintLast Go.Proofs.YthpecpkncifngaaDoorW.PrintMore Go.Proofs.YthpecpkncifngaaDoor.Pure
def MapOf (xs : List S26) (k : Nat) (l : List (ByteArray × Value)) : Prop :=
  ∀ s, (lk xs k s = none ∧ Mp.mget l s = none) ∨ ∃ (i : Nat) (A4 : Option Addr) (c4 : Nat), lk xs k s = some i ∧ Mp.mget l s = some (.agg (cellsIt (rd_T26 xs i) A4 c4))
theorem MapOf.nil (xs : List S26) : MapOf xs 0 [] := fun s => .inl ⟨rfl, rfl⟩
theorem MapOf.put {xs : List S26} {k : Nat} {l : List (ByteArray × Value)} (h : MapOf xs k l) (A4 : Option Addr) (c4 : Nat) :
    MapOf xs (k + 1) (Mp.mput l (rd_T26 xs k).f0 (.agg (cellsIt (rd_T26 xs k) A4 c4))) := by
  intro s
  rw [Mp.mget_put, lk]
  by_cases e : (rd_T26 xs k).f0 = s
  · rw [if_pos e, if_pos e]
    exact .inr ⟨k, A4, c4, rfl, rfl⟩
  · rw [if_neg e, if_neg e]
    exact h s
theorem MapOf.tells {xs : List S26} {l : List (ByteArray × Value)} (h : MapOf xs xs.length l) (hc : (checkP xs).2 = 0) (s : ByteArray) :
    (itemOf xs s.data.toList = none ∧ Mp.mget l s = none) ∨ ∃ x A4 c4, itemOf xs s.data.toList = some x ∧ Mp.mget l s = some (.agg (cellsIt x A4 c4)) := by
  have hi := lk_item hc s
  rcases h s with ⟨h1, h2⟩ | ⟨i, A4, c4, h1, h2⟩
  · rw [h1] at hi; exact .inl ⟨hi.symm, h2⟩
  · rw [h1] at hi; exact .inr ⟨_, A4, c4, hi.symm, h2⟩
theorem zeroIt (w : World) : (zeroValue 26).run Tryd.prog w = .ok (.agg #[.string ⟨#[]⟩, .int .u8 0, .int .i64 0, .int .i64 0, .slice none 0 0, .string ⟨#[]⟩]) w := by kernel_rfl
theorem slcut_any (s : ByteArray) (w : World) (hs : s.size ≤ 1048576) :
    Calls Tryd.prog 83 #[.string s, .string ⟨#[47]⟩] w fun e w' => (∃ b, e = .returned (.tuple #[.string (if Lib.indexByte s.data.toList 47 = -1 then s else s.extract 0 (Lib.indexByte s.data.toList 47).toNat), .string (if Lib.indexByte s.data.toList 47 = -1 then ⟨#[]⟩ else s.extract ((Lib.indexByte s.data.toList 47).toNat + 1) s.size), .bool b])) ∧ ∃ n, w' = w.drewN n := by
  have hge := Lib.indexByte_ge s.data.toList 47
  by_cases hi : Lib.indexByte s.data.toList 47 = -1
  · rw [if_pos hi, if_pos hi]
    go_enter Tryd.func83, Tryd.ntmps83
    go_wp2_with fail
    refine (Tryd.stringslite_Index_one s 47 w).mono ?_
    rw [hi]
    rintro e w' ⟨rfl, rfl⟩
    go_wp2
    go_ret3
    exact ⟨⟨_, rfl⟩, 0, rfl⟩
  · rw [if_neg hi, if_neg hi]
    obtain ⟨n, hn⟩ := Int.eq_ofNat_of_zero_le (show 0 ≤ Lib.indexByte s.data.toList 47 by omega)
    have hlt := (Nm.pc_some s.data.toList 0 n hn).1
    rw [Pure.len_eq] at hlt
    have c1 : decide ((0 : Int) ≤ (n : Int)) = true := decide_eq_true (by omega)
    rw [hn, Int.toNat_natCast]
    go_enter Tryd.func83, Tryd.ntmps83
    go_wp2_with fail
    refine (Tryd.stringslite_Index_one s 47 w).mono ?_
    rw [hn]
    rintro e w' ⟨rfl, rfl⟩
    clear hi hge hn
    go_wp2
    go_quiet (fail)
    go_wp2
    go_ret3
    exact ⟨⟨_, rfl⟩, _, rfl⟩
end Go.Proofs.YthpecpkncifngaaDoor.X
end

/- The contract of tree.Real: the walk. -/
section
namespace Go.Proofs.YthpecpkncifngaaDoor.X
open Go Go.RowKit Go.Shelf Go.Proofs.YthpecpkncifngaaDoor Go.Proofs.YthpecpkncifngaaDoorW.PrintWords Go.Proofs.YthpecpkncifngaaDoorW.PrintLast Go.Proofs.YthpecpkncifngaaDoorW.PrintMore Go.Proofs.YthpecpkncifngaaDoor.Pure
def szOf : Value → Nat
  | .string s => s.size
  | _ => 0
theorem isEmpty_true {s : ByteArray} (h : s.data.toList = []) : s.toList.isEmpty = true := by rw [Lib.toList_data, h]; rfl
theorem isEmpty_false {s : ByteArray} (h : s.data.toList ≠ []) : s.toList.isEmpty = false := by rw [Lib.toList_data]; simpa using h
theorem cut_any {s : ByteArray} {p : List UInt8} {rest : List (List UInt8)} (hs : s.data.toList = Nm.joinT (p :: rest)) (hG : Nm.Good (p :: rest)) (hz : s.size ≤ 1048576) :
    ∃ sp sl : ByteArray, sp.data.toList = p ∧ sl.data.toList = Nm.joinT rest ∧ ∀ w, Calls Tryd.prog 58 #[.string s, .string ⟨#[47]⟩] w fun e w' => (∃ b, e = .returned (.tuple #[.string sp, .string sl, .bool b])) ∧ ∃ n, w' = w.drewN n := by
  refine ⟨if Lib.indexByte s.data.toList 47 = -1 then s else s.extract 0 (Lib.indexByte s.data.toList 47).toNat, if Lib.indexByte s.data.toList 47 = -1 then ⟨#[]⟩ else s.extract ((Lib.indexByte s.data.toList 47).toNat + 1) s.size, ?_, ?_, fun w => ?_⟩
  rotate_left 2
  · have hc := slcut_any s w hz
    generalize (if Lib.indexByte s.data.toList 47 = -1 then s else s.extract 0 (Lib.indexByte s.data.toList 47).toNat) = u1 at hc ⊢
    generalize (if Lib.indexByte s.data.toList 47 = -1 then (⟨#[]⟩ : ByteArray) else s.extract ((Lib.indexByte s.data.toList 47).toNat + 1) s.size) = u2 at hc ⊢
    have HC := Aside0.mk hc
    clear hc
    go_enter Tryd.func58, Tryd.ntmps58
    go_wp2_with fail
    refine HC.out.mono ?_
    rintro e w' ⟨⟨b, rfl⟩, n, rfl⟩
    go_wp2
    go_ret3
    exact ⟨by cases b <;> simp, n, rfl⟩
  · rw [hs]
    rcases Nm.joinT_cut hG with ⟨hr, hi, he⟩ | ⟨hr, hi, hlt, ht, hd⟩
    · rw [hi, if_pos rfl, hs, he]
    · rw [hi, if_neg (by omega), Int.toNat_natCast]
      simp only [ByteArray.data_extract, Array.toList_extract]
      rw [hs]
      simpa using ht
  · rw [hs]
    rcases Nm.joinT_cut hG with ⟨hr, hi, he⟩ | ⟨hr, hi, hlt, ht, hd⟩
    · rw [hi, if_pos rfl, hr]; rfl
    · rw [hi, if_neg (by omega), Int.toNat_natCast]
      rw [Sp.ext_from, hs, hd]
theorem trim_any {s : ByteArray} {q L : List (List UInt8)} (hs : s.data.toList = Nm.joinT q ++ 47 :: Nm.joinT L) (hq : Nm.Good q) (hL : Nm.Good L) (hz : s.size ≤ 1048576) (w : World) :
    Calls Tryd.prog 60 #[.string s, .string ⟨#[47]⟩] w fun e w' => e = .returned (.string (bytesOfL (Nm.joinT (q ++ L)))) ∧ ∃ n, w' = w.drewN n := by
  refine (Tryd.strings_Trim_one s 47 (by decide) w (by omega)).mono ?_
  rw [hs, Nm.trim_join hq hL]
  rintro e w' ⟨rfl, rfl | rfl⟩
  · exact ⟨rfl, 0, rfl⟩
  · exact ⟨rfl, 1, rfl⟩
set_option maxRecDepth 100000 in
set_option maxHeartbeats 8000000 in
theorem real_any (A : Option Addr) (c : Nat) (xs : List S26) (path : ByteArray) (w : World) (hr : Kd.C k26 w A xs.length xs) :
    Calls Tryd.prog 23 #[.slice A xs.length c, .string path] w fun e w' => e = .returned (.tuple #[.string (bytesOfL (realT xs path.data.toList).1), .int .i64 (realT xs path.data.toList).2]) ∧ Below w.heap.size w w' := by
  have hmm := @run_makeMap Tryd.prog
  have HR := Aside0.mk hr
  clear hr
  by_cases h1 : (checkP xs).2 = 0
  case neg =>
    have H := Lib.hid (show realT xs path.data.toList = ([], (checkP xs).2) by unfold realT; rw [if_pos h1])
    have hd : ((checkP xs).2 != 0) = true := by simpa using h1
    rw [H.out]
    clear h1
    go_enter Tryd.func23, Tryd.ntmps23
    go_wp2_with fail
    refine (check_tree A c xs _ HR.out).mono ?_
    rintro e w1 ⟨rfl, hb⟩
    go_wp2
    go_ret2
    exact ⟨rfl, hb⟩
  have hd : ((checkP xs).2 != 0) = false := by simpa using h1
  by_cases h2 : path.data.toList = []
  · have H := Lib.hid (show realT xs path.data.toList = ([], 0) by unfold realT; rw [if_neg (by simp [h1]), if_pos h2])
    have he : path.toList.isEmpty = true := isEmpty_true h2
    rw [H.out]
    clear h1 h2
    go_enter Tryd.func23, Tryd.ntmps23
    go_wp2_with fail
    refine (check_tree A c xs _ HR.out).mono ?_
    rintro e w1 ⟨rfl, hb⟩
    go_wp2
    go_ret2
    exact ⟨rfl, hb⟩
  have he : path.toList.isEmpty = false := isEmpty_false h2
  by_cases h3 : (Nm.check path.data.toList).2 = 0
  case neg =>
    have H := Lib.hid (show realT xs path.data.toList = ([], ((Nm.check path.data.toList).2 : Int)) by unfold realT; rw [if_neg (by simp [h1]), if_neg h2, if_pos h3])
    have hd3 : (((Nm.check path.data.toList).2 : Int) != 0) = true := by simpa using h3
    rw [H.out]
    clear h1 h2 h3
    go_enter Tryd.func23, Tryd.ntmps23
    go_wp2_with fail
    refine (check_tree A c xs _ HR.out).mono ?_
    rintro e w1 ⟨rfl, hb⟩
    have HB1 := Aside0.mk hb
    clear hb
    go_wp2_with fail
    refine (check_any path w1).mono ?_
    rintro e w2 ⟨rfl, hb⟩
    go_wp2
    go_ret2
    exact ⟨rfl, HB1.out.trans (hb.mono HB1.out.size)⟩
  have hd3 : (((Nm.check path.data.toList).2 : Int) != 0) = false := by simpa using h3
  have HC := Lib.hid h1
  have H := Lib.hid (show realT xs path.data.toList = realP xs [] (Nm.texts path.data.toList) 0 by unfold realT; rw [if_neg (by simp [h1]), if_neg h2, if_neg (by simp [h3])])
  have HG := Aside0.mk (Nm.check_good h3)
  have HT := Aside0.mk (show Nm.totL (Nm.texts path.data.toList) ≤ 401 by rw [Nm.totL_texts]; have := ((Nm.check_ok _).1 h3).1; omega)
  have hxl := (chk_ok h1).1
  clear h1 h2 h3
  go_enter Tryd.func23, Tryd.ntmps23
  go_wp2_with fail
  refine (check_tree A c xs _ HR.out).mono ?_
  rintro e w1 ⟨rfl, hb⟩
  have HB1 := Aside0.mk hb
  clear hb
  go_wp2_with fail
  refine (check_any path w1).mono ?_
  rintro e w2 ⟨rfl, hb⟩
  have HB2 := Aside0.mk (HB1.out.trans (hb.mono HB1.out.size))
  clear hb HB1
  go_wp2
  clear hd hd3 he
  go_loopw [45] (fun i wr => ∃ (k : Nat) (l : List (ByteArray × Value)), k ≤ xs.length ∧ i = .int .i64 k ∧ Aside0 (Below w.heap.size w wr) ∧ Aside0 (Mp.At Mp.strKey wr w2.heap.size l) ∧ Aside0 (MapOf xs k l)) (fun i _ => xs.length - (intOf i).toNat)
  case atStart => exact ⟨0, [], Nat.zero_le _, rfl, ⟨HB2.out.alloc HB2.out.size _⟩, ⟨Mp.at_made w2⟩, ⟨MapOf.nil xs⟩⟩
  case round =>
    obtain ⟨k, l, hk, rfl, hB, hM, hP⟩ := hrel
    by_cases hlt : k < xs.length
    · obtain ⟨ad, A4, c4, rfl, h0, h1, h2, h3, h4, h5, hl, hr4⟩ := at_it HR.out hB.out k hlt
      clear hl hr4
      have hBa : Below wr.heap.size wr (wr.alloc (.cells (cellsIt (rd_T26 xs k) A4 c4) 26)) := (Below.refl _ wr).alloc (Nat.le_refl _) _
      obtain ⟨o, ho, hrun3, hM3⟩ := (hM.out.below hBa).update (K := Mp.strKey) Tryd.underlying84 Tryd.underlying9 (rd_T26 xs k).f0 (.agg (cellsIt (rd_T26 xs k) A4 c4))
      have HM3 := Aside0.mk hM3
      have HBa := Aside0.mk (hB.out.trans (hBa.mono hB.out.size))
      have hrun4 : (Instr.mapUpdate 84 (.map (some w2.heap.size)) (.string (rd_T26 xs k).f0) (.agg #[.string (rd_T26 xs k).f0, .int .u8 (rd_T26 xs k).f1, .int .i64 (rd_T26 xs k).f2, .int .i64 (rd_T26 xs k).f3, .slice A4 (rd_T26 xs k).f4.length c4, .string (rd_T26 xs k).f5])).run Tryd.prog (wr.alloc (.cells #[.string (rd_T26 xs k).f0, .int .u8 (rd_T26 xs k).f1, .int .i64 (rd_T26 xs k).f2, .int .i64 (rd_T26 xs k).f3, .slice A4 (rd_T26 xs k).f4.length c4, .string (rd_T26 xs k).f5] 26)) = .ok () ((wr.alloc (.cells (cellsIt (rd_T26 xs k) A4 c4) 26)).putObj w2.heap.size o) := hrun3
      clear hM3 hrun3 hBa hM
      go_wp2
      go_roundw
      case rel => exact ⟨k + 1, _, by omega, by go_num, ⟨HBa.out.grown (grownBy_putObj' _ _ _) HBa.out.size (fun j hj => by cases hj; exact HB2.out.size)⟩, HM3, ⟨hP.out.put A4 c4⟩⟩
      case measure => simp [intOf]; omega
    · obtain rfl : k = xs.length := by omega
      have HF := Aside0.mk hP.out.tells
      have HB3 := hB
      have HM3 := hM
      clear hP hB hM hlt hk
      go_wp2
      go_loopw [13, 14, 15] (fun r h t wq => ∃ (R L : List (List UInt8)) (q s : ByteArray) (hops : Nat), r = .string q ∧ h = .int .i64 (hops : Nat) ∧ t = .string s ∧ hops ≤ 40 ∧ Hid (q.data.toList = Nm.joinT R) ∧ Hid (s.data.toList = Nm.joinT L) ∧ Aside0 (Nm.Good L ∧ Nm.totL L ≤ 401 + 802 * hops) ∧ Aside0 (Nm.Good R ∧ Nm.totL R ≤ 401) ∧ Hid (realP xs [] (Nm.texts path.data.toList) 0 = realP xs R L hops) ∧ Aside0 (Below w.heap.size w wq) ∧ Aside0 (Mp.At Mp.strKey wq w2.heap.size l)) (fun _ h t _ => (40 - (intOf h).toNat) * 100000 + szOf t)
      case atStart => exact ⟨[], Nm.texts path.data.toList, ⟨#[]⟩, path, 0, rfl, rfl, rfl, by omega, Lib.hid rfl, Lib.hid (Nm.joinT_texts _).symm, ⟨HG.out, HT.out⟩, ⟨Nm.Good.nil, by simp [Nm.totL]⟩, Lib.hid rfl, HB3, HM3⟩
      case round =>
        obtain ⟨R, L, q, s, hops, rfl, rfl, rfl, hh, hq, hs, hL, hRR, hi, hB, hM⟩ := hrel
        cases L with
        | nil =>
          have e0 : s.toList.isEmpty = true := isEmpty_true hs.out
          go_wp2
          go_ret2
          exact ⟨by rw [H.out, hi.out, real_nil, ← hq.out]; rfl, hB.out⟩
        | cons p rest =>
          have e0 : s.toList.isEmpty = false := isEmpty_false (by rw [hs.out]; exact fun e => by have := (Nm.joinT_nil hL.out.1).1 e; cases this)
          have hsz : s.size ≤ 40000 := by
            have := Nm.joinT_totL (p :: rest)
            have h2 := hL.out.2
            rw [← hs.out, Pure.len_eq] at this
            omega
          obtain ⟨sp, sl, hsp, hsl, hcut⟩ := cut_any hs.out hL.out.1 (by omega)
          have HCut := Aside0.mk hcut
          clear hcut
          go_wp2_with fail
          refine (HCut.out _).mono ?_
          rintro e w3 ⟨⟨bb, rfl⟩, n3, hw3⟩
          have hMq := Aside0.mk (show Mp.At Mp.strKey w3 w2.heap.size l from hM.out.move (by rw [hw3]; rfl))
          have hBq := Aside0.mk (show Below w.heap.size w w3 by rw [hw3]; exact pw_below_drewN hB.out n3)
          clear hw3
          obtain ⟨key, hkey, hcase⟩ : ∃ key : ByteArray, key.data.toList = Nm.joinT (R ++ [p]) ∧ ((q.toList.isEmpty = true ∧ key = sp) ∨ (q.toList.isEmpty = false ∧ key = q ++ ⟨#[47]⟩ ++ sp)) := by
            by_cases hR : R = []
            · subst hR; exact ⟨sp, by rw [hsp]; rfl, .inl ⟨isEmpty_true hq.out, rfl⟩⟩
            · refine ⟨_, ?_, .inr ⟨isEmpty_false (by rw [hq.out]; exact fun e => hR ((Nm.joinT_nil hRR.out.1).1 e)), rfl⟩⟩
              rw [Nm.joinT_append R [p] hR (by simp)]
              simp [hq.out, hsp, Nm.joinT]
          have hgr := hL.out.1.tail
          have hlt : sl.size < s.size := by
            have e1 := Nm.joinT_len_good (p :: rest) (by simp)
            have e2 := Pure.len_eq s
            have e3 := Pure.len_eq sl
            have e4 := List.length_pos_iff.2 (hL.out.1.head).1
            rw [hs.out] at e2
            rw [hsl] at e3
            have e6 : Nm.totL (p :: rest) = p.length + 1 + Nm.totL rest := by simp [Nm.totL]
            have e5 := Nm.joinT_totL rest
            omega
          have htl : Nm.totL rest ≤ 401 + 802 * hops := by
            have := hL.out.2
            simp [Nm.totL] at this ⊢
            omega
          have hqz : q.size ≤ 401 := by
            have e1 := Nm.joinT_totL R
            have e2 := Pure.len_eq q
            have e3 := hRR.out.2
            rw [hq.out] at e2
            omega
          have hspz : sp.size ≤ 40000 := by
            have e2 := Pure.len_eq sp
            rw [hsp] at e2
            have e3 := hL.out.2
            simp [Nm.totL] at e3
            omega
          have hlook := hMq.out.lookup (K := Mp.strKey) Tryd.underlying84 Tryd.underlying9 key zeroIt true
          rcases HF.out HC.out key with ⟨ht1, ht2⟩ | ⟨x, A4, c4, ht1, ht2⟩
          · rw [hkey] at ht1
            have HI := Lib.hid (hi.out.trans (real_none (hops := hops) (rest := rest) ht1))
            rw [ht2] at hlook
            have hrun : (Instr.lookup 84 (.map (some w2.heap.size)) (.string key) true).run Tryd.prog w3 = .ok (.tuple #[.agg #[.string ⟨#[]⟩, .int .u8 0, .int .i64 0, .int .i64 0, .slice none 0 0, .string ⟨#[]⟩], .bool false]) w3 := hlook
            clear hlook ht1 ht2 hkey
            rcases hcase with ⟨eq, rfl⟩ | ⟨eq, rfl⟩
            all_goals
              go_wp2
              go_ret2
              exact ⟨by rw [H.out, HI.out]; rfl, hBq.out.alloc hBq.out.size _⟩
          · rw [hkey] at ht1
            obtain ⟨hx, _⟩ := item_some ht1
            rw [ht2] at hlook
            have hmy := (chk_rise HC.out).2 x hx
            have hkd := may_kind hmy
            have hgx := Nm.parts_check (may_check hmy)
            have htx : Nm.totL (Nm.partsL x.f0.data.toList) ≤ 401 := by rw [hgx.2.1, Nm.totL_texts]; have := may_size hmy; have := Pure.len_eq x.f0; omega
            obtain ⟨f0, f1, f2, f3, f4, f5⟩ := x
            simp only at hkd hgx htx
            rcases hkd with rfl | rfl | rfl | rfl
            · have hh1 : hardTo xs ⟨f0, 1, f2, f3, f4, f5⟩ = ⟨f0, 1, f2, f3, f4, f5⟩ := by unfold hardTo; exact if_neg (by simp)
              have hrun : (Instr.lookup 84 (.map (some w2.heap.size)) (.string key) true).run Tryd.prog w3 = .ok (.tuple #[.agg #[.string f0, .int .u8 1, .int .i64 f2, .int .i64 f3, .slice A4 f4.length c4, .string f5], .bool true]) w3 := hlook
              by_cases hre : rest = []
              · have esl : sl.toList.isEmpty = true := isEmpty_true (by rw [hsl, hre]; rfl)
                have hi2 := hi.out.trans (real_go (hops := hops) ht1 (fun q => q.2 hre) (by rw [hh1]; simp))
                rw [hh1] at hi2
                have HI := Lib.hid hi2
                clear hi2 hlook ht1 ht2 hkey hh1 hre hmy
                rcases hcase with ⟨eq, rfl⟩ | ⟨eq, rfl⟩
                all_goals
                  go_wp2
                  go_roundw
                  case rel => exact ⟨Nm.partsL f0.data.toList, rest, f0, sl, hops, rfl, rfl, rfl, hh, Lib.hid (Nm.joinT_parts _).symm, Lib.hid hsl, ⟨hgr, htl⟩, ⟨hgx.2.2, htx⟩, HI, ⟨hBq.out.alloc hBq.out.size _⟩, ⟨hMq.out.below ((Below.refl _ w3).alloc (Nat.le_refl _) _)⟩⟩
                  case measure => simp [intOf, szOf]; omega
              · have esl : sl.toList.isEmpty = false := isEmpty_false (by rw [hsl]; exact fun e => hre ((Nm.joinT_nil hgr).1 e))
                have HI := Lib.hid (hi.out.trans (real_file (hops := hops) ht1 (by rw [hh1]) hre))
                clear hlook ht1 ht2 hkey hh1 hre hmy
                rcases hcase with ⟨eq, rfl⟩ | ⟨eq, rfl⟩
                all_goals
                  go_wp2
                  go_ret2
                  exact ⟨by rw [H.out, HI.out]; rfl, hBq.out.alloc hBq.out.size _⟩
            · have hh1 : hardTo xs ⟨f0, 2, f2, f3, f4, f5⟩ = ⟨f0, 2, f2, f3, f4, f5⟩ := by unfold hardTo; exact if_neg (by simp)
              have hrun : (Instr.lookup 84 (.map (some w2.heap.size)) (.string key) true).run Tryd.prog w3 = .ok (.tuple #[.agg #[.string f0, .int .u8 2, .int .i64 f2, .int .i64 f3, .slice A4 f4.length c4, .string f5], .bool true]) w3 := hlook
              have hi2 := hi.out.trans (real_go (hops := hops) (rest := rest) ht1 (by rw [hh1]; exact fun q => absurd q.1 (by simp)) (by rw [hh1]; simp))
              rw [hh1] at hi2
              have HI := Lib.hid hi2
              clear hi2 hlook ht1 ht2 hkey hh1 hmy
              rcases hcase with ⟨eq, rfl⟩ | ⟨eq, rfl⟩
              all_goals
                go_wp2
                go_roundw
                case rel => exact ⟨Nm.partsL f0.data.toList, rest, f0, sl, hops, rfl, rfl, rfl, hh, Lib.hid (Nm.joinT_parts _).symm, Lib.hid hsl, ⟨hgr, htl⟩, ⟨hgx.2.2, htx⟩, HI, ⟨hBq.out.alloc hBq.out.size _⟩, ⟨hMq.out.below ((Below.refl _ w3).alloc (Nat.le_refl _) _)⟩⟩
                case measure => simp [intOf, szOf]; omega
            · obtain ⟨z, hz, hze, hz1⟩ := hard_file HC.out hx rfl
              obtain ⟨g0, g1, g2, g3, g4, g5⟩ := z
              simp only at hz1 hze
              subst hz1
              have hrun : (Instr.lookup 84 (.map (some w2.heap.size)) (.string key) true).run Tryd.prog w3 = .ok (.tuple #[.agg #[.string f0, .int .u8 3, .int .i64 f2, .int .i64 f3, .slice A4 f4.length c4, .string f5], .bool true]) w3 := hlook
              have hM4 := hMq.out.below ((Below.refl _ w3).alloc (Nat.le_refl _) (.cells #[.string f0, .int .u8 3, .int .i64 f2, .int .i64 f3, .slice A4 f4.length c4, .string f5] 26))
              have hlook2 := hM4.lookup (K := Mp.strKey) Tryd.underlying84 Tryd.underlying9 f5 zeroIt false
              rcases HF.out HC.out f5 with ⟨hn, _⟩ | ⟨z', A5, c5, hz', hm'⟩
              · rw [hze] at hn; cases hn
              rw [hze] at hz'
              obtain rfl := Option.some.inj hz'
              rw [hm'] at hlook2
              have hrun2 : (Instr.lookup 84 (.map (some w2.heap.size)) (.string f5) false).run Tryd.prog (w3.alloc (.cells #[.string f0, .int .u8 3, .int .i64 f2, .int .i64 f3, .slice A4 f4.length c4, .string f5] 26)) = .ok (.agg #[.string g0, .int .u8 1, .int .i64 g2, .int .i64 g3, .slice A5 g4.length c5, .string g5]) (w3.alloc (.cells #[.string f0, .int .u8 3, .int .i64 f2, .int .i64 f3, .slice A4 f4.length c4, .string f5] 26)) := hlook2
              have hh1 : hardTo xs ⟨f0, 3, f2, f3, f4, f5⟩ = ⟨g0, 1, g2, g3, g4, g5⟩ := by unfold hardTo; rw [if_pos rfl]; simp only; rw [hze]; rfl
              have hmz := (chk_rise HC.out).2 _ hz
              have hgz := Nm.parts_check (may_check hmz)
              simp only at hgz
              have htz : Nm.totL (Nm.partsL g0.data.toList) ≤ 401 := by rw [hgz.2.1, Nm.totL_texts]; have := may_size hmz; have := Pure.len_eq g0; simp only at *; omega
              have HM4 := Aside0.mk hM4
              have HB4 := Aside0.mk (hBq.out.alloc hBq.out.size (.cells #[.string f0, .int .u8 3, .int .i64 f2, .int .i64 f3, .slice A4 f4.length c4, .string f5] 26))
              by_cases hre : rest = []
              · have esl : sl.toList.isEmpty = true := isEmpty_true (by rw [hsl, hre]; rfl)
                have hi2 := hi.out.trans (real_go (hops := hops) ht1 (fun q => q.2 hre) (by rw [hh1]; simp))
                rw [hh1] at hi2
                have HI := Lib.hid hi2
                clear hi2 hlook hlook2 ht1 ht2 hkey hh1 hre hmy hM4 hm' hz' hze hmz
                rcases hcase with ⟨eq, rfl⟩ | ⟨eq, rfl⟩
                all_goals
                  go_wp2
                  go_roundw
                  case rel => exact ⟨Nm.partsL g0.data.toList, rest, g0, sl, hops, rfl, rfl, rfl, hh, Lib.hid (Nm.joinT_parts _).symm, Lib.hid hsl, ⟨hgr, htl⟩, ⟨hgz.2.2, htz⟩, HI, ⟨hBq.out.alloc hBq.out.size _⟩, ⟨hMq.out.below ((Below.refl _ w3).alloc (Nat.le_refl _) _)⟩⟩
                  case measure => simp [intOf, szOf]; omega
              · have esl : sl.toList.isEmpty = false := isEmpty_false (by rw [hsl]; exact fun e => hre ((Nm.joinT_nil hgr).1 e))
                have HI := Lib.hid (hi.out.trans (real_file (hops := hops) ht1 (by rw [hh1]) hre))
                clear hlook hlook2 ht1 ht2 hkey hh1 hre hmy hM4 hm' hz' hze hmz
                rcases hcase with ⟨eq, rfl⟩ | ⟨eq, rfl⟩
                all_goals
                  go_wp2
                  go_ret2
                  exact ⟨by rw [H.out, HI.out]; rfl, hBq.out.alloc hBq.out.size _⟩
            · have hh1 : hardTo xs ⟨f0, 4, f2, f3, f4, f5⟩ = ⟨f0, 4, f2, f3, f4, f5⟩ := by unfold hardTo; exact if_neg (by simp)
              have hrun : (Instr.lookup 84 (.map (some w2.heap.size)) (.string key) true).run Tryd.prog w3 = .ok (.tuple #[.agg #[.string f0, .int .u8 4, .int .i64 f2, .int .i64 f3, .slice A4 f4.length c4, .string f5], .bool true]) w3 := hlook
              by_cases h40 : hops = 40
              · have e40 : ((hops : Int) == 40) = true := by simp; omega
                have HI := Lib.hid (hi.out.trans (real_loop (hops := hops) (rest := rest) ht1 (by rw [hh1]) (by omega)))
                clear hlook ht1 ht2 hkey hh1 hmy h40
                rcases hcase with ⟨eq, rfl⟩ | ⟨eq, rfl⟩
                all_goals
                  go_wp2
                  go_ret2
                  exact ⟨by rw [H.out, HI.out]; rfl, hBq.out.alloc hBq.out.size _⟩
              · have e40 : ((hops : Int) == 40) = false := by simp; omega
                have hi2 := hi.out.trans (real_soft (hops := hops) (rest := rest) ht1 (by rw [hh1]) (by omega))
                rw [hh1] at hi2
                obtain ⟨q0, hq1, hq2, hq3⟩ := Nm.lead_good (may_soft_lead hmy rfl)
                simp only at hi2 hq1
                rw [hq1, Nm.parts_joinT hq2] at hi2
                have HI := Lib.hid hi2
                have hto : (bytesOfL (Nm.lead f0.data.toList f5.data.toList).1).data.toList = Nm.joinT q0 := by rw [← hq1]; rfl
                have hLd := LeadW.lead_any f0 f5
                generalize bytesOfL (Nm.lead f0.data.toList f5.data.toList).1 = tx at hto hLd
                generalize ((Nm.lead f0.data.toList f5.data.toList).2 : Int) = te at hLd
                have HLd := Aside0.mk hLd
                have htz : tx.size ≤ 802 := by have e1 := Nm.joinT_totL q0; have e2 := Pure.len_eq tx; rw [hto] at e2; omega
                have hslz : sl.size ≤ 40000 := by omega
                clear hi2 hlook ht1 ht2 hkey hh1 hmy hq1 hLd
                rcases hcase with ⟨eq, rfl⟩ | ⟨eq, rfl⟩
                all_goals
                  go_wp2_with fail
                  refine (HLd.out _).mono ?_
                  rintro e w5 ⟨rfl, hb⟩
                  have hB5 := Aside0.mk ((hBq.out.alloc hBq.out.size _).trans (hb.mono (hBq.out.alloc hBq.out.size _).size))
                  have hM5 := Aside0.mk ((hMq.out.below ((Below.refl _ w3).alloc (Nat.le_refl _) _)).below hb)
                  clear hb
                  have HTr := Aside0.mk (fun w => trim_any (s := tx ++ ⟨#[47]⟩ ++ sl) (q := q0) (L := rest) (by simp [hto, hsl]) hq2 hgr (by rw [ByteArray.size_append, ByteArray.size_append]; have : (⟨#[47]⟩ : ByteArray).size = 1 := rfl; omega) w)
                  go_wp2_with fail
                  refine (HTr.out _).mono ?_
                  rintro e w6 ⟨rfl, n6, hw6⟩
                  have hB6 := Aside0.mk (show Below w.heap.size w w6 by rw [hw6]; exact pw_below_drewN hB5.out n6)
                  have hM6 := Aside0.mk (show Mp.At Mp.strKey w6 w2.heap.size l from hM5.out.move (by rw [hw6]; rfl))
                  clear hw6
                  go_wp2
                  go_roundw
                  case rel => exact ⟨[], q0 ++ rest, ⟨#[]⟩, bytesOfL (Nm.joinT (q0 ++ rest)), hops + 1, rfl, by go_num, rfl, by omega, Lib.hid rfl, Lib.hid rfl, ⟨hq2.append hgr, by rw [Nm.totL_append]; omega⟩, ⟨Nm.Good.nil, by simp [Nm.totL]⟩, HI, hB6, hM6⟩
                  case measure =>
                    have e1 := Nm.joinT_totL (q0 ++ rest)
                    rw [Nm.totL_append] at e1
                    have e2 := Pure.bytes_size (Nm.joinT (q0 ++ rest))
                    simp [intOf, szOf]
                    omega
end Go.Proofs.YthpecpkncifngaaDoor.X
end

/- The law's awake: the tree of the examples, and what is asked of it. -/
section
namespace Go.Proofs.YthpecpkncifngaaDoor.X
open Go Go.RowKit Go.Shelf Go.Proofs.YthpecpkncifngaaDoor Go.Proofs.YthpecpkncifngaaDoorW.PrintWords Go.Proofs.YthpecpkncifngaaDoorW.PrintLast Go.Proofs.YthpecpkncifngaaDoorW.PrintMore Go.Proofs.YthpecpkncifngaaDoor.Pure
def smallP : List S26 := [⟨⟨#[97]⟩, 2, 0, 0, [], ⟨#[]⟩⟩, ⟨⟨#[97, 47, 102]⟩, 1, 0, 0, [1, 2, 3], ⟨#[]⟩⟩, ⟨⟨#[97, 47, 104]⟩, 3, 0, 0, [], ⟨#[97, 47, 102]⟩⟩, ⟨⟨#[97, 47, 115]⟩, 4, 0, 0, [], ⟨#[102]⟩⟩, ⟨⟨#[108]⟩, 4, 0, 0, [], ⟨#[97]⟩⟩]
theorem small_any (w : World) : Calls Tryd.prog 34 #[] w fun e w' => (∃ A c, e = .returned (.slice A smallP.length c) ∧ smallP.length ≤ c ∧ Kd.C k26 w' A smallP.length smallP) ∧ Below w.heap.size w w' := by
  refine (tabularylaw11_small.calls smallP w rfl).mono ?_
  rintro e w' ⟨v, rfl, hN, hb⟩
  obtain ⟨A, c, rfl, hc, _⟩ := N_cap hN
  exact ⟨⟨A, c, rfl, hc, (Kd.N_reads' hN).2.2⟩, hb⟩
theorem small_step (k : Nat) (h : k < 5) : stepP smallP k = 0 := by
  match k, h with
  | 0, _ => decide +kernel
  | 1, _ => decide +kernel
  | 2, _ => decide +kernel
  | 3, _ => decide +kernel
  | 4, _ => decide +kernel
theorem small_check : checkP smallP = (0, 0) := by
  unfold checkP
  rw [if_neg (by decide), chkP_go (by decide) (small_step 0 (by decide)), chkP_go (by decide) (small_step 1 (by decide)), chkP_go (by decide) (small_step 2 (by decide)), chkP_go (by decide) (small_step 3 (by decide)), chkP_go (by decide) (small_step 4 (by decide)), chkP_end (by decide)]
theorem small_cut : checkP (smallP.drop 1) = (0, 112) := by
  unfold checkP
  rw [if_neg (by decide), chkP_stop (k := 0) (e := 112) (by decide) (by decide +kernel) (by decide)]
  rfl
theorem small_find : findP smallP ⟨#[97, 47, 104]⟩ = (2, 0) := by
  have h : idxP (fun x => x.f0.toList == (⟨#[97, 47, 104]⟩ : ByteArray).toList) smallP 0 = 2 := by
    rw [idxP_no (by decide) (by decide +kernel), idxP_no (by decide) (by decide +kernel), idxP_yes (by decide) (by decide +kernel)]
    rfl
  unfold findP
  rw [h]
  rfl
theorem small_real : realT smallP [108, 47, 115] = ([97, 47, 102], 0) := by
  unfold realT
  rw [if_neg (by rw [small_check]; simp), if_neg (by simp), if_neg (by decide +kernel)]
  rw [show Nm.texts [108, 47, 115] = [[108], [115]] by decide +kernel]
  rw [real_soft (x := ⟨⟨#[108]⟩, 4, 0, 0, [], ⟨#[97]⟩⟩) (by kernel_rfl) (by decide +kernel) (by decide)]
  rw [show Nm.partsL (Nm.lead (hardTo smallP ⟨⟨#[108]⟩, 4, 0, 0, [], ⟨#[97]⟩⟩).f0.data.toList (hardTo smallP ⟨⟨#[108]⟩, 4, 0, 0, [], ⟨#[97]⟩⟩).f5.data.toList).1 ++ [[115]] = [[97], [115]] by decide +kernel]
  rw [real_go (x := ⟨⟨#[97]⟩, 2, 0, 0, [], ⟨#[]⟩⟩) (by kernel_rfl) (by decide +kernel) (by decide +kernel)]
  rw [show Nm.partsL (hardTo smallP ⟨⟨#[97]⟩, 2, 0, 0, [], ⟨#[]⟩⟩).f0.data.toList = [[97]] by decide +kernel]
  rw [real_soft (x := ⟨⟨#[97, 47, 115]⟩, 4, 0, 0, [], ⟨#[102]⟩⟩) (by kernel_rfl) (by decide +kernel) (by decide)]
  rw [show Nm.partsL (Nm.lead (hardTo smallP ⟨⟨#[97, 47, 115]⟩, 4, 0, 0, [], ⟨#[102]⟩⟩).f0.data.toList (hardTo smallP ⟨⟨#[97, 47, 115]⟩, 4, 0, 0, [], ⟨#[102]⟩⟩).f5.data.toList).1 ++ [] = [[97], [102]] by decide +kernel]
  rw [real_go (x := ⟨⟨#[97]⟩, 2, 0, 0, [], ⟨#[]⟩⟩) (by kernel_rfl) (by decide +kernel) (by decide +kernel)]
  rw [show Nm.partsL (hardTo smallP ⟨⟨#[97]⟩, 2, 0, 0, [], ⟨#[]⟩⟩).f0.data.toList = [[97]] by decide +kernel]
  rw [real_go (x := ⟨⟨#[97, 47, 102]⟩, 1, 0, 0, [1, 2, 3], ⟨#[]⟩⟩) (by kernel_rfl) (by decide +kernel) (by decide +kernel)]
  rw [show Nm.partsL (hardTo smallP ⟨⟨#[97, 47, 102]⟩, 1, 0, 0, [1, 2, 3], ⟨#[]⟩⟩).f0.data.toList = [[97], [102]] by decide +kernel]
  rw [real_nil]
  decide +kernel
theorem small_ben : (beneathP smallP ⟨#[97]⟩).length = 3 := by
  unfold beneathP
  rw [keepP_all]
  have t : ∀ r : List UInt8, (Nm.check ([97, 47] ++ r)).2 = 0 → ben [97] ([97, 47] ++ r) = true := fun r h => ben_true ⟨h, .inr ⟨r, rfl⟩⟩
  have f1 : ben [97] [97] = false := ben_false (fun h => by rcases h.2 with h | ⟨b, h⟩ <;> simp at h)
  have f2 : ben [97] [108] = false := ben_false (fun h => by rcases h.2 with h | ⟨b, h⟩ <;> simp at h)
  have e1 := t [102] (by decide +kernel)
  have e2 := t [104] (by decide +kernel)
  have e3 := t [115] (by decide +kernel)
  simp only [List.cons_append, List.nil_append] at e1 e2 e3
  simp [smallP, List.filter_cons, f1, f2, e1, e2, e3]
set_option maxRecDepth 100000 in
set_option maxHeartbeats 4000000 in
theorem awake_any (w : World) : Calls Tryd.prog 25 #[] w fun e w' => e = .returned (.bool true) ∧ Below w.heap.size w w' := by
  have SA := Aside0.mk small_any
  have F1 := Lib.hid small_check
  have F2 := Lib.hid small_cut
  have F3 := Lib.hid small_find
  have F4 := Lib.hid small_real
  have F5 := Lib.hid small_ben
  have hl1 : 5 ≤ smallP.length := by decide
  have hl2 : smallP.length ≤ 5 := by decide
  have H4 := Aside0.mk (show ∀ x ∈ smallP, x.f4.length ≤ 140737488355328 by decide)
  generalize smallP = sm at *
  go_enter Tryd.func25, Tryd.ntmps25
  go_wp2_with fail
  refine (SA.out _).mono ?_
  rintro e w1 ⟨⟨A1, c1, rfl, hc1, hC1⟩, hb⟩
  have HB1 := Aside0.mk hb
  have HC1 := Aside0.mk hC1
  clear hb hC1
  go_wp2_with fail
  refine (check_tree A1 c1 sm _ HC1.out).mono ?_
  rw [F1.out]
  rintro e w2 ⟨rfl, hb⟩
  have HB2 := Aside0.mk (HB1.out.trans (hb.mono HB1.out.size))
  clear hb HB1 HC1
  go_upto_region 2 with (fail)
  go_cut [3, 4] (fun a b wc => a = .int .i64 0 ∧ b = .int .i64 112 ∧ Aside0 (Below w.heap.size w wc))
  case first =>
    go_wp2_with fail
    refine (SA.out _).mono ?_
    rintro e w3 ⟨⟨A3, c3, rfl, hc3, hC3⟩, hb⟩
    have HB3 := Aside0.mk (HB2.out.trans (hb.mono HB2.out.size))
    obtain ⟨ad, A4, c4, rfl, h0, -⟩ := at_it hC3 (Below.refl _ _) 0 (by omega)
    obtain ⟨b0, o0, rfl⟩ : ∃ b o, ad = ⟨b, o, none⟩ := ⟨_, _, Jn.spot_of (show w3.cell? ad = _ from h0)⟩
    have hd := Kd.C_drop (m := 1) (c := c3) hC3 (by omega) hc3
    rw [if_neg (by omega)] at hd
    have HD := Aside0.mk (show Kd.C k26 w3 (some ⟨b0, o0 + 6, none⟩) (sm.drop 1).length (sm.drop 1) from hd)
    have hdl : (sm.drop 1).length = sm.length - 1 := by simp
    have hc31 : ¬ c3 = 1 := by omega
    clear hb hd h0 hC3
    go_wp2_with fail
    rw [← hdl]
    refine (check_tree _ _ (sm.drop 1) _ HD.out).mono ?_
    rw [F2.out]
    rintro e w4 ⟨rfl, hb⟩
    have HB4 := Aside0.mk (HB3.out.trans (hb.mono HB3.out.size))
    clear hb
    go_wp2
    go_meet
    case rel => exact ⟨rfl, rfl, HB4⟩
  case rest =>
    obtain ⟨rfl, rfl, HBc⟩ := hcut
    clear HB2
    go_wp2_with fail
    refine (SA.out _).mono ?_
    rintro e w5 ⟨⟨A5, c5, rfl, hc5, hC5⟩, hb⟩
    have HB5 := Aside0.mk (HBc.out.trans (hb.mono HBc.out.size))
    have HC5 := Aside0.mk hC5
    clear hb hC5
    go_wp2_with fail
    refine (real_any A5 c5 sm ⟨#[108, 47, 115]⟩ _ HC5.out).mono ?_
    rw [show (⟨#[108, 47, 115]⟩ : ByteArray).data.toList = [108, 47, 115] from rfl, F4.out]
    rintro e w6 ⟨rfl, hb⟩
    have HB6 := Aside0.mk (HB5.out.trans (hb.mono HB5.out.size))
    clear hb HB5 HC5 HBc
    go_wp2_with fail
    refine (SA.out _).mono ?_
    rintro e w7 ⟨⟨A7, c7, rfl, hc7, hC7⟩, hb⟩
    have HB7 := Aside0.mk (HB6.out.trans (hb.mono HB6.out.size))
    have HC7 := Aside0.mk hC7
    clear hb hC7
    go_wp2_with fail
    refine (find_any A7 c7 sm ⟨#[97, 47, 104]⟩ _ HC7.out (by omega)).mono ?_
    rw [F3.out]
    rintro e w8 ⟨rfl, hb⟩
    have HB8 := Aside0.mk (HB7.out.trans (hb.mono HB7.out.size))
    clear hb HB7 HC7 HB6
    have e1 : ((bytesOfL [97, 47, 102]).toList == [97, 47, 102]) = true := by decide +kernel
    go_wp2_with fail
    refine (SA.out _).mono ?_
    rintro e w9 ⟨⟨A9, c9, rfl, hc9, hC9⟩, hb⟩
    have HB9 := Aside0.mk (HB8.out.trans (hb.mono HB8.out.size))
    have HC9 := Aside0.mk hC9
    clear hb hC9
    go_wp2_with fail
    refine (tree_beneath A9 c9 sm ⟨#[97]⟩ _ HC9.out (by omega) H4.out).mono ?_
    rintro e w10 ⟨⟨v, rfl, hV⟩, hb⟩
    obtain ⟨A10, c10, rfl⟩ := Kd.V_slice hV
    rw [F5.out]
    have HB10 := Aside0.mk (HB9.out.trans (hb.mono HB9.out.size))
    clear hb hV
    go_wp2
    go_ret
    exact ⟨rfl, HB10.out⟩
end Go.Proofs.YthpecpkncifngaaDoor.X
end

/- TreeBack: the law's walk. -/
section
namespace Go.Proofs.YthpecpkncifngaaDoor.X
open Go Go.RowKit Go.Shelf Go.Proofs.YthpecpkncifngaaDoor Go.Proofs.YthpecpkncifngaaDoorW.PrintWords Go.Proofs.YthpecpkncifngaaDoorW.PrintLast Go.Proofs.YthpecpkncifngaaDoorW.PrintMore Go.Proofs.YthpecpkncifngaaDoor.Pure
theorem C_item {W : World} {b : Nat} {y : S26} {A4 : Option Addr} {c4 : Nat} (hc : ∀ j v, (cellsIt y A4 c4)[j]? = some v → W.cell? ⟨b, j, none⟩ = some v) (hl : y.f4.length ≤ c4) (hr : (Kd.int .u8).C W A4 y.f4.length y.f4) : Kd.C k26 W (some ⟨b, 0, none⟩) 1 [y] := by
  refine ⟨rfl, by decide, fun _ => ⟨_, rfl, fun j p hj => ?_⟩⟩
  have hj0 : j = 0 := by have := (List.getElem?_eq_some_iff.1 hj).1; simpa using this
  subst hj0
  obtain rfl : y = p := by simpa using hj
  refine ⟨(cellsIt y A4 c4).toList, rfl, Foot.now (k26_mkF W (fun k => k < W.heap.size) y hl (Kd.C_F (Kd.heap_int _) hr)), fun i u hu => ?_⟩
  rw [Addr.add_lit]
  have e : 0 + (0 * k26.sz + i) = i := by omega
  rw [e]
  exact hc i u (by simpa using hu)
theorem mid_one {u : List S26} {j : Nat} {y : S26} (h : rd_T26 u j = y) (hj : j < u.length) : (u.take (j + 1)).drop j = [y] := by
  rw [rd_get u j hj] at h
  rw [List.drop_take, show j + 1 - j = 1 by omega, List.drop_eq_getElem_cons hj, List.take_succ_cons, h]; rfl
theorem apart_eq (y : S26) : apartP y.f0 = neP y := rfl
set_option maxRecDepth 100000 in
set_option maxHeartbeats 8000000 in
theorem treeBack_walk (A : Option Addr) (c : Nat) (xs : List S26) (y : S26) (A4 : Option Addr) (c4 : Nat) (path : ByteArray) (w : World) (hr : Kd.C k26 w A xs.length xs) (hc : xs.length ≤ c) (hm : xs.length * 80 ≤ 140737488351232) (hb4 : ∀ x ∈ xs, x.f4.length ≤ 140737488351232)
    (hy0 : y.f0.size ≤ 140737488351232) (hl : y.f4.length ≤ c4) (hy4 : y.f4.length ≤ 140737488351232) (hr4 : (Kd.int .u8).C w A4 y.f4.length y.f4) :
    Calls Tryd.prog 9 #[.slice A xs.length c, .agg (cellsIt y A4 c4), .string path] w fun e w' => e = .returned (.bool true) ∧ Below w.heap.size w w' := by
  have HR := Aside0.mk hr
  have HR4 := Aside0.mk hr4
  have H4 := Aside0.mk (show ∀ x ∈ xs, x.f4.length ≤ 140737488355328 from fun x hx => Nat.le_trans (hb4 x hx) (by decide))
  clear hr hb4 hr4
  have hB0 : Below w.heap.size w (w.alloc (.cells (cellsIt y A4 c4) 26)) := (Below.refl _ w).alloc (Nat.le_refl _) _
  unfold cellsIt
  go_enter Tryd.func9, Tryd.ntmps9
  go_wp2_with fail
  refine (awake_any _).mono ?_
  rintro e w1 ⟨rfl, hb⟩
  obtain ⟨a0, a1, a2, a3, a4, a5, az⟩ := box_it y A4 c4 hb
  have HB1 := Aside0.mk (hB0.trans (hb.mono hB0.size))
  have HA := Aside0.mk (show ∀ W : World, Below w1.heap.size w1 W → W.cell? ⟨w.heap.size, 0, none⟩ = some (.string y.f0) ∧ W.cell? ⟨w.heap.size, 1, none⟩ = some (.int .u8 y.f1) ∧ W.cell? ⟨w.heap.size, 2, none⟩ = some (.int .i64 y.f2) ∧ W.cell? ⟨w.heap.size, 3, none⟩ = some (.int .i64 y.f3) ∧ W.cell? ⟨w.heap.size, 4, none⟩ = some (.slice A4 y.f4.length c4) ∧ W.cell? ⟨w.heap.size, 5, none⟩ = some (.string y.f5) from fun W hW =>
    ⟨(hW.cell (p := ⟨w.heap.size, 0, none⟩) az).trans a0, (hW.cell (p := ⟨w.heap.size, 1, none⟩) az).trans a1, (hW.cell (p := ⟨w.heap.size, 2, none⟩) az).trans a2, (hW.cell (p := ⟨w.heap.size, 3, none⟩) az).trans a3, (hW.cell (p := ⟨w.heap.size, 4, none⟩) az).trans a4, (hW.cell (p := ⟨w.heap.size, 5, none⟩) az).trans a5⟩)
  clear hb hB0
  go_wp2_with fail
  refine (with_any A c xs y A4 c4 _ (Kd.C_below HR.out HB1.out) hm H4.out (by omega) hl (by omega) (Kd.C_below HR4.out HB1.out)).mono ?_
  rintro e w2 ⟨⟨v, rfl, hV⟩, hb⟩
  obtain ⟨A2, c2, rfl⟩ := Kd.V_slice hV
  have hV' := Kd.V_reads' hV
  have HB12 := Aside0.mk hb
  have HC2 := Aside0.mk hV'.2.2
  have hc2 := hV'.2.1
  clear hb hV hV' a0 a1 a2 a3 a4 a5
  go_upto_if 30 with (fail)
  go_cut [7, 8, 9, 10, 11, 12, 13, 14] (fun _ _ _ _ _ _ _ _ wc => Aside0 (Below w1.heap.size w1 wc))
  case first =>
    by_cases he : (withP xs y).2 = 0
    · obtain ⟨q1, q2, q3⟩ := with_ok he
      obtain ⟨j, hj, f1, f2⟩ := with_find he
      have f3 := with_others he
      have f4 := with_without he
      have hul := (chk_ok q3).1
      rw [he]
      have hwm : ∀ x ∈ (withP xs y).1, x.f4.length ≤ 140737488355328 := by
        rw [q2]
        intro x hx
        unfold insP at hx
        rw [List.mem_append, List.mem_append, List.mem_singleton] at hx
        rcases hx with (hx | rfl) | hx
        · exact H4.out x (List.mem_filter.1 (List.mem_of_mem_take hx)).1
        · omega
        · exact H4.out x (List.mem_filter.1 (List.mem_of_mem_drop hx)).1
      have HWm := Aside0.mk hwm
      have Q3 := Lib.hid q3
      have F1 := Lib.hid f1
      have F2 := Lib.hid f2
      have F3 := Lib.hid f3
      have F4 := Aside0.mk f4
      clear q1 q2 q3 f1 f2 f3 f4 he hwm
      generalize (withP xs y).1 = u at *
      go_wp2_with fail
      refine (check_tree A2 c2 u _ HC2.out).mono ?_
      rw [Q3.out]
      rintro e w3 ⟨rfl, hb⟩
      have HB3 := Aside0.mk (HB12.out.trans (hb.mono HB12.out.size))
      have HC3 := Aside0.mk (Kd.C_below HC2.out hb)
      obtain ⟨b0, b1, b2, b3, b4, b5⟩ := HA.out w3 HB3.out
      clear hb HC2
      go_wp2_with fail
      refine (find_any A2 c2 u y.f0 _ HC3.out (by omega)).mono ?_
      rw [F1.out]
      rintro e w4 ⟨rfl, hb⟩
      have HB4 := Aside0.mk (HB3.out.trans (hb.mono HB3.out.size))
      have HC4 := Aside0.mk (Kd.C_below HC3.out hb)
      clear hb HC3 b0 b1 b2 b3 b4 b5
      obtain ⟨b0, b1, b2, b3, b4, b5⟩ := HA.out w4 HB4.out
      have KEEP := Aside0.mk (show ∀ W : World, Below w4.heap.size w4 W → Below w4.heap.size w4 W ∧ W.cell? ⟨w.heap.size, 0, none⟩ = some (.string y.f0) ∧ W.cell? ⟨w.heap.size, 1, none⟩ = some (.int .u8 y.f1) ∧ W.cell? ⟨w.heap.size, 2, none⟩ = some (.int .i64 y.f2) ∧ W.cell? ⟨w.heap.size, 3, none⟩ = some (.int .i64 y.f3) ∧ W.cell? ⟨w.heap.size, 4, none⟩ = some (.slice A4 y.f4.length c4) ∧ W.cell? ⟨w.heap.size, 5, none⟩ = some (.string y.f5) from fun W hW => ⟨hW, HA.out W (HB4.out.trans (hW.mono HB4.out.size))⟩)
      have hBn : Below w4.heap.size w4 w4.drew := below_drew (Below.refl _ _)
      have hcj : ¬ c2 = j := by omega
      have j0 : (0 : Int) ≤ (j : Int) := by omega
      have j1 : (j : Int) ≤ (j : Int) + 1 := by omega
      have j2 : (j : Int) + 1 ≤ (c2 : Int) := by omega
      have j3 : j + 1 ≤ c2 := by omega
      have j4 : IntKind.i64.wrap ((j : Int) + 1) = (j : Int) + 1 := by rw [IntKind.wrap_i64]; omega
      have j5 : ((j : Int) + 1).toNat = j + 1 := by omega
      have j6 : j + 1 - j = 1 := by omega
      obtain ⟨ad2, rfl⟩ : ∃ ad, A2 = some ad := by
        obtain ⟨ad, e, _⟩ := HC4.out.2.2 (by omega)
        exact ⟨ad, e⟩
      obtain ⟨ks, hks⟩ : ∃ ks, ks = keepP (neP y) xs xs.length := ⟨_, rfl⟩
      have HKS := Lib.hid hks.symm
      have F3k := Lib.hid (F3.out.trans hks.symm)
      have hkl : ks.length ≤ xs.length := by rw [hks]; exact keepP_len _ _ _
      clear hks
      have HB4b := Aside0.mk (HB1.out.trans (HB4.out.mono HB1.out.size))
      have H1 := Aside0.mk (show Kd.C k26 w4 (some (ad2.add (j * 6))) 1 [y] by
        have := Kd.C_mid HC4.out (lo := j) (hi := j + 1) (by omega) (by omega) hc2
        rw [if_neg hcj, mid_one F2.out hj] at this
        exact this)
      go_upto_region 7 with (fail)
      go_cut [71] (fun v wc => v = .bool false ∧ Aside0 (Below w4.heap.size w4 wc))
      case first =>
        go_region_held3 (fun W => Below w4.heap.size w4 W ∧ W.cell? ⟨w.heap.size, 0, none⟩ = some (.string y.f0) ∧ W.cell? ⟨w.heap.size, 1, none⟩ = some (.int .u8 y.f1) ∧ W.cell? ⟨w.heap.size, 2, none⟩ = some (.int .i64 y.f2) ∧ W.cell? ⟨w.heap.size, 3, none⟩ = some (.int .i64 y.f3) ∧ W.cell? ⟨w.heap.size, 4, none⟩ = some (.slice A4 y.f4.length c4) ∧ W.cell? ⟨w.heap.size, 5, none⟩ = some (.string y.f5))
          (first | exact KEEP.out _ (by assumption) | exact KEEP.out _ (by repeat (first | exact hBn | exact Below.refl _ _ | refine below_alloc ?_ _ | refine below_drew ?_)))
          (first
            | (go_at_call_of 20 (Value.slice (some (ad2.add (j * 6))) 1 (c2 - j)); refine (same_any (some (ad2.add (j * 6))) (c2 - j) (some ⟨w4.heap.size, 0, none⟩) 1 [y] _ (Kd.C_below H1.out (below_drew ((Below.refl _ w4).alloc (Nat.le_refl _) _))) (by simp; omega) (C_item (fun i u hu => (blk_cell (blk_new w4 _) i).trans hu) hl (Kd.C_below HR4.out (HB4b.out.trans ((below_drew ((Below.refl _ w4).alloc (Nat.le_refl _) _)).mono HB4b.out.size)))) (by simp) (by simp)).mono ?_; rintro e w5 ⟨rfl, hb5⟩; have hB5 := (below_drew ((Below.refl _ w4).alloc (Nat.le_refl _) _)).trans (hb5.mono (by simp)); clear hb5)
            | (go_at_call_of 30 (Value.slice (some ad2) u.length c2); refine (others_any (some ad2) c2 u y.f0 _ (Kd.C_below HC4.out (by assumption)) (by omega)).mono ?_; rw [apart_eq, F3k.out]; rintro e w6 ⟨⟨v6, rfl, hN6⟩, hb6⟩; obtain ⟨A6, c6, rfl⟩ := Kd.N_slice hN6; have hB6 : Below w4.heap.size w4 w6 := (by first | exact hB7.trans (hb6.mono hB7.size) | exact hB5.trans (hb6.mono hB5.size)); have HCu := Aside0.mk (Kd.N_reads' hN6); (try (have HCx' := Aside0.mk (Kd.C_below HCx.out.2.2 hb6))); clear hN6 hb6)
            | (go_at_call_of 30 (Value.slice A xs.length c); refine (others_any A c xs y.f0 _ (Kd.C_below HR.out (HB4b.out.trans (Below.mono (show Below w4.heap.size w4 _ by assumption) HB4b.out.size))) hm).mono ?_; rw [apart_eq, HKS.out]; rintro e w7 ⟨⟨v7, rfl, hN7⟩, hb7⟩; obtain ⟨A7, c7, rfl⟩ := Kd.N_slice hN7; have hB7 : Below w4.heap.size w4 w7 := (by first | exact hB6.trans (hb7.mono hB6.size) | exact hB5.trans (hb7.mono hB5.size)); have HCx := Aside0.mk (Kd.N_reads' hN7); (try (have HCu' := Aside0.mk (Kd.C_below HCu.out.2.2 hb7))); clear hN7 hb7)
            | (go_at_call_of 20 (Value.slice A6 ks.length c6); refine (same_any A6 c6 A7 c7 ks _ (by first | exact HCu'.out | exact HCu.out.2.2) HCu.out.2.1 (by first | exact HCx'.out | exact HCx.out.2.2) HCx.out.2.1 (by omega)).mono ?_; rintro e w8 ⟨rfl, hb8⟩; have hB8 : Below w4.heap.size w4 w8 := (by first | exact hB6.trans (hb8.mono hB6.size) | exact hB7.trans (hb8.mono hB7.size)); clear hb8))
        all_goals go_wp2
        all_goals go_meet
        all_goals exact ⟨rfl, ⟨hB8⟩⟩
      case rest =>
        obtain ⟨rfl, HBr⟩ := hcut
        obtain ⟨w9, hw9⟩ : ∃ q, q = wc := ⟨_, rfl⟩
        subst hw9
        have HB9 := Aside0.mk (HB4.out.trans (HBr.out.mono HB4.out.size))
        clear b0 b1 b2 b3 b4 b5
        obtain ⟨b0, b1, b2, b3, b4, b5⟩ := HA.out w9 HB9.out
        by_cases hlen : xs.length < u.length
        · have hz : (xs.length : Int) < (u.length : Int) := by omega
          go_wp2_with fail
          refine (without_any (some ad2) c2 u y.f0 _ (Kd.C_below HC4.out HBr.out) (by omega) HWm.out).mono ?_
          rw [F4.out hlen]
          rintro e w10 ⟨⟨v, rfl, hV⟩, hb⟩
          obtain ⟨A5, c5, rfl⟩ := Kd.V_slice hV
          have HC5 := Aside0.mk (Kd.V_reads' hV)
          have HB10 := Aside0.mk (HB9.out.trans (hb.mono HB9.out.size))
          clear hb hV b0 b1 b2 b3 b4 b5
          go_wp2_with fail
          refine (same_any A5 c5 A c xs _ HC5.out.2.2 HC5.out.2.1 (Kd.C_below HR.out (HB1.out.trans (HB10.out.mono HB1.out.size))) hc (by omega)).mono ?_
          rintro e w11 ⟨rfl, hb⟩
          have HB11 := Aside0.mk (HB10.out.trans (hb.mono HB10.out.size))
          clear hb
          go_wp2_with fail
          go_meet
          exact HB11
        · have hz : ¬ (xs.length : Int) < (u.length : Int) := by omega
          clear b0 b1 b2 b3 b4 b5
          go_wp2_with fail
          go_meet
          exact HB9
    · have hn := with_no he
      have d0 : ((withP xs y).2 != 0) = true := by simpa using he
      have d1 : ((withP xs y).2 == 0) = false := by simpa using he
      rw [hn]
      clear he hn
      go_wp2_with fail
      go_meet
      exact HB12
  case rest =>
    have HBc := Aside0.mk (HB1.out.trans (hcut.out.mono HB1.out.size))
    clear hcut HC2 hc2 HB12
    go_wp2_with fail
    refine (without_any A c xs path _ (Kd.C_below HR.out HBc.out) hm H4.out).mono ?_
    rintro e w3 ⟨⟨v, rfl, hV⟩, hb⟩
    obtain ⟨A3, c3, rfl⟩ := Kd.V_slice hV
    have HB3 := Aside0.mk (HBc.out.trans (hb.mono HBc.out.size))
    have HC3 := Aside0.mk (Kd.V_reads' hV).2.2
    have hc3 := (Kd.V_reads' hV).2.1
    clear hb hV HBc
    by_cases he : (withoutP xs path).2 = 0
    · obtain ⟨q1, q2, q3, q4⟩ := without_ok he
      have f1 := without_find he
      have f2 := without_ben he
      have f3 := without_less he
      rw [he]
      have hwm : ∀ x ∈ (withoutP xs path).1, x.f4.length ≤ 140737488355328 := by rw [q3]; exact fun x hx => H4.out x (List.mem_filter.1 hx).1
      have HWm := Aside0.mk hwm
      have F1 := Lib.hid f1
      have F2 := Lib.hid f2
      have Q4 := Lib.hid q4
      clear f1 f2 q1 q2 q3 q4 he hwm
      generalize (withoutP xs path).1 = u at *
      go_wp2_with fail
      refine (check_tree A3 c3 u _ HC3.out).mono ?_
      rw [Q4.out]
      rintro e w4 ⟨rfl, hb⟩
      have HB4 := Aside0.mk (HB3.out.trans (hb.mono HB3.out.size))
      have HC4 := Aside0.mk (Kd.C_below HC3.out hb)
      clear hb HC3 HB3
      go_wp2_with fail
      refine (find_any A3 c3 u path _ HC4.out (by omega)).mono ?_
      rw [F1.out]
      rintro e w5 ⟨rfl, hb⟩
      have HB5 := Aside0.mk (HB4.out.trans (hb.mono HB4.out.size))
      have HC5 := Aside0.mk (Kd.C_below HC4.out hb)
      clear hb HC4 HB4
      go_wp2_with fail
      refine (tree_beneath A3 c3 u path _ HC5.out (by omega) HWm.out).mono ?_
      rw [F2.out]
      rintro e w6 ⟨⟨v, rfl, hV⟩, hb⟩
      obtain ⟨A6, c6, rfl⟩ := Kd.V_slice hV
      have HB6 := Aside0.mk (HB5.out.trans (hb.mono HB5.out.size))
      have d1 : decide ((u.length : Int) < (xs.length : Int)) = true := decide_eq_true (by omega)
      have d1' : decide (u.length < xs.length) = true := decide_eq_true f3
      clear hb hV
      go_wp2
      go_ret
      exact ⟨rfl, HB6.out⟩
    · have hn := without_no he
      have d0 : ((withoutP xs path).2 != 0) = true := by simpa using he
      rw [hn]
      clear he
      go_wp2
      go_ret
      exact ⟨rfl, HB3.out⟩
end Go.Proofs.YthpecpkncifngaaDoor.X
end

/- Arguments laid open by their kinds: what a reading of an argument says of its cells, kind by kind; and that no part of it is greater than the reach. -/
section
namespace Go.Proofs.YthpecpkncifngaaDoor.Op2
open Go.RowKit Go.Proofs.YthpecpkncifngaaDoorW.PrintWords
section
variable {H : Type} (enc : TypeId × Value → H) (P : Program) (W : World) (base : Nat) (spare : Nat → Bool) (held : Bool)
def Opens {α : Type} (t : TypeId) (d : Kd α) (G : α → Prop) : Prop :=
  ∀ (fuel : Nat) (cs : List Value) (x : DataW H × List MemPlace), DataW.trod enc P W base spare held fuel t cs = some x → (∀ n ∈ x.1.weights P t, n ≤ reachBytes) → ∃ y, d.K W y cs ∧ G y
variable {enc P W base spare held}
theorem opens_int {t : TypeId} {k : IntKind} (ht : P.underlying t = some (.int k)) : Opens enc P W base spare held t (Kd.int k) (fun n => (Lit.int k n).wf = true) := by
  intro fuel cs x h _
  obtain ⟨n, rfl, rfl, hw⟩ := DataW.trod_int ht h
  exact ⟨n, rfl, hw⟩
theorem opens_string {t : TypeId} (ht : P.underlying t = some .string) : Opens enc P W base spare held t Kd.string (fun s => s.size ≤ 140737488351232) := by
  intro fuel cs x h hw
  obtain ⟨s, rfl, rfl, hs⟩ := DataW.trod_string ht h
  refine ⟨s, rfl, ?_⟩
  have := hw s.data.toList.length (by simp [DataW.weights])
  rw [Array.length_toList] at this
  exact this
theorem weightsAll_mem {e : TypeId} : ∀ {l : List (DataW H)} {d : DataW H} {n : Nat}, d ∈ l → n ∈ d.weights P e → n ∈ DataW.weightsAll P e l
  | x :: r, d, n, hd, hn => by
    rw [DataW.weightsAll]
    rcases List.mem_cons.1 hd with rfl | hd
    · exact List.mem_append_left _ hn
    · exact List.mem_append_right _ (weightsAll_mem hd hn)
theorem weightsEach_mem : ∀ {ts : List TypeId} {l : List (DataW H)} {j : Nat} {t : TypeId} {d : DataW H} {n : Nat}, ts[j]? = some t → l[j]? = some d → n ∈ d.weights P t → n ∈ DataW.weightsEach P ts l
  | t :: ts, x :: r, 0, _, _, n, h1, h2, hn => by
    simp at h1 h2
    subst h1; subst h2
    rw [DataW.weightsEach]
    exact List.mem_append_left _ hn
  | t :: ts, x :: r, j + 1, _, _, n, h1, h2, hn => by
    rw [DataW.weightsEach]
    exact List.mem_append_right _ (weightsEach_mem (by simpa using h1) (by simpa using h2) hn)
  | [], _, _, _, _, _, h1, _, _ => by simp at h1
  | _ :: _, [], _, _, _, _, _, h2, _ => by simp at h2
theorem choose_list {α β : Type} {R : Nat → α → β → Prop} : ∀ (l : List α), (∀ i a, l[i]? = some a → ∃ b, R i a b) → ∃ m : List β, m.length = l.length ∧ ∀ i a b, l[i]? = some a → m[i]? = some b → R i a b
  | [], _ => ⟨[], rfl, by simp⟩
  | a :: r, h => by
    obtain ⟨b, hb⟩ := h 0 a rfl
    obtain ⟨m, hm, hr⟩ := choose_list (R := fun i => R (i + 1)) r (fun i x hx => h (i + 1) x (by simpa using hx))
    refine ⟨b :: m, by simp [hm], fun i x y hx hy => ?_⟩
    cases i with
    | zero =>
      simp at hx hy
      subst hx; subst hy
      exact hb
    | succ i => exact hr i x y (by simpa using hx) (by simpa using hy)
theorem cells_all {a : Addr} {n : Nat} {cs : List Value} (h : W.cells? base a n = some cs) : cs.length = n ∧ ∀ i u, cs[i]? = some u → W.cell? (a.add i) = some u := by
  obtain ⟨h1, h2, h3⟩ := World.cells?_some h
  refine ⟨h2, fun i u hu => ?_⟩
  have hi : i < n := by rw [← h2]; exact (List.getElem?_eq_some_iff.1 hu).1
  rw [h3 i hi]; exact hu
theorem opens_slice {t e : TypeId} {α : Type} {d : Kd α} {G : α → Prop} {b : Nat} (ht : P.underlying t = some (.slice e)) (hc : P.cellsOf e = d.sz) (hb : P.bytesOf e = b) (he : Opens enc P W base spare held e d G) :
    Opens enc P W base spare held t (Kd.slice e d) (fun xs => xs.length * b ≤ 140737488351232 ∧ xs.length ≤ 9223372036854775807 ∧ ∀ x ∈ xs, G x) := by
  intro fuel cs x h hw
  rcases DataW.trod_slice ht h with ⟨rfl, rfl⟩ | ⟨a, len, cap, elems, rest, n, _, rfl, rfl, hbs, hl, hm, hlen, hel, _, _⟩
  · exact ⟨[], ⟨none, 0, rfl, Nat.le_refl _, Kd.C_nil _ _⟩, by simp, by simp, by simp⟩
  · simp only [DataW.weights, ht] at hw
    have h1 := hw ((List.map (·.1) elems).length + (List.map (·.1) rest).length |> (· * P.bytesOf e)) List.mem_cons_self
    have each : ∀ i y, elems[i]? = some y → ∃ z, (∃ c, c.length = d.sz ∧ d.K W z c ∧ ∀ j u, c[j]? = some u → W.cell? (a.add (i * d.sz + j)) = some u) ∧ G z := by
      intro i y hy
      have hi : i < len := by rw [← hlen]; exact (List.getElem?_eq_some_iff.1 hy).1
      have hq := hel i hi
      rw [hy, Option.bind_eq_some_iff] at hq
      obtain ⟨c, hcs, hy'⟩ := hq
      obtain ⟨z, hz, hg⟩ := he n c y hy' (fun m hm' => hw m (List.mem_cons_of_mem _ (List.mem_append_left _ (weightsAll_mem (List.mem_map.2 ⟨y, List.mem_of_getElem? hy, rfl⟩) hm'))))
      rw [hc] at hcs
      obtain ⟨q1, q2⟩ := cells_all hcs
      refine ⟨z, ⟨c, q1, hz, fun j u hu => ?_⟩, hg⟩
      have := q2 j u hu
      rwa [add_add] at this
    obtain ⟨zs, hzl, hz⟩ := choose_list elems each
    have hzlen : zs.length = len := hzl.trans hlen
    have get : ∀ i z, zs[i]? = some z → (∃ c, c.length = d.sz ∧ d.K W z c ∧ ∀ j u, c[j]? = some u → W.cell? (a.add (i * d.sz + j)) = some u) ∧ G z := by
      intro i z hzi
      have hi : i < elems.length := by rw [← hzl]; exact (List.getElem?_eq_some_iff.1 hzi).1
      exact hz i _ z (List.getElem?_eq_getElem hi) hzi
    have hmx : cap ≤ 9223372036854775807 := by unfold maxLen at hm; omega
    refine ⟨zs, ⟨some a, cap, by rw [hzlen], by omega, ⟨hzlen ▸ rfl, by omega, fun _ => ⟨a, rfl, fun j p hj => (get j p hj).1⟩⟩⟩, ?_, by omega, ?_⟩
    · rw [hzlen, ← hlen]
      rw [hb] at h1
      simp only [List.length_map] at h1
      have : elems.length * b ≤ (elems.length + rest.length) * b := Nat.mul_le_mul_right _ (Nat.le_add_right _ _)
      exact Nat.le_trans this h1
    · intro z hz'
      obtain ⟨i, hi⟩ := List.getElem?_of_mem hz'
      exact (get i z hi).2
end
end Go.Proofs.YthpecpkncifngaaDoor.Op2
end

/- Items, and lists of items, laid open. -/
section
namespace Go.Proofs.YthpecpkncifngaaDoor.X
open Go.RowKit Go.Proofs.YthpecpkncifngaaDoorW.PrintWords Go.Proofs.YthpecpkncifngaaDoor.Op2
def GoodIt (x : S26) : Prop := x.f0.size ≤ 140737488351232 ∧ (Lit.int .u8 x.f1).wf = true ∧ (Lit.int .i64 x.f2).wf = true ∧ (Lit.int .i64 x.f3).wf = true ∧ (x.f4.length * 1 ≤ 140737488351232 ∧ x.f4.length ≤ 9223372036854775807 ∧ ∀ n ∈ x.f4, (Lit.int .u8 n).wf = true) ∧ x.f5.size ≤ 140737488351232
theorem six {α : Type} {l : List α} (h : l.length = 6) : ∃ a b c d e f, l = [a, b, c, d, e, f] := by
  match l, h with
  | [a, b, c, d, e, f], _ => exact ⟨a, b, c, d, e, f, rfl⟩
theorem opens_item {H : Type} {enc : TypeId × Value → H} {W : World} {base : Nat} {spare : Nat → Bool} {held : Bool} : Opens enc Tryd.prog W base spare held 26 k26 GoodIt := by
  intro fuel cs x h hw
  obtain ⟨xs, n, _, rfl, hl, hx, hel⟩ := DataW.trod_struct Tryd.underlying26 h
  have hc : Tryd.prog.cellsOf 26 = 6 := by kernel_rfl
  rw [hc] at hl
  obtain ⟨u0, u1, u2, u3, u4, u5, rfl⟩ := six hl
  obtain ⟨y0, y1, y2, y3, y4, y5, rfl⟩ := six (show xs.length = 6 from hx)
  simp only [DataW.weights, Tryd.underlying26] at hw
  have c0 : Tryd.prog.cellsOf 9 = 1 := by kernel_rfl
  have c1 : Tryd.prog.cellsOf 23 = 1 := by kernel_rfl
  have c2 : Tryd.prog.cellsOf 3 = 1 := by kernel_rfl
  have c4 : Tryd.prog.cellsOf 24 = 1 := by kernel_rfl
  have e0 : DataW.trod enc Tryd.prog W base spare held n 9 (([u0, u1, u2, u3, u4, u5].drop 0).take (Tryd.prog.cellsOf 9)) = some y0 := hel 0 _ rfl
  rw [c0] at e0
  have e1 : DataW.trod enc Tryd.prog W base spare held n 23 (([u0, u1, u2, u3, u4, u5].drop 1).take (Tryd.prog.cellsOf 23)) = some y1 := hel 1 _ rfl
  rw [c1] at e1
  have e2 : DataW.trod enc Tryd.prog W base spare held n 3 (([u0, u1, u2, u3, u4, u5].drop 2).take (Tryd.prog.cellsOf 3)) = some y2 := hel 2 _ rfl
  rw [c2] at e2
  have e3 : DataW.trod enc Tryd.prog W base spare held n 3 (([u0, u1, u2, u3, u4, u5].drop 3).take (Tryd.prog.cellsOf 3)) = some y3 := hel 3 _ rfl
  rw [c2] at e3
  have e4 : DataW.trod enc Tryd.prog W base spare held n 24 (([u0, u1, u2, u3, u4, u5].drop 4).take (Tryd.prog.cellsOf 24)) = some y4 := hel 4 _ rfl
  rw [c4] at e4
  have e5 : DataW.trod enc Tryd.prog W base spare held n 9 (([u0, u1, u2, u3, u4, u5].drop 5).take (Tryd.prog.cellsOf 9)) = some y5 := hel 5 _ rfl
  rw [c0] at e5
  have wt : ∀ (j : Nat) (t : TypeId) (y : DataW H × List MemPlace), ((#[_, _, _, _, _, _] : Array Field).toList.map (·.type))[j]? = some t → [y0, y1, y2, y3, y4, y5][j]? = some y → ∀ m ∈ y.1.weights Tryd.prog t, m ≤ reachBytes :=
    fun j t y h1 h2 m hm => hw m (weightsEach_mem h1 (by rw [List.getElem?_map, h2]; rfl) hm)
  obtain ⟨z0, k0, g0⟩ := opens_string Tryd.underlying9 n _ _ e0 (wt 0 _ _ rfl rfl)
  obtain ⟨z1, k1, g1⟩ := opens_int Tryd.underlying23 n _ _ e1 (wt 1 _ _ rfl rfl)
  obtain ⟨z2, k2, g2⟩ := opens_int Tryd.underlying3 n _ _ e2 (wt 2 _ _ rfl rfl)
  obtain ⟨z3, k3, g3⟩ := opens_int Tryd.underlying3 n _ _ e3 (wt 3 _ _ rfl rfl)
  obtain ⟨z4, k4, g4⟩ := opens_slice (b := 1) Tryd.underlying24 (by kernel_rfl) (by kernel_rfl) (opens_int Tryd.underlying5) n _ _ e4 (wt 4 _ _ rfl rfl)
  obtain ⟨z5, k5, g5⟩ := opens_string Tryd.underlying9 n _ _ e5 (wt 5 _ _ rfl rfl)
  exact ⟨⟨z0, z1, z2, z3, z4, z5⟩, ⟨_, _, rfl, k0, ⟨_, _, rfl, k1, ⟨_, _, rfl, k2, ⟨_, _, rfl, k3, ⟨_, _, rfl, k4, k5⟩⟩⟩⟩⟩, g0, g1, g2, g3, g4, g5⟩
theorem opens_items {H : Type} {enc : TypeId × Value → H} {W : World} {base : Nat} {spare : Nat → Bool} {held : Bool} : Opens enc Tryd.prog W base spare held 22 (Kd.slice 26 k26) (fun xs => xs.length * 80 ≤ 140737488351232 ∧ xs.length ≤ 9223372036854775807 ∧ ∀ x ∈ xs, GoodIt x) :=
  opens_slice Tryd.underlying22 (by kernel_rfl) (by kernel_rfl) opens_item
end Go.Proofs.YthpecpkncifngaaDoor.X
end

section
namespace Go.Proofs.YthpecpkncifngaaDoor.treeBackRow
open Go.ChangeShapes Go.WideShapes Go.ChangeAt Go.RowKit
open Go.ChangeMaps (open_string shut_string)
theorem own : ownKnob Tryd.prog.godebug = none := by kernel_rfl
open Go.Proofs.YthpecpkncifngaaDoor Go.Proofs.YthpecpkncifngaaDoorW.PrintWords
theorem laidOut : laidOutB Tryd.prog = true := by kernel_rfl
theorem walk (A0 : Option Addr) (c0 : Nat) (a0 : List X.S26) (a1 : X.S26) (A1 : Option Addr) (c1 : Nat) (a2 : ByteArray) (w : World) (h0 : Kd.C X.k26 w A0 a0.length a0) (hc0 : a0.length ≤ c0) (hg0 : a0.length * 80 ≤ 140737488351232 ∧ a0.length ≤ 9223372036854775807 ∧ ∀ x ∈ a0, X.GoodIt x) (hl1 : a1.f4.length ≤ c1) (h1 : (Kd.int .u8).C w A1 a1.f4.length a1.f4) (hg1 : X.GoodIt a1) (h2 : a2.size ≤ 140737488351232) : Calls Tryd.prog 9 #[.slice A0 a0.length c0, .agg (X.cellsIt a1 A1 c1), .string a2] w fun e w' => e = .returned (.bool true) ∧ Below w.heap.size w w' := by
  exact X.treeBack_walk A0 c0 a0 a1 A1 c1 a2 w h0 hc0 hg0.1 (fun x hx => by have := (hg0.2.2 x hx).2.2.2.2.1.1; omega) hg1.1 hl1 (by have := hg1.2.2.2.2.1.1; omega) h1
set_option maxRecDepth 100000 in
theorem contract (H : Type) (enc : TypeId × Value → H) (W : World) (base : Nat) (args : Array Value) (ds gs : List (DataW H)) (before : List MemPlace)
    (hval : ∀ (j : Nat) t v, Tryd.f9.params[j]? = some t → args[j]? = some v → Value.okWide Tryd.prog W .any base t v)
    (hW : DataW.Whole enc Tryd.prog Tryd.f9.params.toList Rows.treeBackSpec.vars false W args.toList ds gs before) (hsz0 : (DataW.weightsEach Tryd.prog (Tryd.f9.params.toList ++ Rows.treeBackSpec.plain.varTypes Tryd.prog) (ds ++ gs)).all (· ≤ reachBytes) = true) :
    Calls Tryd.prog 9 args W fun e W' => ∃ v, e = .returned v ∧ Rows.treeBackSpec.post enc Tryd.prog Tryd.f9 false true false false W args v W' := by
  have hW' := hW
  obtain ⟨p, q, hA0, hV, rfl, hfz, hnd⟩ := hW
  have hA : DataW.TrodAll enc Tryd.prog W 0 (fun _ => true) true Tryd.f9.params.toList args.toList ds p := hA0
  have hsz := hsz0
  rw [Tryd.params9] at hA hval hsz
  obtain ⟨v0, vs0, d0, ds0, p0, q0, hargs, rfl, rfl, h0, r0⟩ := trodAll_cons hA
  obtain ⟨v1, vs1, d1, ds1, p1, q1, rfl, rfl, rfl, h1, r1⟩ := trodAll_cons r0
  obtain ⟨v2, vs2, d2, ds2, p2, q2, rfl, rfl, rfl, h2, r2⟩ := trodAll_cons r1
  obtain ⟨rfl, rfl, rfl⟩ := trodAll_nil r2
  obtain rfl : args = #[v0, v1, v2] := by cases args; simp_all
  obtain ⟨rfl, rfl⟩ := trodVars_none hV
  have k0 := h0
  have lt0 : ∀ x ∈ p0, x.block < W.heap.size := by obtain ⟨m, hm⟩ := k0; exact DataW.trod_lt m _ _ _ hm
  obtain ⟨va0, vl0, vc0, rfl⟩ := okWide_slice Tryd.underlying22 (hval 0 22 v0 rfl rfl)
  obtain ⟨m0, hm0⟩ := h0
  obtain ⟨a0, hK0, w0⟩ := X.opens_items m0 _ _ hm0 (fun n hn => of_decide_eq_true (List.all_eq_true.1 hsz n (DataW.weights_mem_each (j := 0) rfl rfl n hn)))
  obtain ⟨A0, c0, he0, wc0, wK0⟩ := hK0
  obtain ⟨ea0, el0, ec0⟩ : va0 = A0 ∧ vl0 = a0.length ∧ vc0 = c0 := by simpa [Value.cells] using he0
  obtain rfl : A0 = va0 := ea0.symm
  obtain rfl : a0.length = vl0 := el0.symm
  obtain rfl : c0 = vc0 := ec0.symm
  have k1 := h1
  have lt1 : ∀ x ∈ p1, x.block < W.heap.size := by obtain ⟨m, hm⟩ := k1; exact DataW.trod_lt m _ _ _ hm
  obtain ⟨cs1, rfl, _⟩ := okWide_struct Tryd.underlying26 (hval 1 26 v1 rfl rfl)
  obtain ⟨m1, hm1⟩ := h1
  obtain ⟨a1, hK1, w1⟩ := X.opens_item m1 _ _ hm1 (fun n hn => of_decide_eq_true (List.all_eq_true.1 hsz n (DataW.weights_mem_each (j := 1) rfl rfl n hn)))
  obtain ⟨A1, c1, he1, wc1, wK1⟩ := X.k26_open hK1
  obtain rfl : cs1 = X.cellsIt a1 A1 c1 := Array.toList_inj.1 he1
  obtain ⟨a2, rfl, rfl, rfl, y2⟩ := open_string Tryd.underlying9 (hval 2 9 v2 rfl rfl) h2
  have w2 : a2.size ≤ 140737488351232 := by
    have z := sized_string hsz (j := 2) (t := 9) rfl rfl
    rw [Array.length_toList] at z
    exact z
  clear hA0
  refine (walk A0 c0 a0 a1 A1 c1 a2 W wK0 wc0 w0 wc1 wK1 w1 w2).mono fun e W' ⟨he, bel⟩ => ?_
  subst he
  exact ⟨_, rfl, _, _, _, [], _, [], hW', trodAll_mk1 (shut_bool Tryd.underlying4 _), (trodAll_cons_mk (Below.trod laidOut (by kernel_rfl) (of_decide_eq_true (by kernel_rfl)) k0 bel lt0) (trodAll_cons_mk (Below.trod laidOut (by kernel_rfl) (of_decide_eq_true (by kernel_rfl)) k1 bel lt1) (trodAll_cons_mk (shut_string Tryd.underlying9 y2) trodAll_mk0))), rfl, bel.frame _, fun h => by cases h⟩
noncomputable def laidWorld (os : Os) : World := { World.holding Tryd.prog os ⟨#[], #[], []⟩ with heap := (((World.holding Tryd.prog os ⟨#[], #[], []⟩).heap.modify 2 fun | .cells _ t frozen => .cells (#[.int .u8 128, .int .u8 191, .int .u8 160, .int .u8 191, .int .u8 128, .int .u8 159, .int .u8 144, .int .u8 191, .int .u8 128, .int .u8 143, .int .u8 0, .int .u8 0, .int .u8 0, .int .u8 0, .int .u8 0, .int .u8 0, .int .u8 0, .int .u8 0, .int .u8 0, .int .u8 0, .int .u8 0, .int .u8 0, .int .u8 0, .int .u8 0, .int .u8 0, .int .u8 0, .int .u8 0, .int .u8 0, .int .u8 0, .int .u8 0, .int .u8 0, .int .u8 0]) t frozen | o => o).modify 1 fun | .cells _ t frozen => .cells ((Go.Pinned.utf8FirstZ.map fun (n : Nat) => Value.int .u8 (n : Int)).toArray) t frozen | o => o) }
set_option maxRecDepth 100000 in
theorem laid_met (os : Os) : laidMet Tryd.prog Rows.treeBackRow.laid ((laidWorld os).forCall (fun _ _ => 0) ⟨#[], #[.slice none 0 0, .agg #[.string ByteArray.empty, .int .u8 0, .int .i64 0, .int .i64 0, .slice none 0 0, .string ByteArray.empty], .string ByteArray.empty], []⟩).memory :=
  laidMet_of_run' 8 (by kernel_rfl) (by kernel_rfl)
set_option maxRecDepth 100000 in
theorem reads (os : Os) {H : Type} (enc : TypeId × Value → H) : ∃ places, DataW.whole enc Tryd.prog ((laidWorld os).forCall (fun _ _ => 0) ⟨#[], #[.slice none 0 0, .agg #[.string ByteArray.empty, .int .u8 0, .int .i64 0, .int .i64 0, .slice none 0 0, .string ByteArray.empty], .string ByteArray.empty], []⟩).memory Tryd.f9.params.toList Rows.treeBackSpec.vars false (#[.slice none 0 0, .agg #[.string ByteArray.empty, .int .u8 0, .int .i64 0, .int .i64 0, .slice none 0 0, .string ByteArray.empty], .string ByteArray.empty] : Array Value).toList 8 = some ([.nil, .agg [.lit (.string []), .lit (.int .u8 0), .lit (.int .i64 0), .lit (.int .i64 0), .nil, .lit (.string [])], .lit (.string [])], [], places) :=
  ⟨[], by kernel_rfl⟩
set_option maxRecDepth 100000 in
theorem lifted (os : Os) (started : os.Started) (H : Type) (enc : TypeId × Value → H) (F : Stop.Interp) :
    ReturnsInHanded {} Tryd.checked os 9 .any ((OpenSpec.ofChange Rows.treeBackSpec).preRow enc Tryd.prog Tryd.f9 Rows.treeBackRow.domain false Rows.treeBackRow.laid) (((OpenSpec.ofChange Rows.treeBackSpec).at F).post enc Tryd.prog Tryd.f9 false true false false) := by
  obtain ⟨places, hx⟩ := reads os enc
  refine returnsInHanded_of_row (C := Tryd.checked) (s := OpenSpec.ofChange Rows.treeBackSpec) own started (by kernel_rfl) Tryd.func9
    (witness_row_at (enc := enc) (C := Tryd.checked) false (laidWorld os) #[.slice none 0 0, .agg #[.string ByteArray.empty, .int .u8 0, .int .i64 0, .int .i64 0, .slice none 0 0, .string ByteArray.empty], .string ByteArray.empty] rfl (by kernel_rfl) (by kernel_rfl) (by kernel_rfl)
      (OpenSpec.preRow_of_cond 8 hx (by kernel_rfl) (fun k hk => by cases hk) (by kernel_rfl) (laid_met os))) ?_
  intro W base args ds gs before hval hW _ hcond hsz0 _ _ _
  exact contract H enc W base args ds gs before hval hW hsz0
set_option maxRecDepth 100000 in
theorem proved : Rows.TreeBackSaid :=
  OpenClaim.holds_of_cond 9 Tryd.f9 rfl rfl rfl rfl rfl rfl rfl ⟨rfl, rfl, rfl, rfl, rfl⟩ rfl rfl rfl rfl rfl (by kernel_rfl) Tryd.func9 (by kernel_rfl)
    (of_decide_eq_true (by kernel_rfl)) (by unfold Func.isWrapper; first | (rw [if_pos (by decide +kernel)]; kernel_rfl) | (rw [if_neg (by decide +kernel)]; exact ⟨rfl, rfl⟩))
    (fun os started H enc _ F => by rw [OpenClaim.pre_eq_preRow]; exact lifted os started H enc F)
theorem plain (f : FuncId) (fn : Func) (hf : Tryd.pinned.checked.prog.funcNamed "tabulary/tabularylaw11.TreeBack" = some f) (hfn : Tryd.pinned.checked.prog.funcs[f]? = some fn) :
    false = Tryd.pinned.checked.prog.looks [] ∧ ∀ (j : Nat) t, fn.params[j]? = some t → Tryd.pinned.checked.prog.wantsStandIn t = false := by
  obtain rfl : f = 9 := Option.some.inj ((show Tryd.prog.funcNamed "tabulary/tabularylaw11.TreeBack" = some 9 by kernel_rfl).symm.trans hf) |>.symm
  obtain rfl : fn = Tryd.f9 := (Option.some.inj (Tryd.func9.symm.trans hfn)).symm
  refine ⟨by kernel_rfl, fun j t ht => ?_⟩
  rw [Tryd.params9] at ht
  have hm : t = 9 ∨ t = 22 ∨ t = 26 := by have := Array.mem_of_getElem? ht; simp at this; rcases this with h | h | h <;> simp [h]
  rcases hm with rfl | rfl | rfl
  · exact (show Tryd.prog.wantsStandIn 9 = false by kernel_rfl)
  · exact (show Tryd.prog.wantsStandIn 22 = false by kernel_rfl)
  · exact (show Tryd.prog.wantsStandIn 26 = false by kernel_rfl)
set_option maxRecDepth 100000 in
theorem card : Rows.TreeBackCardSaid :=
  Claim7.holds_tied_plain_at .later [] _ _ _ _ proved (fun _ h => by cases h) (by kernel_rfl) (fun _ h => by cases h) treeBack_row_tie rfl ⟨rfl, rfl⟩ (by kernel_rfl) rfl plain (by kernel_rfl)
end Go.Proofs.YthpecpkncifngaaDoor.treeBackRow
namespace Go.Proofs.YthpecpkncifngaaDoor
theorem treeBack_holds : Rows.TreeBackCardSaid := treeBackRow.card
#print axioms treeBack_holds
end Go.Proofs.YthpecpkncifngaaDoor
end
