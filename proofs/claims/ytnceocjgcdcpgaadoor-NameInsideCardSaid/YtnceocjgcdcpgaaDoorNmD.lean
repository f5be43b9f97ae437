/- Plain words on paths: where a link leads. -/
import Derived.Test.YtnceocjgcdcpgaaDoorNmC
namespace Go.Proofs.YtnceocjgcdcpgaaDoor.Nm
/-- The way from a folder, part by part. -/
def way : List (List UInt8) → List (List UInt8) → Option (List (List UInt8))
  | ps, [] => some ps
  | ps, x :: r => if x = [] ∨ x = [46] then way ps r else if x = [46, 46] then (if ps = [] then none else way ps.dropLast r) else way (ps ++ [x]) r
def led : Option (List (List UInt8)) → List UInt8 × Nat
  | none => ([], 83)
  | some L => (joinT L, 0)
def lead (a t : List UInt8) : List UInt8 × Nat :=
  if (check a).2 ≠ 0 then ([], (check a).2)
  else if t = [] then ([], 80)
  else if 400 < t.length then ([], 2)
  else if 0 ≤ Lib.indexByte t 0 then ([], 82)
  else if t.head? = some 47 then ([], 83)
  else led (way (texts a).dropLast (texts t))
theorem way_append : ∀ (b ps c : List (List UInt8)), way ps (b ++ c) = (way ps b).bind fun q => way q c
  | [], ps, c => rfl
  | x :: r, ps, c => by
    simp only [List.cons_append, way]
    split
    · exact way_append r ps c
    · split
      · split
        · rfl
        · exact way_append r _ c
      · exact way_append r _ c
theorem way_snoc {ps b q : List (List UInt8)} (h : way ps b = some q) (x : List UInt8) : way ps (b ++ [x]) = way q [x] := by rw [way_append, h]; rfl
theorem way_len : ∀ (b ps q : List (List UInt8)), way ps b = some q → q.length ≤ ps.length + b.length
  | [], ps, q, h => by simp only [way, Option.some.injEq] at h; subst h; simp
  | x :: r, ps, q, h => by
    simp only [way] at h
    split at h
    · have := way_len r ps q h; simp; omega
    · split at h
      · split at h
        · simp at h
        · have := way_len r _ q h; simp at this ⊢; omega
      · have := way_len r _ q h; simp at this ⊢; omega
/-- A piece's own step. -/
theorem way_empty (q : List (List UInt8)) {x : List UInt8} (h : x.isEmpty = true) : way q [x] = some q := by
  have : x = [] := by simpa using h
  subst this; rfl
theorem way_dot (q : List (List UInt8)) {x : List UInt8} (h : (x == [46]) = true) : way q [x] = some q := by
  have : x = [46] := by simpa using h
  subst this; rfl
theorem way_up (q : List (List UInt8)) {x : List UInt8} (h : (x == [46, 46]) = true) : way q [x] = if q = [] then none else some q.dropLast := by
  have : x = [46, 46] := by simpa using h
  subst this
  simp [way]
theorem way_part (q : List (List UInt8)) {x : List UInt8} (h1 : x.isEmpty = false) (h2 : (x == [46]) = false) (h3 : (x == [46, 46]) = false) : way q [x] = some (q ++ [x]) := by
  have e1 : x ≠ [] := by simpa using h1
  have e2 : x ≠ [46] := by simpa using h2
  have e3 : x ≠ [46, 46] := by simpa using h3
  simp [way, e1, e2, e3]
theorem way_none_prefix {ps b c : List (List UInt8)} (h : way ps b = none) : way ps (b ++ c) = none := by rw [way_append, h]; rfl
/-- No way is longer than the two texts. -/
def totL (l : List (List UInt8)) : Nat := (l.map (fun x => x.length + 1)).sum
theorem totL_append (a b : List (List UInt8)) : totL (a ++ b) = totL a + totL b := by simp [totL]
theorem totL_dropLast : ∀ (l : List (List UInt8)), totL l.dropLast ≤ totL l
  | [] => Nat.le_refl _
  | [x] => by simp [totL]
  | x :: y :: r => by
    have := totL_dropLast (y :: r)
    simp only [List.dropLast_cons_cons, totL, List.map_cons, List.sum_cons] at this ⊢
    omega
theorem joinT_totL : ∀ (l : List (List UInt8)), (joinT l).length ≤ totL l
  | [] => Nat.le_refl _
  | [x] => by simp [joinT, totL]
  | x :: y :: r => by
    have := joinT_totL (y :: r)
    simp only [joinT, totL, List.map_cons, List.sum_cons, List.length_append, List.length_cons] at this ⊢
    omega
theorem totL_pc : ∀ (l : List UInt8) (p : Nat), (pc p l).1.length + totL ((pc p l).2.map (·.2)) = l.length
  | [], _ => rfl
  | c :: l, p => by
    have := totL_pc l (p + 1)
    by_cases hc : c = 47
    · simp only [pc, hc, if_true, List.map_cons, totL, List.map_cons, List.sum_cons, List.length_cons, List.length_nil] at this ⊢
      omega
    · simp only [pc, hc, if_false, List.length_cons] at this ⊢
      omega
theorem totL_texts (l : List UInt8) : totL (texts l) = l.length + 1 := by
  have := totL_pc l 0
  simp only [texts, pieces, List.map_cons, totL, List.sum_cons] at this ⊢
  omega
theorem way_tot : ∀ (b ps q : List (List UInt8)), way ps b = some q → totL q ≤ totL ps + totL b
  | [], ps, q, h => by simp only [way, Option.some.injEq] at h; subst h; simp
  | x :: r, ps, q, h => by
    have hx : totL (x :: r) = x.length + 1 + totL r := by simp [totL]
    simp only [way] at h
    split at h
    · have := way_tot r ps q h; omega
    · split at h
      · split at h
        · simp at h
        · have := way_tot r _ q h; have := totL_dropLast ps; omega
      · have := way_tot r _ q h
        rw [totL_append] at this
        have e : totL [x] = x.length + 1 := by simp [totL]
        omega
end Go.Proofs.YtnceocjgcdcpgaaDoor.Nm
