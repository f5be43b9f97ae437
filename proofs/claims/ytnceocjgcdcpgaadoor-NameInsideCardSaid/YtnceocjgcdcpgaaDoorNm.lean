/- Plain words on paths: the pieces of a text, what is wrong with one, and laws on them. No program in sight. -/
import Derived.Lib.Bytealg
import Derived.Lib.IndexLaws
namespace Go.Proofs.YtnceocjgcdcpgaaDoor.Nm

/-- The first piece of a text, and the others, each with its place (pos: the place of the text's first byte). -/
def pc : Nat → List UInt8 → List UInt8 × List (Nat × List UInt8)
  | _, [] => ([], [])
  | pos, c :: l => if c = 47 then ([], (pos + 1, (pc (pos + 1) l).1) :: (pc (pos + 1) l).2) else (c :: (pc (pos + 1) l).1, (pc (pos + 1) l).2)
def pieces (pos : Nat) (l : List UInt8) : List (Nat × List UInt8) := (pos, (pc pos l).1) :: (pc pos l).2

/-- What is wrong with a piece, and where in it. -/
def bad (l : List UInt8) : Option (Nat × Nat) :=
  if l = [] then some (0, 80) else if 120 < l.length then some (0, 2) else if l = [46] ∨ l = [46, 46] then some (0, 81)
  else if 0 ≤ Lib.indexByte l 0 then some ((Lib.indexByte l 0).toNat, 82) else none
def firstBad : List (Nat × List UInt8) → Option (Nat × Nat)
  | [] => none
  | x :: r => match bad x.2 with
    | some (n, e) => some (x.1 + n, e)
    | none => firstBad r
def check (l : List UInt8) : Nat × Nat := if 400 < l.length then (0, 2) else (firstBad (pieces 0 l)).getD (0, 0)

theorem firstBad_append_none {a b : List (Nat × List UInt8)} (h : firstBad a = none) : firstBad (a ++ b) = firstBad b := by
  induction a with
  | nil => rfl
  | cons x r ih =>
    simp only [firstBad] at h
    cases hb : bad x.2 with
    | some y => rw [hb] at h; simp at h
    | none => rw [hb] at h; simp only [List.cons_append, firstBad, hb]; exact ih h
theorem firstBad_append_some {a b : List (Nat × List UInt8)} {y : Nat × Nat} (h : firstBad a = some y) : firstBad (a ++ b) = some y := by
  induction a with
  | nil => simp [firstBad] at h
  | cons x r ih =>
    simp only [firstBad] at h
    cases hb : bad x.2 with
    | some z => rw [hb] at h; simp only [List.cons_append, firstBad, hb]; exact h
    | none => rw [hb] at h; simp only [List.cons_append, firstBad, hb]; exact ih h

/-- Where there is no stroke, all is one piece. -/
theorem pc_none : ∀ (l : List UInt8) (pos : Nat), Lib.indexByte l 47 = -1 → pc pos l = (l, [])
  | [], _, _ => rfl
  | c :: l, pos, h => by
    simp only [Lib.indexByte] at h
    by_cases hc : c = 47
    · subst hc; simp at h
    · have h1 : (c == 47) = false := by simpa using hc
      rw [h1] at h
      have h2 : Lib.indexByte l 47 = -1 := by
        by_cases h3 : Lib.indexByte l 47 = -1
        · exact h3
        · have h4 : (Lib.indexByte l 47 == -1) = false := by simpa using h3
          have := Lib.indexByte_ge l 47
          simp only [h4, Bool.false_eq_true, if_false] at h
          omega
      simp only [pc, hc, if_false, pc_none l (pos + 1) h2]
/-- The first stroke parts the first piece from the others. -/
theorem pc_some : ∀ (l : List UInt8) (pos n : Nat), Lib.indexByte l 47 = n → n < l.length ∧ pc pos l = (l.take n, pieces (pos + n + 1) (l.drop (n + 1)))
  | [], _, n, h => by simp [Lib.indexByte] at h
  | c :: l, pos, n, h => by
    simp only [Lib.indexByte] at h
    by_cases hc : c = 47
    · subst hc
      simp at h
      obtain rfl : n = 0 := by omega
      exact ⟨by simp, by simp [pc, pieces]⟩
    · have h1 : (c == 47) = false := by simpa using hc
      rw [h1] at h
      by_cases h3 : Lib.indexByte l 47 = -1
      · simp [h3] at h
      · have h4 : (Lib.indexByte l 47 == -1) = false := by simpa using h3
        have := Lib.indexByte_ge l 47
        simp only [h4, Bool.false_eq_true, if_false] at h
        obtain ⟨m, rfl⟩ : ∃ m, n = m + 1 := ⟨n - 1, by omega⟩
        have h5 : Lib.indexByte l 47 = (m : Int) := by omega
        obtain ⟨h6, h7⟩ := pc_some l (pos + 1) m h5
        refine ⟨by simp; omega, ?_⟩
        simp only [pc, hc, if_false, h7, List.take_succ_cons, List.drop_succ_cons]
        rw [show pos + 1 + m + 1 = pos + (m + 1) + 1 from by omega]
theorem pieces_none (l : List UInt8) (pos : Nat) (h : Lib.indexByte l 47 = -1) : pieces pos l = [(pos, l)] := by
  simp [pieces, pc_none l pos h]
theorem pieces_some (l : List UInt8) (pos n : Nat) (h : Lib.indexByte l 47 = n) : pieces pos l = (pos, l.take n) :: pieces (pos + n + 1) (l.drop (n + 1)) := by
  have := (pc_some l pos n h).2
  simp only [pieces, this]

theorem pc_bound : ∀ (l : List UInt8) (pos : Nat), (pc pos l).1.length ≤ l.length ∧ ∀ x ∈ (pc pos l).2, x.1 + x.2.length ≤ pos + l.length
  | [], _ => ⟨by simp [pc], by simp [pc]⟩
  | c :: l, pos => by
    obtain ⟨h1, h2⟩ := pc_bound l (pos + 1)
    by_cases hc : c = 47
    · simp only [pc, hc, if_true]
      refine ⟨by simp, fun x hx => ?_⟩
      simp only [List.mem_cons] at hx
      rcases hx with rfl | hx
      · simp only [List.length_cons]; omega
      · have := h2 x hx; simp only [List.length_cons]; omega
    · simp only [pc, hc, if_false]
      refine ⟨by simp only [List.length_cons]; omega, fun x hx => ?_⟩
      have := h2 x hx; simp only [List.length_cons]; omega
theorem pieces_bound (l : List UInt8) (pos : Nat) : ∀ x ∈ pieces pos l, x.1 + x.2.length ≤ pos + l.length := by
  intro x hx
  obtain ⟨h1, h2⟩ := pc_bound l pos
  simp only [pieces, List.mem_cons] at hx
  rcases hx with rfl | hx
  · simp only; omega
  · exact h2 x hx
theorem pc_length : ∀ (l : List UInt8) (pos : Nat), (pc pos l).2.length ≤ l.length
  | [], _ => by simp [pc]
  | c :: l, pos => by
    have := pc_length l (pos + 1)
    by_cases hc : c = 47
    · simp only [pc, hc, if_true, List.length_cons]; omega
    · simp only [pc, hc, if_false, List.length_cons]; omega
theorem pieces_length (l : List UInt8) (pos : Nat) : (pieces pos l).length ≤ l.length + 1 := by
  have := pc_length l pos
  simp only [pieces, List.length_cons]; omega
theorem bad_some {l : List UInt8} {m e : Nat} (h : bad l = some (m, e)) : (e = 82 ∧ m < l.length) ∨ (e ≠ 82 ∧ m = 0) := by
  unfold bad at h
  split at h
  · right; simp at h; omega
  · split at h
    · right; simp at h; omega
    · split at h
      · right; simp at h; omega
      · split at h
        · rename_i h1
          left
          simp only [Option.some.injEq, Prod.mk.injEq] at h
          obtain ⟨rfl, rfl⟩ := h
          refine ⟨rfl, ?_⟩
          have h2 := (Lib.indexByte_some (l := l) (c := 0) (o := (Lib.indexByte l 0).toNat) (by omega)).1
          exact (List.getElem?_eq_some_iff.1 h2).1
        · simp at h

end Go.Proofs.YtnceocjgcdcpgaaDoor.Nm
