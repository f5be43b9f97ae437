/- More plain words on paths: the last place of a byte. -/
import Derived.Test.YtnceocjgcdcpgaaDoorNm
namespace Go.Proofs.YtnceocjgcdcpgaaDoor.Nm
/-- The last place of a byte; -1: none. -/
def lastIdx (c : UInt8) : List UInt8 → Int
  | [] => -1
  | x :: l => if 0 ≤ lastIdx c l then lastIdx c l + 1 else if x = c then 0 else -1
theorem lastIdx_ge (c : UInt8) : ∀ l, -1 ≤ lastIdx c l
  | [] => by simp [lastIdx]
  | x :: l => by
    have := lastIdx_ge c l
    simp only [lastIdx]
    split
    · omega
    · split <;> omega
theorem lastIdx_lt (c : UInt8) : ∀ l, lastIdx c l < l.length
  | [] => by simp [lastIdx]
  | x :: l => by
    have := lastIdx_lt c l
    simp only [lastIdx, List.length_cons]
    split
    · omega
    · split <;> omega
theorem lastIdx_snoc (c x : UInt8) : ∀ l, lastIdx c (l ++ [x]) = if x = c then (l.length : Int) else lastIdx c l
  | [] => by simp [lastIdx]
  | y :: l => by
    simp only [List.cons_append, lastIdx, lastIdx_snoc c x l, List.length_cons]
    by_cases h : x = c
    · simp only [h, if_true]
      rw [if_pos (by omega)]
      omega
    · simp only [h, if_false]
/-- Where the last piece begins. -/
theorem pc_last : ∀ (l : List UInt8) (pos : Nat), (lastIdx 47 l = -1 ∧ (pc pos l).2 = []) ∨ (0 ≤ lastIdx 47 l ∧ ∃ r x, (pc pos l).2 = r ++ [x] ∧ (x.1 : Int) = pos + lastIdx 47 l + 1)
  | [], _ => .inl ⟨rfl, rfl⟩
  | c :: l, pos => by
    rcases pc_last l (pos + 1) with ⟨h1, h2⟩ | ⟨h1, r, x, h2, h3⟩
    · simp only [lastIdx, h1]
      by_cases hc : c = 47
      · right
        simp only [pc, hc, if_true, h2]
        exact ⟨by omega, [], _, rfl, by simp only; omega⟩
      · left
        simp only [pc, hc, if_false, h2]
        exact ⟨by simp, trivial⟩
    · right
      simp only [lastIdx, h1, if_true]
      by_cases hc : c = 47
      · simp only [pc, hc, if_true, h2]
        exact ⟨by omega, _ :: r, x, rfl, by omega⟩
      · simp only [pc, hc, if_false, h2]
        exact ⟨by omega, r, x, rfl, by omega⟩
theorem pieces_last (l : List UInt8) : ∃ r x, pieces 0 l = r ++ [x] ∧ (x.1 : Int) = lastIdx 47 l + 1 := by
  rcases pc_last l 0 with ⟨h1, h2⟩ | ⟨h1, r, x, h2, h3⟩
  · exact ⟨[], _, by simp only [pieces, h2]; rfl, by rw [h1]; rfl⟩
  · exact ⟨_ :: r, x, by simp only [pieces, h2]; rfl, by omega⟩
end Go.Proofs.YtnceocjgcdcpgaaDoor.Nm
