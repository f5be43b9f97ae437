/- NameSplits: the pure statement. -/
import Derived.Test.YtnceocjgcdcpgaaDoorPureC
namespace Go.Proofs.YtnceocjgcdcpgaaDoor.Pure
open Go.RowKit Go.Proofs.YtnceocjgcdcpgaaDoor.X Go.Proofs.YtnceocjgcdcpgaaDoorW.PrintWords Go.Proofs.YtnceocjgcdcpgaaDoorW.PrintLast Go.Proofs.YtnceocjgcdcpgaaDoorW.PrintMore
open Go.Proofs.YtnceocjgcdcpgaaDoor

theorem lastIdx_some (c : UInt8) (l : List UInt8) (n : Nat) : Nm.lastIdx c l = n ↔ l[n]? = some c ∧ ∀ m, n < m → l[m]? ≠ some c := by
  induction l generalizing n with
  | nil => simp [Nm.lastIdx]
  | cons x l ih =>
    have hge := Nm.lastIdx_ge c l
    simp only [Nm.lastIdx]
    by_cases h : 0 ≤ Nm.lastIdx c l
    · rw [if_pos h]
      obtain ⟨m, hm⟩ : ∃ m : Nat, Nm.lastIdx c l = m := ⟨(Nm.lastIdx c l).toNat, by omega⟩
      have h2 := (ih m).1 hm
      constructor
      · intro e
        obtain rfl : n = m + 1 := by omega
        exact ⟨h2.1, fun q hq => by
          obtain ⟨q, rfl⟩ : ∃ r, q = r + 1 := ⟨q - 1, by omega⟩
          exact h2.2 q (by omega)⟩
      · rintro ⟨e1, e2⟩
        cases n with
        | zero => exact absurd h2.1 (e2 (m + 1) (by omega))
        | succ n =>
          have := (ih n).2 ⟨e1, fun q hq => e2 (q + 1) (by omega)⟩
          omega
    · rw [if_neg h]
      have h0 : ∀ m : Nat, Nm.lastIdx c l ≠ m := fun m => by omega
      by_cases hx : x = c
      · rw [if_pos hx]
        constructor
        · intro e
          obtain rfl : n = 0 := by omega
          refine ⟨by simp [hx], fun q hq => ?_⟩
          obtain ⟨q, rfl⟩ : ∃ r, q = r + 1 := ⟨q - 1, by omega⟩
          exact none_after c l (by omega) q
        · rintro ⟨e1, _⟩
          cases n with
          | zero => rfl
          | succ n => exact absurd e1 (none_after c l (by omega) n)
      · rw [if_neg hx]
        constructor
        · intro e; omega
        · rintro ⟨e1, _⟩
          cases n with
          | zero => simp at e1; exact absurd e1 hx
          | succ n => exact absurd e1 (none_after c l (by omega) n)
where
  none_after (c : UInt8) (l : List UInt8) (h : Nm.lastIdx c l < 0) : ∀ n : Nat, l[n]? ≠ some c := by
    induction l with
    | nil => simp
    | cons x l ih =>
      simp only [Nm.lastIdx] at h
      split at h
      · omega
      · rename_i h1
        split at h
        · omega
        · rename_i h2
          intro n
          cases n with
          | zero => simpa using h2
          | succ n => exact ih (by omega) n

/-- What Split answers, of a path that is right and longer than a name. -/
def splitB (p : ByteArray) : ByteArray × ByteArray × Int :=
  if Nm.lastIdx 47 (p.data.toList.take 156) < 0 then (⟨#[]⟩, ⟨#[]⟩, 2)
  else if 101 + (Nm.lastIdx 47 (p.data.toList.take 156)).toNat < p.size then (⟨#[]⟩, ⟨#[]⟩, 2)
  else (p.extract 0 (Nm.lastIdx 47 (p.data.toList.take 156)).toNat, p.extract ((Nm.lastIdx 47 (p.data.toList.take 156)).toNat + 1) p.size, 0)
def splitAll (p : ByteArray) : ByteArray × ByteArray × Int :=
  if (Nm.check p.data.toList).2 = 0 then (if p.size ≤ 100 then (⟨#[]⟩, p, 0) else splitB p) else (⟨#[]⟩, ⟨#[]⟩, ((Nm.check p.data.toList).2 : Int))
theorem mn_eq (a b : Int) : mn a b = if b < a then b else a := rfl
theorem nsplit_ev (p : ByteArray) : Ev (fun k => name_Split.f k p) (splitAll p) := by
  have hl := len_eq p
  unfold splitAll
  by_cases h1 : (Nm.check p.data.toList).2 = 0
  · have hs := ((Nm.check_ok _).1 h1).1
    rw [if_pos h1]
    by_cases h2 : p.size ≤ 100
    · rw [if_pos h2]
      refine Ev.congr (fun k => ?_) (Ev.now _)
      rw [name_Split.f, ncheck, Option.bind_some, if_pos (by simp [h1]), if_pos (by omega)]
    · rw [if_neg h2]
      have hm : mn (p.size : Int) 156 = ((min p.size 156 : Nat) : Int) := by rw [mn_eq]; split <;> omega
      have e : (p.extract 0 (min p.size 156)).data.toList = p.data.toList.take 156 := by
        rw [Lib.extract_data, List.drop_zero, Nat.sub_zero]
        by_cases h : p.size ≤ 156
        · rw [Nat.min_eq_left h, List.take_of_length_le (by omega), List.take_of_length_le (by omega)]
        · rw [Nat.min_eq_right (by omega)]
      have hz : (p.extract 0 (min p.size 156)).size ≤ 156 := by rw [← len_eq, e, List.length_take]; omega
      have hi := lastb_ev (p.extract 0 (min p.size 156)) (by omega)
      rw [e] at hi
      have g1 := Nm.lastIdx_ge 47 (p.data.toList.take 156)
      have g2 := Nm.lastIdx_lt 47 (p.data.toList.take 156)
      rw [List.length_take, hl] at g2
      refine Ev.congr (fun k => by rw [name_Split.f, ncheck, Option.bind_some, if_pos (by simp [h1]), if_neg (by omega), hm, if_pos (by omega), if_pos (by omega), Int.toNat_natCast]) (Ev.bind hi (Ev.congr (fun k => ?_) (Ev.now _)))
      unfold splitB
      by_cases h3 : Nm.lastIdx 47 (p.data.toList.take 156) < 0
      · rw [if_pos h3, if_pos h3]
      · rw [if_neg h3, if_neg h3]
        obtain ⟨n, hn⟩ : ∃ n : Nat, Nm.lastIdx 47 (p.data.toList.take 156) = n := ⟨(Nm.lastIdx 47 (p.data.toList.take 156)).toNat, by omega⟩
        rw [hn, Int.toNat_natCast]
        have hw : wrap64 (wrap64 ((p.size : Int) - (n : Int)) - 1) = (p.size : Int) - n - 1 := by unfold wrap64; omega
        rw [hw]
        by_cases h4 : 101 + n < p.size
        · rw [if_pos (by omega), if_pos h4]
        · rw [if_neg (by omega), if_neg h4, wrap_succ (by omega), if_pos (by omega), if_pos (by omega), if_pos (by omega), if_pos (by omega), Int.toNat_natCast]
  · rw [if_neg h1]
    refine Ev.congr (fun k => ?_) (Ev.now _)
    rw [name_Split.f, ncheck, Option.bind_some, if_neg (by simp; omega)]
end Go.Proofs.YtnceocjgcdcpgaaDoor.Pure
