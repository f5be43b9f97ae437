/- Plain words on paths: the order of paths is one, and what is beneath a path stands right behind it. -/
import Derived.Test.YtnceocjgcdcpgaaDoorNmD
import Derived.Test.YtnceocjgcdcpgaaDoorLaws
namespace Go.Proofs.YtnceocjgcdcpgaaDoor.Nm
theorem bl_irrefl : ∀ x : List UInt8, Op.bytesLess x x = false
  | [] => rfl
  | a :: x => by
    simp only [Op.bytesLess, bl_irrefl x, Bool.and_false, Bool.or_false, decide_eq_false_iff_not]
    exact fun h => by rw [UInt8.lt_iff_toNat_lt] at h; omega
theorem bl_trans : ∀ x y z : List UInt8, Op.bytesLess x y = true → Op.bytesLess y z = true → Op.bytesLess x z = true
  | [], _, [], _, h => by cases ‹List UInt8› <;> simp [Op.bytesLess] at h
  | [], _, _ :: _, _, _ => rfl
  | _ :: _, [], _, h, _ => by simp [Op.bytesLess] at h
  | _ :: _, _ :: _, [], _, h => by simp [Op.bytesLess] at h
  | a :: x, b :: y, c :: z, h1, h2 => by
    simp only [Op.bytesLess, Bool.or_eq_true, decide_eq_true_eq, Bool.and_eq_true, beq_iff_eq] at h1 h2 ⊢
    rcases h1 with h1 | ⟨rfl, h1⟩
    · rcases h2 with h2 | ⟨rfl, h2⟩
      · left; rw [UInt8.lt_iff_toNat_lt] at *; omega
      · left; exact h1
    · rcases h2 with h2 | ⟨rfl, h2⟩
      · left; exact h2
      · right; exact ⟨rfl, bl_trans x y z h1 h2⟩
theorem bl_asymm {x y : List UInt8} (h : Op.bytesLess x y = true) : Op.bytesLess y x = false := by
  cases h2 : Op.bytesLess y x with
  | false => rfl
  | true => have := bl_trans _ _ _ h h2; rw [bl_irrefl] at this; exact this.symm
theorem bl_tri (x y : List UInt8) : x = y ∨ Op.bytesLess x y = true ∨ Op.bytesLess y x = true := by
  cases h1 : Op.bytesLess x y with
  | true => exact .inr (.inl rfl)
  | false =>
    cases h2 : Op.bytesLess y x with
    | true => exact .inr (.inr rfl)
    | false =>
      left
      have := bytesLess_swap x y
      rw [h2, h1] at this
      simpa using this
theorem cmp_cons (x : List UInt8) (a : List (List UInt8)) (y : List UInt8) (b : List (List UInt8)) : cmpL (x :: a) (y :: b) = if x = y then cmpL a b else if Op.bytesLess x y = true then -1 else 1 := by
  simp only [cmpL]
  rcases bl_tri x y with h | h | h
  · subst h; rw [bl_irrefl]; simp
  · rw [if_pos h, if_neg (fun e => by rw [e, bl_irrefl] at h; simp at h), if_pos h]
  · rw [if_neg (by rw [bl_asymm h]; simp), if_pos h, if_neg (fun e => by rw [e, bl_irrefl] at h; simp at h), if_neg (by rw [bl_asymm h]; simp)]
theorem cmp_self : ∀ x : List (List UInt8), cmpL x x = 0
  | [] => rfl
  | x :: a => by rw [cmp_cons, if_pos rfl, cmp_self a]
theorem cmp_vals : ∀ x y : List (List UInt8), cmpL x y = -1 ∨ cmpL x y = 0 ∨ cmpL x y = 1
  | [], [] => .inr (.inl rfl)
  | [], _ :: _ => .inl rfl
  | _ :: _, [] => .inr (.inr rfl)
  | x :: a, y :: b => by
    rw [cmp_cons]
    split
    · exact cmp_vals a b
    · split <;> simp
theorem cmp_neg : ∀ x y : List (List UInt8), cmpL y x = - cmpL x y
  | [], [] => rfl
  | [], _ :: _ => rfl
  | _ :: _, [] => rfl
  | x :: a, y :: b => by
    rw [cmp_cons, cmp_cons]
    by_cases h : x = y
    · rw [if_pos h, if_pos h.symm, cmp_neg a b]
    · rw [if_neg h, if_neg (fun e => h e.symm)]
      rcases bl_tri x y with h1 | h1 | h1
      · exact absurd h1 h
      · rw [if_pos h1, if_neg (by rw [bl_asymm h1]; simp)]; rfl
      · rw [if_pos h1, if_neg (by rw [bl_asymm h1]; simp)]
theorem cmp_zero : ∀ x y : List (List UInt8), cmpL x y = 0 → x = y
  | [], [], _ => rfl
  | [], _ :: _, h => by simp [cmpL] at h
  | _ :: _, [], h => by simp [cmpL] at h
  | x :: a, y :: b, h => by
    rw [cmp_cons] at h
    split at h
    · rename_i e; rw [e, cmp_zero a b h]
    · split at h <;> simp at h
theorem cmp_lt_trans : ∀ x y z : List (List UInt8), cmpL x y = -1 → cmpL y z = -1 → cmpL x z = -1
  | [], [], _, h, _ => by simp [cmpL] at h
  | _ :: _, [], _, h, _ => by simp [cmpL] at h
  | _, _ :: _, [], _, h => by simp [cmpL] at h
  | [], _ :: _, _ :: _, _, _ => rfl
  | x :: a, y :: b, z :: c, h1, h2 => by
    rw [cmp_cons] at h1 h2 ⊢
    by_cases e1 : x = y
    · rw [if_pos e1] at h1
      subst e1
      by_cases e2 : x = z
      · rw [if_pos e2] at h2 ⊢; exact cmp_lt_trans a b c h1 h2
      · rw [if_neg e2] at h2 ⊢; exact h2
    · rw [if_neg e1] at h1
      have b1 : Op.bytesLess x y = true := by
        cases hb : Op.bytesLess x y with
        | true => rfl
        | false => rw [hb] at h1; simp at h1
      by_cases e2 : y = z
      · subst e2; rw [if_neg e1, if_pos b1]
      · rw [if_neg e2] at h2
        have b2 : Op.bytesLess y z = true := by
          cases hb : Op.bytesLess y z with
          | true => rfl
          | false => rw [hb] at h2; simp at h2
        have b3 := bl_trans _ _ _ b1 b2
        rw [if_neg (fun e => by rw [e, bl_irrefl] at b3; simp at b3), if_pos b3]
theorem cmp_le_trans {x y z : List (List UInt8)} (h1 : cmpL x y ≤ 0) (h2 : cmpL y z ≤ 0) : cmpL x z ≤ 0 := by
  rcases cmp_vals x y with e1 | e1 | e1
  · rcases cmp_vals y z with e2 | e2 | e2
    · rw [cmp_lt_trans _ _ _ e1 e2]; omega
    · rw [← cmp_zero _ _ e2, e1]; omega
    · omega
  · rw [cmp_zero _ _ e1]; exact h2
  · omega
theorem cmp_lt_le {x y z : List (List UInt8)} (h1 : cmpL x y < 0) (h2 : cmpL y z ≤ 0) : cmpL x z < 0 := by
  rcases cmp_vals x y with e1 | e1 | e1
  · rcases cmp_vals y z with e2 | e2 | e2
    · rw [cmp_lt_trans _ _ _ e1 e2]; omega
    · rw [← cmp_zero _ _ e2, e1]; omega
    · omega
  · omega
  · omega
theorem cmp_begins : ∀ (x r : List (List UInt8)), r ≠ [] → cmpL x (x ++ r) = -1
  | [], [], h => absurd rfl h
  | [], _ :: _, _ => rfl
  | x :: a, r, h => by rw [List.cons_append, cmp_cons, if_pos rfl, cmp_begins a r h]
theorem cmp_between : ∀ (x y r : List (List UInt8)), cmpL x y < 0 → cmpL y (x ++ r) < 0 → ∃ s, s ≠ [] ∧ y = x ++ s
  | [], [], _, h, _ => by simp [cmpL] at h
  | [], y :: b, _, _, _ => ⟨y :: b, by simp, rfl⟩
  | _ :: _, [], _, h, _ => by simp [cmpL] at h
  | x :: a, y :: b, r, h1, h2 => by
    rw [List.cons_append, cmp_cons] at h2
    rw [cmp_cons] at h1
    by_cases e : x = y
    · subst e
      rw [if_pos rfl] at h1 h2
      obtain ⟨s, hs, rfl⟩ := cmp_between a b r h1 h2
      exact ⟨s, hs, rfl⟩
    · rw [if_neg e] at h1
      rw [if_neg (fun e' => e e'.symm)] at h2
      have b1 : Op.bytesLess x y = true := by
        cases hb : Op.bytesLess x y with
        | true => rfl
        | false => rw [hb] at h1; simp at h1
      rw [if_neg (by rw [bl_asymm b1]; simp)] at h2
      simp at h2
theorem texts_inj {a b : List UInt8} (h : texts a = texts b) : a = b := by rw [← joinT_texts a, h, joinT_texts]
end Go.Proofs.YtnceocjgcdcpgaaDoor.Nm
