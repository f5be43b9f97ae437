/- More plain words on paths: texts of pieces, put together again; the order; what is beneath. -/
import Derived.Test.YtnceocjgcdcpgaaDoorNmB
namespace Go.Proofs.YtnceocjgcdcpgaaDoor.Nm
def texts (l : List UInt8) : List (List UInt8) := (pieces 0 l).map (·.2)
def joinT : List (List UInt8) → List UInt8
  | [] => []
  | [x] => x
  | x :: y :: r => x ++ 47 :: joinT (y :: r)
theorem pc_texts : ∀ (l : List UInt8) (p q : Nat), (pc p l).1 = (pc q l).1 ∧ (pc p l).2.map (·.2) = (pc q l).2.map (·.2)
  | [], _, _ => ⟨rfl, rfl⟩
  | c :: l, p, q => by
    obtain ⟨h1, h2⟩ := pc_texts l (p + 1) (q + 1)
    by_cases hc : c = 47
    · simp only [pc, hc, if_true, List.map_cons, h1, h2, and_self]
    · simp only [pc, hc, if_false, h1, h2, and_self]
theorem pieces_texts (l : List UInt8) (p : Nat) : (pieces p l).map (·.2) = texts l := by
  obtain ⟨h1, h2⟩ := pc_texts l p 0
  simp only [texts, pieces, List.map_cons, h1, h2]
theorem pc_append : ∀ (a b : List UInt8) (p : Nat), pc p (a ++ 47 :: b) = ((pc p a).1, (pc p a).2 ++ pieces (p + a.length + 1) b)
  | [], b, p => by simp [pc, pieces]
  | c :: a, b, p => by
    have h := pc_append a b (p + 1)
    have e : p + 1 + a.length + 1 = p + (c :: a).length + 1 := by simp only [List.length_cons]; omega
    by_cases hc : c = 47
    · simp only [List.cons_append, pc, hc, if_true, h, e, List.length_cons]
    · simp only [List.cons_append, pc, hc, if_false, h, e]
theorem pieces_append (a b : List UInt8) (p : Nat) : pieces p (a ++ 47 :: b) = pieces p a ++ pieces (p + a.length + 1) b := by
  simp only [pieces, pc_append, List.cons_append]
theorem texts_append (a b : List UInt8) : texts (a ++ 47 :: b) = texts a ++ texts b := by
  simp only [texts, pieces_append, List.map_append]
  rw [pieces_texts b (0 + a.length + 1)]
  rfl
theorem texts_ne (l : List UInt8) : texts l ≠ [] := by simp [texts, pieces]
theorem joinT_pc : ∀ (l : List UInt8) (p : Nat), joinT ((pc p l).1 :: (pc p l).2.map (·.2)) = l
  | [], _ => rfl
  | c :: l, p => by
    have h := joinT_pc l (p + 1)
    by_cases hc : c = 47
    · subst hc
      simp only [pc, if_true, List.map_cons, joinT, List.nil_append, h]
    · simp only [pc, hc, if_false]
      cases hs : (pc (p + 1) l).2 with
      | nil => rw [hs] at h; simp only [List.map_nil, joinT] at h ⊢; rw [h]
      | cons x r => rw [hs] at h; simp only [List.map_cons, joinT] at h ⊢; rw [List.cons_append, h]
theorem joinT_texts (l : List UInt8) : joinT (texts l) = l := joinT_pc l 0
theorem joinT_append : ∀ (x : List (List UInt8)) (y : List (List UInt8)), x ≠ [] → y ≠ [] → joinT (x ++ y) = joinT x ++ 47 :: joinT y
  | [a], y, _, hy => by
    cases y with
    | nil => exact absurd rfl hy
    | cons b r => rfl
  | a :: b :: r, y, _, hy => by
    have := joinT_append (b :: r) y (by simp) hy
    simp only [List.cons_append, joinT] at this ⊢
    rw [this]; simp
/-- A text begins with another and a stroke just where its pieces begin with the other's and go on. -/
theorem beneath_iff (a p : List UInt8) : (∃ b, p = a ++ 47 :: b) ↔ ∃ r, r ≠ [] ∧ texts p = texts a ++ r := by
  constructor
  · rintro ⟨b, rfl⟩
    exact ⟨texts b, texts_ne b, texts_append a b⟩
  · rintro ⟨r, hr, h⟩
    refine ⟨joinT r, ?_⟩
    have := congrArg joinT h
    rw [joinT_texts, joinT_append _ _ (texts_ne a) hr, joinT_texts] at this
    exact this

theorem bad_ne {l : List UInt8} {m e : Nat} (h : bad l = some (m, e)) : e ≠ 0 := by
  rintro rfl
  unfold bad at h
  repeat' split at h
  all_goals simp at h
theorem firstBad_ne {l : List (Nat × List UInt8)} {y : Nat × Nat} (h : firstBad l = some y) : y.2 ≠ 0 := by
  induction l with
  | nil => simp [firstBad] at h
  | cons x r ih =>
    simp only [firstBad] at h
    cases hb : bad x.2 with
    | none => rw [hb] at h; exact ih h
    | some z =>
      rw [hb] at h
      obtain ⟨m, e⟩ := z
      simp only [Option.some.injEq] at h
      subst h
      exact bad_ne hb
theorem firstBad_none {l : List (Nat × List UInt8)} : firstBad l = none ↔ ∀ t ∈ l.map (·.2), bad t = none := by
  induction l with
  | nil => simp [firstBad]
  | cons x r ih =>
    simp only [firstBad, List.map_cons, List.mem_cons, forall_eq_or_imp]
    cases hb : bad x.2 with
    | none => simp only [true_and]; exact ih
    | some z => simp
/-- A text is a path just where it is no longer than 400 bytes and no piece is bad. -/
theorem check_ok (l : List UInt8) : (check l).2 = 0 ↔ l.length ≤ 400 ∧ ∀ t ∈ texts l, bad t = none := by
  unfold check
  by_cases h : 400 < l.length
  · rw [if_pos h]
    constructor
    · intro e; simp at e
    · rintro ⟨h1, _⟩; omega
  · rw [if_neg h]
    have e : (firstBad (pieces 0 l) = none) ↔ ∀ t ∈ texts l, bad t = none := firstBad_none
    cases hf : firstBad (pieces 0 l) with
    | none => simp only [Option.getD_none, true_iff]; exact ⟨by omega, e.1 hf⟩
    | some y =>
      have := firstBad_ne hf
      simp only [Option.getD_some]
      constructor
      · intro h0; exact absurd h0 this
      · rintro ⟨_, h2⟩; rw [e.2 h2] at hf; simp at hf
/-- Does a text's pieces begin another's? -/
def eqT : List (List UInt8) → List (List UInt8) → Bool
  | [], _ => true
  | _ :: _, [] => false
  | a :: x, b :: y => decide (a = b) && eqT x y
theorem eqT_iff : ∀ (x y : List (List UInt8)), eqT x y = true ↔ ∃ r, y = x ++ r
  | [], y => by simp [eqT]
  | _ :: _, [] => by simp [eqT]
  | a :: x, b :: y => by
    simp only [eqT, Bool.and_eq_true, decide_eq_true_eq, eqT_iff x y, List.cons_append, List.cons.injEq]
    constructor
    · rintro ⟨rfl, r, rfl⟩; exact ⟨r, rfl, rfl⟩
    · rintro ⟨r, rfl, rfl⟩; exact ⟨rfl, r, rfl⟩
/-- The order of two texts, piece by piece. -/
def cmpL : List (List UInt8) → List (List UInt8) → Int
  | [], [] => 0
  | [], _ :: _ => -1
  | _ :: _, [] => 1
  | x :: a, y :: b => if Op.bytesLess x y = true then -1 else if Op.bytesLess y x = true then 1 else cmpL a b
end Go.Proofs.YtnceocjgcdcpgaaDoor.Nm
