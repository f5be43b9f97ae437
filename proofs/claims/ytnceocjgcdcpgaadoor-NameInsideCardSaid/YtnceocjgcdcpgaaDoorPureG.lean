/- NameOrder: the pure statement. -/
import Derived.Test.YtnceocjgcdcpgaaDoorPureF
import Derived.Test.YtnceocjgcdcpgaaDoorNmE
namespace Go.Proofs.YtnceocjgcdcpgaaDoor.Pure
open Go.RowKit Go.Proofs.YtnceocjgcdcpgaaDoor.X Go.Proofs.YtnceocjgcdcpgaaDoorW.PrintWords Go.Proofs.YtnceocjgcdcpgaaDoorW.PrintLast Go.Proofs.YtnceocjgcdcpgaaDoorW.PrintMore
open Go.Proofs.YtnceocjgcdcpgaaDoor

theorem ncompare_ev (a b : ByteArray) (ha : a.size ≤ 140737488355328) (hb : b.size ≤ 140737488355328) : Ev (fun k => name_Compare.f k a b) (Nm.cmpL (Nm.texts a.data.toList) (Nm.texts b.data.toList)) :=
  ncompare_l0 a.size a b (Nat.le_refl _) ha hb

theorem awake_ev : Ev (fun k => tabularylaw08_awake.f k) true := by
  have c1 : Nm.check [97, 47, 98, 32, 99] = (0, 0) := by decide
  have c2 : Nm.check [97, 47, 46, 46, 47, 98] = (2, 81) := by decide
  have c3 : Nm.lead [97, 47, 98, 47, 108] [46, 46, 47, 99] = ([97, 47, 99], 0) := by decide
  have c4 : Nm.cmpL (Nm.texts [97, 47, 98]) (Nm.texts [97, 45, 98]) = -1 := by decide
  have c5 : ben [97] [97, 47, 98] = true := ben_true ⟨by decide, .inr ⟨[98], rfl⟩⟩
  have c6 : ben [97] [97, 98] = false := ben_false (by
    rintro ⟨_, h | ⟨b, h⟩⟩
    · simp at h
    · simp at h)
  have h := ncompare_ev (⟨#[97, 47, 98]⟩ : ByteArray) (⟨#[97, 45, 98]⟩ : ByteArray) (by decide) (by decide)
  have h4 : Ev (fun k => name_Compare.f k (⟨#[97, 47, 98]⟩ : ByteArray) (⟨#[97, 45, 98]⟩ : ByteArray)) (-1) := by rw [← c4]; exact h
  have n1 : name_Check.f (⟨#[97, 47, 98, 32, 99]⟩ : ByteArray) = some (0, 0) := by rw [ncheck, c1]; rfl
  have n2 : name_Check.f (⟨#[97, 47, 46, 46, 47, 98]⟩ : ByteArray) = some (2, 81) := by rw [ncheck, c2]; rfl
  have n3 : name_Lead.f (⟨#[97, 47, 98, 47, 108]⟩ : ByteArray) (⟨#[46, 46, 47, 99]⟩ : ByteArray) = some (bytesOfL [97, 47, 99], 0) := by rw [nlead, c3]; rfl
  have n5 : name_Beneath.f (⟨#[97]⟩ : ByteArray) (⟨#[97, 47, 98]⟩ : ByteArray) = some true := by rw [nbeneath]; exact congrArg some c5
  have n6 : name_Beneath.f (⟨#[97]⟩ : ByteArray) (⟨#[97, 98]⟩ : ByteArray) = some false := by rw [nbeneath]; exact congrArg some c6
  refine Ev.congr (fun k => by
    rw [tabularylaw08_awake.f, n1, n2, n3, Option.bind_some, Option.bind_some, Option.bind_some, if_pos rfl, if_pos rfl, if_pos rfl, if_pos rfl, toList_of, if_pos rfl, n5, n6]) (Ev.bind h4 ?_)
  exact Ev.congr (fun k => by rw [if_pos rfl, Option.bind_some, if_pos rfl, Option.bind_some]; rfl) (Ev.now _)

theorem order_j1 (a b c : ByteArray) (x y : Int) (h : a.data.toList ≠ [] → ben a.data.toList c.data.toList = true → (Nm.check b.data.toList).2 = 0 → x < 0 → y < 0 → ben a.data.toList b.data.toList = true) :
    Ev (fun k => tabularylaw08_NameOrder.j1 k a b c x y false) true := by
  refine Ev.step (fun k => ?_) (Ev.now _)
  rw [tabularylaw08_NameOrder.j1, if_neg (by decide), ncheck, Option.bind_some, toList_eq]
  by_cases h1 : a.data.toList = []
  · rw [if_pos h1]
  · rw [if_neg h1, nbeneath, Option.bind_some]
    by_cases h2 : ben a.data.toList c.data.toList = true
    · rw [if_pos h2]
      by_cases h3 : (Nm.check b.data.toList).2 = 0
      · rw [if_pos (by simp [h3])]
        by_cases h4 : x < 0
        · rw [if_pos h4]
          by_cases h5 : y < 0
          · rw [if_pos h5, nbeneath, Option.bind_some, h h1 h2 h3 h4 h5]
          · rw [if_neg h5]
        · rw [if_neg h4]
      · rw [if_neg (by simp; omega)]
    · rw [if_neg h2]
theorem order_j0 (a b c : ByteArray) (x y : Int) (h : a.data.toList ≠ [] → ben a.data.toList c.data.toList = true → (Nm.check b.data.toList).2 = 0 → x < 0 → y < 0 → ben a.data.toList b.data.toList = true)
    (h0 : a.data.toList ≠ [] → ben a.data.toList b.data.toList = true → x = -1) :
    Ev (fun k => tabularylaw08_NameOrder.j0 k a b c x y false) true := by
  refine Ev.step (fun k => ?_) (order_j1 a b c x y h)
  rw [tabularylaw08_NameOrder.j0, if_neg (by decide), toList_eq]
  by_cases h1 : a.data.toList = []
  · rw [if_pos h1]
  · rw [if_neg h1, nbeneath, Option.bind_some]
    by_cases h2 : ben a.data.toList b.data.toList = true
    · rw [if_pos h2, h0 h1 h2]; rfl
    · rw [if_neg h2]
theorem ben_iff {a p : List UInt8} (ha : a ≠ []) : ben a p = true ↔ (Nm.check p).2 = 0 ∧ ∃ r, r ≠ [] ∧ Nm.texts p = Nm.texts a ++ r := by
  constructor
  · intro h
    unfold ben at h
    split at h
    · rename_i h2
      obtain ⟨h3, h4 | h4⟩ := h2
      · exact absurd h4 ha
      · exact ⟨h3, (Nm.beneath_iff _ _).1 h4⟩
    · simp at h
  · rintro ⟨h1, h2⟩
    exact ben_true ⟨h1, .inr ((Nm.beneath_iff _ _).2 h2)⟩
/-- **NameOrder.** -/
theorem order_ev (a b c : ByteArray) (ha : a.size ≤ 140737488355328) (hb : b.size ≤ 140737488355328) (hc : c.size ≤ 140737488355328) : Ev (fun k => tabularylaw08_NameOrder.f k a b c) true := by
  have hx := ncompare_ev a b ha hb
  have hy := ncompare_ev b c hb hc
  have hz := ncompare_ev a c ha hc
  have hw := ncompare_ev b a hb ha
  rw [Nm.cmp_neg] at hw
  have v1 := Nm.cmp_vals (Nm.texts a.data.toList) (Nm.texts b.data.toList)
  have k1 : ∀ h1 : a.data.toList ≠ [], ben a.data.toList c.data.toList = true → (Nm.check b.data.toList).2 = 0 → Nm.cmpL (Nm.texts a.data.toList) (Nm.texts b.data.toList) < 0 → Nm.cmpL (Nm.texts b.data.toList) (Nm.texts c.data.toList) < 0 → ben a.data.toList b.data.toList = true := by
    intro h1 h2 h3 h4 h5
    obtain ⟨_, r, hr, h6⟩ := (ben_iff h1).1 h2
    rw [h6] at h5
    exact (ben_iff h1).2 ⟨h3, Nm.cmp_between _ _ _ h4 h5⟩
  have k0 : a.data.toList ≠ [] → ben a.data.toList b.data.toList = true → Nm.cmpL (Nm.texts a.data.toList) (Nm.texts b.data.toList) = -1 := by
    intro h1 h2
    obtain ⟨_, r, hr, h6⟩ := (ben_iff h1).1 h2
    rw [h6]
    exact Nm.cmp_begins _ _ hr
  have k2 : Nm.cmpL (Nm.texts a.data.toList) (Nm.texts b.data.toList) = 0 ↔ a.data.toList = b.data.toList := by
    constructor
    · intro h; exact Nm.texts_inj (Nm.cmp_zero _ _ h)
    · intro h; rw [h]; exact Nm.cmp_self _
  have k3 : Nm.cmpL (Nm.texts a.data.toList) (Nm.texts b.data.toList) ≤ 0 → Nm.cmpL (Nm.texts b.data.toList) (Nm.texts c.data.toList) ≤ 0 → Nm.cmpL (Nm.texts a.data.toList) (Nm.texts c.data.toList) ≤ 0 := Nm.cmp_le_trans
  have k4 : Nm.cmpL (Nm.texts a.data.toList) (Nm.texts b.data.toList) < 0 → Nm.cmpL (Nm.texts b.data.toList) (Nm.texts c.data.toList) ≤ 0 → Nm.cmpL (Nm.texts a.data.toList) (Nm.texts c.data.toList) < 0 := Nm.cmp_lt_le
  generalize Nm.cmpL (Nm.texts a.data.toList) (Nm.texts b.data.toList) = x at *
  generalize Nm.cmpL (Nm.texts b.data.toList) (Nm.texts c.data.toList) = y at *
  generalize Nm.cmpL (Nm.texts a.data.toList) (Nm.texts c.data.toList) = z at *
  have e1 : wrap64 (-x) = -x := by unfold wrap64; omega
  have e2 : ((x == 0) != (a.data.toList == b.data.toList)) = false := by
    by_cases h : x = 0
    · have := k2.1 h
      rw [h, this]; simp
    · have h3 : ¬ a.data.toList = b.data.toList := fun e => h (k2.2 e)
      rw [beq_eq_false_iff_ne.2 h, beq_eq_false_iff_ne.2 h3]; rfl
  have hj := order_j0 a b c x y k1 k0
  refine Ev.congr (fun k => by rw [tabularylaw08_NameOrder.f]) (Ev.bind awake_ev (Ev.congr (fun k => by rw [if_pos rfl]) (Ev.bind hx (Ev.bind hy (Ev.bind hz ?_)))))
  refine Ev.congr (fun k => by rw [if_neg (by omega), if_neg (by omega)]) (Ev.bind hw ?_)
  refine Ev.congr (fun k => by rw [e1, if_pos rfl, toList_eq, toList_eq, e2, if_neg (by decide)]) ?_
  by_cases h1 : x ≤ 0
  · by_cases h2 : y ≤ 0
    · have h3 := k3 h1 h2
      by_cases h4 : x < 0
      · have h5 := k4 h4 h2
        have e3 : decide (z ≥ 0) = false := by simp; omega
        exact Ev.congr (fun k => by rw [if_pos h1, if_pos h2, if_neg (by omega), if_pos h4, e3]) hj
      · exact Ev.congr (fun k => by rw [if_pos h1, if_pos h2, if_neg (by omega), if_neg h4]) hj
    · by_cases h4 : x < 0
      · exact Ev.congr (fun k => by rw [if_pos h1, if_neg h2, if_pos h4]) hj
      · exact Ev.congr (fun k => by rw [if_pos h1, if_neg h2, if_neg h4]) hj
  · exact Ev.congr (fun k => by rw [if_neg h1, if_neg (by omega)]) hj
end Go.Proofs.YtnceocjgcdcpgaaDoor.Pure
