/- NameCuts: the pure statement. -/
import Derived.Test.YtnceocjgcdcpgaaDoorPureG
namespace Go.Proofs.YtnceocjgcdcpgaaDoor.Pure
open Go.RowKit Go.Proofs.YtnceocjgcdcpgaaDoor.X Go.Proofs.YtnceocjgcdcpgaaDoorW.PrintWords Go.Proofs.YtnceocjgcdcpgaaDoorW.PrintLast Go.Proofs.YtnceocjgcdcpgaaDoorW.PrintMore
open Go.Proofs.YtnceocjgcdcpgaaDoor

/-- A path does not begin with a stroke. -/
theorem no_head {l : List UInt8} (h : (Nm.check l).2 = 0) : l[0]? ≠ some 47 := by
  intro h0
  have hi : Lib.indexByte l 47 = (0 : Nat) := by
    cases l with
    | nil => simp at h0
    | cons c r =>
      simp only [List.getElem?_cons_zero, Option.some.injEq] at h0
      subst h0
      simp [Lib.indexByte]
  have := ((Nm.check_ok l).1 h).2 [] (by rw [texts_some hi]; simp)
  simp [Nm.bad] at this
theorem last_none (c : UInt8) : ∀ l : List UInt8, Nm.lastIdx c l < 0 → ∀ m : Nat, l[m]? ≠ some c
  | [], _, m => by simp
  | x :: l, h, m => by
    simp only [Nm.lastIdx] at h
    split at h
    · omega
    · split at h
      · omega
      · rename_i h1 h2
        cases m with
        | zero => simpa using h2
        | succ m => rw [List.getElem?_cons_succ]; exact last_none c l (by omega) m
/-- Where a stroke stands, the last one stands no earlier. -/
theorem stroke_le {l : List UInt8} {m : Nat} (h : l[m]? = some 47) (hm : m ≤ 155) : ∃ n : Nat, Nm.lastIdx 47 (l.take 156) = n ∧ m ≤ n := by
  have h1 : (l.take 156)[m]? = some 47 := by rw [List.getElem?_take, if_pos (by omega)]; exact h
  have hge := Nm.lastIdx_ge 47 (l.take 156)
  by_cases h2 : Nm.lastIdx 47 (l.take 156) = -1
  · exact absurd h1 (last_none 47 _ (by omega) m)
  · obtain ⟨n, hn⟩ : ∃ n : Nat, Nm.lastIdx 47 (l.take 156) = n := ⟨(Nm.lastIdx 47 (l.take 156)).toNat, by omega⟩
    refine ⟨n, hn, ?_⟩
    by_cases h3 : n < m
    · exact absurd h1 (((lastIdx_some 47 _ n).1 hn).2 m h3)
    · omega
theorem wrap_gap {s m : Nat} (h : s ≤ 400) (hm : m < s) : wrap64 ((wrap64 ((s : Int) - (m : Int))) - 1) = ((s - m - 1 : Nat) : Int) := by
  rw [wrap_sub (by omega) (by omega), wrap_pred (by omega) (by omega)]

/-- What is asked of the cut that is handed in. -/
theorem cuts_j0 (p : ByteArray) (hp : p.size ≤ 400) (x1 : Int) (a b : ByteArray) (h : ∀ m : Nat, x1 = m → p.data.toList[m]? = some 47 → m ≤ 155 → 100 < p.size → m ≤ a.size) :
    Ev (fun k => tabularylaw08_NameCuts.j0 k p x1 a b 0 false) true := by
  refine Ev.step (fun k => ?_) (Ev.now _)
  rw [tabularylaw08_NameCuts.j0, if_neg (by decide)]
  by_cases h1 : x1 < 0
  · rw [if_pos h1, if_pos rfl]
  · rw [if_neg h1]
    by_cases h2 : x1 ≥ (p.size : Int)
    · rw [if_pos h2, if_pos rfl]
    · obtain ⟨m, rfl⟩ : ∃ m : Nat, x1 = m := ⟨x1.toNat, by omega⟩
      rw [if_neg h2, if_pos (by omega), if_pos (by omega)]
      obtain ⟨c, _, hb, hc⟩ := drop_at p m (by omega)
      rw [hb]
      by_cases h3 : c = 47
      · rw [if_pos (by rw [h3]; rfl)]
        by_cases h4 : (m : Int) > 155
        · rw [if_pos h4, if_pos rfl]
        · rw [if_neg h4, wrap_gap hp (by omega)]
          by_cases h5 : ((p.size - m - 1 : Nat) : Int) > 100
          · rw [if_pos h5, if_pos rfl]
          · rw [if_neg h5]
            by_cases h6 : (p.size : Int) ≤ 100
            · rw [if_pos h6, if_pos rfl]
            · have := h m rfl (by rw [hc, h3]) (by omega) (by omega)
              rw [if_neg h6, if_pos rfl, decide_eq_true (by omega)]
      · have t47 : ¬ ((c.toNat : Int) = 47) := fun e => h3 ((toNat_eq c 47).1 e)
        rw [if_neg t47, if_pos rfl]

theorem empty_toList : (⟨#[]⟩ : ByteArray).toList = [] := by rw [toList_eq]
theorem empty_short : ¬ (((⟨#[]⟩ : ByteArray).size : Int) > 155) := by decide
theorem empty_beq : ((⟨#[]⟩ : ByteArray).toList == ([] : List UInt8)) = true := by rw [empty_toList]; rfl
/-- **NameCuts.** -/
theorem cuts_ev (p : ByteArray) (x1 : Int) : Ev (fun k => tabularylaw08_NameCuts.f k p x1) true := by
  have hlp := len_eq p
  refine Ev.congr (fun k => by rw [tabularylaw08_NameCuts.f]) (Ev.bind awake_ev (Ev.congr (fun k => by rw [if_pos rfl, ncheck, Option.bind_some]) (Ev.bind (nsplit_ev p) ?_)))
  by_cases h1 : (Nm.check p.data.toList).2 = 0
  · have hp : p.size ≤ 400 := by have := ((Nm.check_ok _).1 h1).1; omega
    refine Ev.congr (fun k => by rw [if_pos (by simp [h1])]) ?_
    by_cases h2 : p.size ≤ 100
    · have e : splitAll p = (⟨#[]⟩, p, 0) := by unfold splitAll; rw [if_pos h1, if_pos h2]
      rw [e]
      have e2 : decide ((p.size : Int) > 100) = false := by simp; omega
      exact Ev.congr (fun k => by rw [if_pos rfl, if_pos empty_toList, if_pos rfl, if_neg (by omega), if_neg empty_short, e2]) (cuts_j0 p hp x1 _ _ (fun m _ _ _ h => by omega))
    · have e : splitAll p = splitB p := by unfold splitAll; rw [if_pos h1, if_neg h2]
      rw [e]
      by_cases h3 : Nm.lastIdx 47 (p.data.toList.take 156) < 0 ∨ 101 + (Nm.lastIdx 47 (p.data.toList.take 156)).toNat < p.size
      · have e2 : splitB p = (⟨#[]⟩, ⟨#[]⟩, 2) := by
          unfold splitB
          rcases h3 with h3 | h3
          · rw [if_pos h3]
          · by_cases h4 : Nm.lastIdx 47 (p.data.toList.take 156) < 0
            · rw [if_pos h4]
            · rw [if_neg h4, if_pos h3]
        rw [e2]
        refine Ev.congr (fun k => ?_) (Ev.now _)
        rw [if_neg (by decide)]
        have t : (if (⟨#[]⟩ : ByteArray).toList = ([] : List UInt8) then some ((⟨#[]⟩ : ByteArray).toList == ([] : List UInt8)) else some false) = some true := by rw [if_pos empty_toList, empty_beq]
        simp only [t]
        by_cases g1 : x1 < 0
        · rw [if_pos g1]
        · rw [if_neg g1]
          by_cases g2 : x1 ≥ (p.size : Int)
          · rw [if_pos g2]
          · obtain ⟨m, rfl⟩ : ∃ m : Nat, x1 = m := ⟨x1.toNat, by omega⟩
            rw [if_neg g2, if_pos (by omega), if_pos (by omega)]
            obtain ⟨c, _, hb, hc⟩ := drop_at p m (by omega)
            rw [hb]
            by_cases g3 : c = 47
            · rw [if_pos (by rw [g3]; rfl)]
              by_cases g4 : (m : Int) > 155
              · rw [if_pos g4]
              · rw [if_neg g4, wrap_gap hp (by omega)]
                by_cases g5 : ((p.size - m - 1 : Nat) : Int) > 100
                · rw [if_pos g5]
                · obtain ⟨n, hn, hmn⟩ := stroke_le (l := p.data.toList) (m := m) (by rw [hc, g3]) (by omega)
                  rw [hn] at h3
                  omega
            · have t47 : ¬ ((c.toNat : Int) = 47) := fun e => g3 ((toNat_eq c 47).1 e)
              rw [if_neg t47]
      · obtain ⟨n, hn⟩ : ∃ n : Nat, Nm.lastIdx 47 (p.data.toList.take 156) = n := ⟨(Nm.lastIdx 47 (p.data.toList.take 156)).toNat, by omega⟩
        rw [hn] at h3
        obtain ⟨g1, g2⟩ := (lastIdx_some 47 _ n).1 hn
        have hn155 : n < 156 := by
          have := Nm.lastIdx_lt 47 (p.data.toList.take 156)
          rw [hn, List.length_take] at this
          omega
        rw [List.getElem?_take, if_pos hn155] at g1
        have hns : n < p.size := by have := (List.getElem?_eq_some_iff.1 g1).1; omega
        have hn0 : n ≠ 0 := fun e => no_head h1 (by rw [e] at g1; exact g1)
        have e2 : splitB p = (p.extract 0 n, p.extract (n + 1) p.size, 0) := by
          unfold splitB
          rw [if_neg (by omega), hn, if_neg (by omega)]
          rfl
        rw [e2]
        have l1 : (p.extract 0 n).data.toList = p.data.toList.take n := by rw [Lib.extract_data]; simp
        have l2 : (p.extract (n + 1) p.size).data.toList = p.data.toList.drop (n + 1) := Lib.extract_to_end p (n + 1)
        have s1 : (p.extract 0 n).size = n := by rw [← len_eq, l1, List.length_take]; omega
        have s2 : (p.extract (n + 1) p.size).size = p.size - (n + 1) := by rw [← len_eq, l2, List.length_drop, len_eq]
        have ne : ¬ (p.extract 0 n).toList = [] := by
          rw [toList_eq, l1]
          intro e
          have := congrArg List.length e
          rw [List.length_take] at this
          simp only [List.length_nil] at this
          omega
        have s3 : (p.extract 0 n ++ (⟨#[47]⟩ : ByteArray)).size = n + 1 := by rw [ByteArray.size_append, s1]; rfl
        have eq : ((p.extract 0 n ++ (⟨#[47]⟩ : ByteArray)) ++ p.extract (n + 1) p.size).toList = p.toList := by
          rw [toList_eq, toList_eq, bytes_app, bytes_app, l1, l2]
          have h47 := (List.getElem?_eq_some_iff.1 g1)
          obtain ⟨g3, g4⟩ := h47
          have := List.drop_eq_getElem_cons g3
          rw [g4] at this
          have e5 : (⟨#[47]⟩ : ByteArray).data.toList = [47] := rfl
          rw [e5, List.append_assoc, List.singleton_append, ← this, List.take_append_drop]
        have e6 : decide (((p.extract (n + 1) p.size).size : Int) > 100) = false := by rw [s2]; simp; omega
        refine Ev.congr (fun k => by rw [if_pos rfl, if_neg ne, if_pos (by rw [s1]; omega), if_pos (by rw [s3, s2]; omega), if_pos eq, if_neg (by omega), if_neg (by rw [s1]; omega), e6]) (cuts_j0 p hp x1 _ _ ?_)
        rintro m rfl hm hm2 _
        rw [s1]
        obtain ⟨n2, hn2, h8⟩ := stroke_le hm hm2
        omega
  · have e : splitAll p = (⟨#[]⟩, ⟨#[]⟩, ((Nm.check p.data.toList).2 : Int)) := by unfold splitAll; rw [if_neg h1]
    rw [e]
    exact Ev.congr (fun k => by rw [if_neg (by simp; omega), if_pos rfl, if_pos empty_toList, empty_beq]) (Ev.now _)
end Go.Proofs.YtnceocjgcdcpgaaDoor.Pure
