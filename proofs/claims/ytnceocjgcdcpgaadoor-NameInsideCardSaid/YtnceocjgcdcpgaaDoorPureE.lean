/- NameJoins: the pure statement. -/
import Derived.Test.YtnceocjgcdcpgaaDoorPureC
namespace Go.Proofs.YtnceocjgcdcpgaaDoor.Pure
open Go.RowKit Go.Proofs.YtnceocjgcdcpgaaDoor.X Go.Proofs.YtnceocjgcdcpgaaDoorW.PrintWords Go.Proofs.YtnceocjgcdcpgaaDoorW.PrintLast Go.Proofs.YtnceocjgcdcpgaaDoorW.PrintMore
open Go.Proofs.YtnceocjgcdcpgaaDoor

def tot (l : List ByteArray) : Nat := (l.map fun x => x.size + 1).sum
theorem tot_nil : tot [] = 0 := rfl
theorem tot_cons (x : ByteArray) (l : List ByteArray) : tot (x :: l) = x.size + 1 + tot l := by simp [tot]
theorem tot_append (a b : List ByteArray) : tot (a ++ b) = tot a + tot b := by simp [tot]
theorem tot_len (l : List ByteArray) : l.length ≤ tot l := by
  induction l with
  | nil => simp [tot]
  | cons x l ih => rw [tot_cons, List.length_cons]; omega
def jl (l : List ByteArray) : List UInt8 := Nm.joinT (l.map (·.data.toList))
theorem join_eq (l : List (List UInt8)) : Lib.join l [47] = Nm.joinT l := by
  induction l with
  | nil => rfl
  | cons x l ih =>
    cases l with
    | nil => simp [Lib.join, List.intercalate, Nm.joinT]
    | cons y r =>
      simp only [Lib.join, List.intercalate, List.intersperse] at ih ⊢
      simp only [Nm.joinT]
      rw [← ih]
      simp
theorem jl_len : ∀ (l : List ByteArray), l ≠ [] → (jl l).length + 1 = tot l
  | [x], _ => by simp [jl, Nm.joinT, tot]
  | x :: y :: r, _ => by
    have := jl_len (y :: r) (by simp)
    rw [tot_cons, ← this]
    simp only [jl, List.map_cons, Nm.joinT, List.length_append, List.length_cons, len_eq]
    omega
theorem jl_snoc (l : List ByteArray) (x : ByteArray) (h : l ≠ []) : jl (l ++ [x]) = jl l ++ 47 :: x.data.toList := by
  unfold jl
  rw [List.map_append, Nm.joinT_append _ _ (by simpa using h) (by simp)]
  rfl
theorem rdOf_at (l : List ByteArray) (i : Nat) (h : i < l.length) : rdOf ByteArray.empty l (i : Int) = l[i] := by
  simp [rdOf, List.getD_eq_getElem?_getD, h]
theorem bytes_app (a b : ByteArray) : (a ++ b).data.toList = a.data.toList ++ b.data.toList := by simp
/-- The reference's Joined. -/
theorem joined_l0 (l : List ByteArray) (ht : tot l ≤ 4294967296) (d : Nat) : ∀ (i : Nat) (s : ByteArray), i ≤ l.length → l.length - i = d → s.data.toList = jl (l.take i) →
    Ev (fun k => tabularyref08_Joined.l0 k l s (i : Int)) (bytesOfL (jl l)) := by
  induction d with
  | zero =>
    intro i s hi hd hs
    obtain rfl : i = l.length := by omega
    refine Ev.step (fun k => ?_) (Ev.now _)
    simp only [tabularyref08_Joined.l0]
    rw [if_neg (by omega)]
    rw [List.take_length] at hs
    congr 1
    exact ByteArray.ext (Array.toList_inj.1 hs)
  | succ d ih =>
    intro i s hi hd hs
    have hlt : i < l.length := by omega
    have hw : wrap64 ((i : Int) + 1) = ((i + 1 : Nat) : Int) := wrap_succ (by have := tot_len l; omega)
    have hsz : s.size = (jl (l.take i)).length := by rw [← len_eq, hs]
    have htk : l.take (i + 1) = l.take i ++ [l[i]] := by rw [List.take_add_one, List.getElem?_eq_getElem hlt]; rfl
    have hT : tot (l.take i) + (l[i].size + 1) ≤ tot l := by
      have := congrArg tot (List.take_append_drop i l)
      rw [tot_append, List.drop_eq_getElem_cons hlt, tot_cons] at this
      omega
    by_cases h0 : i = 0
    · subst h0
      have hs0 : s.data.toList = [] := by rw [hs]; rfl
      have hz : s.size = 0 := by rw [← len_eq, hs0]; rfl
      have st : ∀ k, tabularyref08_Joined.l0 (k + 1) l s ((0 : Nat) : Int) = tabularyref08_Joined.l0 k l (s ++ l[0]) ((0 + 1 : Nat) : Int) := fun k => by
        simp only [tabularyref08_Joined.l0]
        rw [if_pos (by omega), if_neg (by omega), if_pos (by omega), rdOf_at l 0 hlt, if_pos (by omega), hw]
      refine Ev.step st (ih 1 _ (by omega) (by omega) ?_)
      rw [bytes_app, hs0, htk]
      simp [jl, Nm.joinT]
    · have hne : l.take i ≠ [] := by
        intro e
        have := congrArg List.length e
        rw [List.length_take] at this
        simp only [List.length_nil] at this
        omega
      have hj := jl_len (l.take i) hne
      have hsz2 : (s ++ (⟨#[47]⟩ : ByteArray)).size = s.size + 1 := by rw [← len_eq, bytes_app, List.length_append, len_eq]; rfl
      have st : ∀ k, tabularyref08_Joined.l0 (k + 1) l s (i : Int) = tabularyref08_Joined.l0 k l ((s ++ (⟨#[47]⟩ : ByteArray)) ++ l[i]) ((i + 1 : Nat) : Int) := fun k => by
        simp only [tabularyref08_Joined.l0]
        rw [if_pos (by omega), if_pos (by omega), if_pos (by omega), if_pos (by omega), rdOf_at l i hlt, if_pos (by omega), hw]
      refine Ev.step st (ih (i + 1) _ (by omega) (by omega) ?_)
      rw [bytes_app, bytes_app, hs, htk, jl_snoc _ _ hne]
      simp
theorem joined_ev (l : List ByteArray) (ht : tot l ≤ 4294967296) : Ev (fun k => tabularyref08_Joined.f k l) (bytesOfL (jl l)) :=
  joined_l0 l ht l.length 0 ⟨#[]⟩ (by omega) (by omega) rfl

end Go.Proofs.YtnceocjgcdcpgaaDoor.Pure
