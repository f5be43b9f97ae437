/- NameJoins: the pure statement. -/
import Derived.Test.YtnceocjgcdcpgaaPureC
namespace Go.Proofs.Ytnceocjgcdcpgaa.Pure
open Go.RowKit Go.Proofs.Ytnceocjgcdcpgaa.X Go.Proofs.YtnceocjgcdcpgaaW.PrintWords Go.Proofs.YtnceocjgcdcpgaaW.PrintLast Go.Proofs.YtnceocjgcdcpgaaW.PrintMore
open Go.Proofs.Ytnceocjgcdcpgaa

def tot (l : List ByteArray) : Nat := (l.map fun x => x.size + 1).sum
theorem tot_nil : tot [] = 0 := rfl
theorem tot_cons (x : ByteArray) (l : List ByteArray) : tot (x :: l) = x.size + 1 + tot l := by simp [tot]
theorem tot_append (a b : List ByteArray) : tot (a ++ b) = tot a + tot b := by simp [tot]
theorem tot_len (l : List ByteArray) : l.length ≤ tot l := by
  induction l with
  | nil => simp [tot]
  | cons x l ih => rw [tot_cons, List.length_cons]; omega
def jl (l : List ByteArray) : List UInt8 := Nm.joinT (l.map (·.data.toList))
theorem join_eq (l : List (List UInt8)) : Lib.join l [47] = Nm.joinT l := by
  induction l with
  | nil => rfl
  | cons x l ih =>
    cases l with
    | nil => simp [Lib.join, List.intercalate, Nm.joinT]
    | cons y r =>
      simp only [Lib.join, List.intercalate, List.intersperse] at ih ⊢
      simp only [Nm.joinT]
      rw [← ih]
      simp
theorem jl_len : ∀ (l : List ByteArray), l ≠ [] → (jl l).length + 1 = tot l
  | [x], _ => by simp [jl, Nm.joinT, tot]
  | x :: y :: r, _ => by
    have := jl_len (y :: r) (by simp)
    rw [tot_cons, ← this]
    simp only [jl, List.map_cons, Nm.joinT, List.length_append, List.length_cons, len_eq]
    omega
theorem jl_snoc (l : List ByteArray) (x : ByteArray) (h : l ≠ []) : jl (l ++ [x]) = jl l ++ 47 :: x.data.toList := by
  unfold jl
  rw [List.map_append, Nm.joinT_append _ _ (by simpa using h) (by simp)]
  rfl
theorem rdOf_at (l : List ByteArray) (i : Nat) (h : i < l.length) : rdOf ByteArray.empty l (i : Int) = l[i] := by
  simp [rdOf, List.getD_eq_getElem?_getD, h]
theorem bytes_app (a b : ByteArray) : (a ++ b).data.toList = a.data.toList ++ b.data.toList := by simp
/-- The reference's Joined. -/
theorem joined_l0 (l : List ByteArray) (ht : tot l ≤ 4294967296) (d : Nat) : ∀ (i : Nat) (s : ByteArray), i ≤ l.length → l.length - i = d → s.data.toList = jl (l.take i) →
    Ev (fun k => tabularyref08_Joined.l0 k l s (i : Int)) (bytesOfL (jl l)) := by
  induction d with
  | zero =>
    intro i s hi hd hs
    obtain rfl : i = l.length := by omega
    refine Ev.step (fun k => ?_) (Ev.now _)
    simp only [tabularyref08_Joined.l0]
    rw [if_neg (by omega)]
    rw [List.take_length] at hs
    congr 1
    exact ByteArray.ext (Array.toList_inj.1 hs)
  | succ d ih =>
    intro i s hi hd hs
    have hlt : i < l.length := by omega
    have hw : wrap64 ((i : Int) + 1) = ((i + 1 : Nat) : Int) := wrap_succ (by have := tot_len l; omega)
    have hsz : s.size = (jl (l.take i)).length := by rw [← len_eq, hs]
    have htk : l.take (i + 1) = l.take i ++ [l[i]] := by rw [List.take_add_one, List.getElem?_eq_getElem hlt]; rfl
    have hT : tot (l.take i) + (l[i].size + 1) ≤ tot l := by
      have := congrArg tot (List.take_append_drop i l)
      rw [tot_append, List.drop_eq_getElem_cons hlt, tot_cons] at this
      omega
    by_cases h0 : i = 0
    · subst h0
      have hs0 : s.data.toList = [] := by rw [hs]; rfl
      have hz : s.size = 0 := by rw [← len_eq, hs0]; rfl
      have st : ∀ k, tabularyref08_Joined.l0 (k + 1) l s ((0 : Nat) : Int) = tabularyref08_Joined.l0 k l (s ++ l[0]) ((0 + 1 : Nat) : Int) := fun k => by
        simp only [tabularyref08_Joined.l0]
        rw [if_pos (by omega), if_neg (by omega), if_pos (by omega), rdOf_at l 0 hlt, if_pos (by omega), hw]
      refine Ev.step st (ih 1 _ (by omega) (by omega) ?_)
      rw [bytes_app, hs0, htk]
      simp [jl, Nm.joinT]
    · have hne : l.take i ≠ [] := by
        intro e
        have := congrArg List.length e
        rw [List.length_take] at this
        simp only [List.length_nil] at this
        omega
      have hj := jl_len (l.take i) hne
      have hsz2 : (s ++ (⟨#[47]⟩ : ByteArray)).size = s.size + 1 := by rw [← len_eq, bytes_app, List.length_append, len_eq]; rfl
      have st : ∀ k, tabularyref08_Joined.l0 (k + 1) l s (i : Int) = tabularyref08_Joined.l0 k l ((s ++ (⟨#[47]⟩ : ByteArray)) ++ l[i]) ((i + 1 : Nat) : Int) := fun k => by
        simp only [tabularyref08_Joined.l0]
        rw [if_pos (by omega), if_pos (by omega), if_pos (by omega), if_pos (by omega), rdOf_at l i hlt, if_pos (by omega), hw]
      refine Ev.step st (ih (i + 1) _ (by omega) (by omega) ?_)
      rw [bytes_app, bytes_app, hs, htk, jl_snoc _ _ hne]
      simp
theorem joined_ev (l : List ByteArray) (ht : tot l ≤ 4294967296) : Ev (fun k => tabularyref08_Joined.f k l) (bytesOfL (jl l)) :=
  joined_l0 l ht l.length 0 ⟨#[]⟩ (by omega) (by omega) rfl

/-- Join's answer. -/
def joinA (l : List ByteArray) : ByteArray × Int :=
  if l = [] then (⟨#[]⟩, 4) else if ∃ x ∈ l, Lib.indexByte x.data.toList 47 ≠ -1 then (⟨#[]⟩, 1)
  else if (Nm.check (jl l)).2 = 0 then (bytesOfL (jl l), 0) else (⟨#[]⟩, ((Nm.check (jl l)).2 : Int))
theorem njoin_l0 (l : List ByteArray) (hne : l ≠ []) (ht : tot l ≤ 4294967296) (d : Nat) : ∀ i : Nat, i ≤ l.length → l.length - i = d → (∀ x ∈ l.take i, Lib.indexByte x.data.toList 47 = -1) →
    Ev (fun k => name_Join.l0 k l l (l.length : Int) (i : Int)) (joinA l) := by
  induction d with
  | zero =>
    intro i hi hd hb
    obtain rfl : i = l.length := by omega
    rw [List.take_length] at hb
    have hj := jl_len l hne
    have e : strings_Join.f l (⟨#[47]⟩ : ByteArray) = some (bytesOfL (jl l)) := by
      unfold strings_Join.f
      have hb : Lib.join (l.map (·.data.toList)) (⟨#[47]⟩ : ByteArray).data.toList = jl l := join_eq _
      rw [hb, if_pos (by have := tot_len l; constructor <;> omega)]
      rfl
    have hn : ¬ ∃ x ∈ l, Lib.indexByte x.data.toList 47 ≠ -1 := by rintro ⟨x, hx, h⟩; exact h (hb x hx)
    refine Ev.step (fun k => ?_) (Ev.now _)
    simp only [name_Join.l0]
    rw [if_neg (by omega), e, Option.bind_some, ncheck, Option.bind_some]
    unfold joinA
    rw [if_neg hne, if_neg hn]
    have e2 : (bytesOfL (jl l)).data.toList = jl l := rfl
    rw [e2]
    by_cases h : (Nm.check (jl l)).2 = 0
    · rw [if_pos (by simp [h]), if_pos h]
    · rw [if_neg (by simp; omega), if_neg h]
  | succ d ih =>
    intro i hi hd hb
    have hlt : i < l.length := by omega
    have hw : wrap64 ((i : Int) + 1) = ((i + 1 : Nat) : Int) := wrap_succ (by have := tot_len l; omega)
    have hg := Lib.indexByte_ge l[i].data.toList 47
    by_cases h : Lib.indexByte l[i].data.toList 47 = -1
    · have st : ∀ k, name_Join.l0 (k + 1) l l (l.length : Int) (i : Int) = name_Join.l0 k l l (l.length : Int) ((i + 1 : Nat) : Int) := fun k => by
        simp only [name_Join.l0]
        rw [if_pos (by omega), if_pos (by omega), if_pos (by omega), rdOf_at l i hlt, ib, Option.bind_some, if_neg (by omega), hw]
      refine Ev.step st (ih (i + 1) (by omega) (by omega) (fun x hx => ?_))
      rw [List.take_add_one, List.getElem?_eq_getElem hlt] at hx
      rcases List.mem_append.1 hx with hx | hx
      · exact hb x hx
      · have : x = l[i] := by simpa using hx
        rw [this]; exact h
    · have hx : ∃ x ∈ l, Lib.indexByte x.data.toList 47 ≠ -1 := ⟨l[i], List.getElem_mem hlt, h⟩
      refine Ev.step (fun k => ?_) (Ev.now _)
      simp only [name_Join.l0]
      rw [if_pos (by omega), if_pos (by omega), if_pos (by omega), rdOf_at l i hlt, ib, Option.bind_some, if_pos (by omega)]
      unfold joinA
      rw [if_neg hne, if_pos hx]
theorem njoin_ev (l : List ByteArray) (ht : tot l ≤ 4294967296) : Ev (fun k => name_Join.f k l) (joinA l) := by
  by_cases h : l = []
  · subst h
    refine Ev.congr (fun k => ?_) (Ev.now _)
    rw [name_Join.f, if_pos (by simp)]
    rfl
  · have := List.length_pos_iff.2 h
    refine Ev.congr (fun k => by rw [name_Join.f, if_neg (by omega)]; rfl) (njoin_l0 l h ht l.length 0 (by omega) (by omega) (by simp))

theorem refjoin_j2 (l : List ByteArray) (hne : l ≠ []) (ht : tot l ≤ 4294967296) (hb : ¬ ∃ x ∈ l, Lib.indexByte x.data.toList 47 ≠ -1) (a : Nat) (ha : a ≤ 8589934592) (h : 402 ≤ a → 402 ≤ tot l) :
    Ev (fun k => tabularyref08_Join.j2 k l (a : Int)) (joinA l) := by
  have hj := jl_len l hne
  have e : joinA l = if (Nm.check (jl l)).2 = 0 then (bytesOfL (jl l), 0) else (⟨#[]⟩, ((Nm.check (jl l)).2 : Int)) := by unfold joinA; rw [if_neg hne, if_neg hb]
  rw [e]
  have hw : wrap64 ((a : Int) - 1) = (a : Int) - 1 := by unfold wrap64; omega
  by_cases h1 : 402 ≤ a
  · have hl : (Nm.check (jl l)).2 = 2 := by unfold Nm.check; rw [if_pos (by have := h h1; omega)]
    rw [if_neg (by omega), hl]
    refine Ev.step (fun k => ?_) (Ev.now _)
    simp only [tabularyref08_Join.j2]
    rw [hw, if_pos (by omega)]
    rfl
  · have st : ∀ k, tabularyref08_Join.j2 (k + 1) l (a : Int) = (tabularyref08_Joined.f k l).bind fun t => (tabularyref08_Check.f k t).bind fun b => if b.2 = 0 then some (t, 0) else some (⟨#[]⟩, b.2) := fun k => by
      simp only [tabularyref08_Join.j2]
      rw [hw, if_neg (by omega)]
    refine Ev.step st (Ev.bind (joined_ev l ht) (Ev.bind (refcheck_ev (bytesOfL (jl l))) (Ev.congr (fun k => ?_) (Ev.now _))))
    have e2 : (bytesOfL (jl l)).data.toList = jl l := rfl
    rw [e2]
    by_cases h : (Nm.check (jl l)).2 = 0
    · rw [if_pos (by simp [h]), if_pos h]
    · rw [if_neg (by simp; omega), if_neg h]
theorem refjoin_l1 (l : List ByteArray) (hne : l ≠ []) (ht : tot l ≤ 4294967296) (hb : ¬ ∃ x ∈ l, Lib.indexByte x.data.toList 47 ≠ -1) (d : Nat) : ∀ i : Nat, i ≤ l.length → l.length - i = d →
    Ev (fun k => tabularyref08_Join.l1 k l ((tot (l.take i) : Nat) : Int) (i : Int)) (joinA l) := by
  have hle : ∀ i, tot (l.take i) ≤ tot l := fun i => by
    have := congrArg tot (List.take_append_drop i l)
    rw [tot_append] at this
    omega
  induction d with
  | zero =>
    intro i hi hd
    have := hle i
    have st : ∀ k, tabularyref08_Join.l1 (k + 1) l ((tot (l.take i) : Nat) : Int) (i : Int) = tabularyref08_Join.j2 k l ((tot (l.take i) : Nat) : Int) := fun k => by
      simp only [tabularyref08_Join.l1]
      rw [if_neg (by omega)]
    exact Ev.step st (refjoin_j2 l hne ht hb _ (by omega) (fun h => by omega))
  | succ d ih =>
    intro i hi hd
    have h2 := hle i
    have hlt : i < l.length := by omega
    by_cases h : tot (l.take i) ≤ 400
    · have hT : tot (l.take (i + 1)) = tot (l.take i) + (l[i].size + 1) := by
        rw [List.take_add_one, List.getElem?_eq_getElem hlt, tot_append]
        show tot (l.take i) + tot [l[i]] = _
        rw [tot_cons]; rfl
      have h3 := hle (i + 1)
      have st : ∀ k, tabularyref08_Join.l1 (k + 1) l ((tot (l.take i) : Nat) : Int) (i : Int) = tabularyref08_Join.l1 k l ((tot (l.take (i + 1)) : Nat) : Int) ((i + 1 : Nat) : Int) := fun k => by
        simp only [tabularyref08_Join.l1]
        rw [if_pos (by omega), if_pos (by omega), if_pos (by omega), rdOf_at l i hlt, wrap_succ (by have := tot_len l; omega)]
        congr 1
        unfold wrap64; omega
      exact Ev.step st (ih (i + 1) (by omega) (by omega))
    · have st : ∀ k, tabularyref08_Join.l1 (k + 1) l ((tot (l.take i) : Nat) : Int) (i : Int) = tabularyref08_Join.j2 k l ((tot (l.take i) : Nat) : Int) := fun k => by
        simp only [tabularyref08_Join.l1]
        rw [if_pos (by omega), if_neg (by omega)]
      exact Ev.step st (refjoin_j2 l hne ht hb _ (by omega) (fun h => by omega))
theorem refjoin_l0 (l : List ByteArray) (hne : l ≠ []) (ht : tot l ≤ 4294967296) (d : Nat) : ∀ i : Nat, i ≤ l.length → l.length - i = d → (∀ x ∈ l.take i, Lib.indexByte x.data.toList 47 = -1) →
    Ev (fun k => tabularyref08_Join.l0 k l 0 (i : Int)) (joinA l) := by
  induction d with
  | zero =>
    intro i hi hd hb
    obtain rfl : i = l.length := by omega
    rw [List.take_length] at hb
    have hn : ¬ ∃ x ∈ l, Lib.indexByte x.data.toList 47 ≠ -1 := by rintro ⟨x, hx, h⟩; exact h (hb x hx)
    have st : ∀ k, tabularyref08_Join.l0 (k + 1) l 0 (l.length : Int) = tabularyref08_Join.l1 k l 0 0 := fun k => by
      simp only [tabularyref08_Join.l0]
      rw [if_neg (by omega)]
    exact Ev.step st (refjoin_l1 l hne ht hn _ 0 (by omega) rfl)
  | succ d ih =>
    intro i hi hd hb
    have hlt : i < l.length := by omega
    have hsz : l[i].size ≤ 4294967296 := by
      have := congrArg tot (List.take_append_drop i l)
      rw [tot_append, List.drop_eq_getElem_cons hlt, tot_cons] at this
      omega
    have hg := Lib.indexByte_ge l[i].data.toList 47
    have hp := pieces_ev l[i] (by omega)
    have s0 : ∀ k, tabularyref08_Join.l0 (k + 1) l 0 (i : Int) = (tabularyref08_Pieces.f k l[i]).bind fun t => if (t.length : Int) > 1 then some (⟨#[]⟩, 1) else tabularyref08_Join.l0 k l 0 ((i + 1 : Nat) : Int) := fun k => by
      simp only [tabularyref08_Join.l0]
      rw [if_pos (by omega), if_pos (by omega), rdOf_at l i hlt, wrap_succ (by have := tot_len l; omega)]
    refine Ev.step s0 (Ev.bind hp ?_)
    by_cases h : Lib.indexByte l[i].data.toList 47 = -1
    · have e : (Nm.pieces 0 l[i].data.toList).length = 1 := by rw [Nm.pieces_none _ _ h]; rfl
      refine Ev.congr (fun k => by rw [List.length_map, e, if_neg (by omega)]) (ih (i + 1) (by omega) (by omega) (fun x hx => ?_))
      rw [List.take_add_one, List.getElem?_eq_getElem hlt] at hx
      rcases List.mem_append.1 hx with hx | hx
      · exact hb x hx
      · have : x = l[i] := by simpa using hx
        rw [this]; exact h
    · have hx : ∃ x ∈ l, Lib.indexByte x.data.toList 47 ≠ -1 := ⟨l[i], List.getElem_mem hlt, h⟩
      obtain ⟨n, hn⟩ : ∃ n : Nat, Lib.indexByte l[i].data.toList 47 = n := ⟨(Lib.indexByte l[i].data.toList 47).toNat, by omega⟩
      have e : 1 < (Nm.pieces 0 l[i].data.toList).length := by rw [Nm.pieces_some _ _ _ hn]; simp [Nm.pieces]
      refine Ev.congr (fun k => ?_) (Ev.now _)
      rw [List.length_map, if_pos (by omega)]
      unfold joinA
      rw [if_neg hne, if_pos hx]
theorem refjoin_ev (l : List ByteArray) (ht : tot l ≤ 4294967296) : Ev (fun k => tabularyref08_Join.f k l) (joinA l) := by
  by_cases h : l = []
  · subst h
    refine Ev.congr (fun k => ?_) (Ev.now _)
    rw [tabularyref08_Join.f, if_pos (by simp)]
    rfl
  · have := List.length_pos_iff.2 h
    refine Ev.congr (fun k => by rw [tabularyref08_Join.f, if_neg (by omega)]; rfl) (refjoin_l0 l h ht l.length 0 (by omega) (by omega) (by simp))

theorem joins_l0 (l : List ByteArray) (ht : tot l ≤ 4294967296) (s t : ByteArray) (a : Int) (hst : s = t) (d : Nat) : ∀ i : Nat, i ≤ l.length → l.length - i = d →
    Ev (fun k => tabularylaw08_NameJoins.l0 k l (l ++ [(⟨#[109, 97, 114, 107]⟩ : ByteArray)]) s a t a (i : Int)) true := by
  have hn := tot_len l
  induction d with
  | zero =>
    intro i hi hd
    obtain rfl : i = l.length := by omega
    refine Ev.step (fun k => ?_) (Ev.now _)
    simp only [tabularylaw08_NameJoins.l0, List.length_append, List.length_singleton]
    rw [if_neg (by omega), if_pos (by rw [hst]), if_pos trivial, if_pos (by omega), if_pos (by omega), rdOf_at _ _ (by simp)]
    simp [toList_eq]
  | succ d ih =>
    intro i hi hd
    have hlt : i < l.length := by omega
    have st : ∀ k, tabularylaw08_NameJoins.l0 (k + 1) l (l ++ [(⟨#[109, 97, 114, 107]⟩ : ByteArray)]) s a t a (i : Int) = tabularylaw08_NameJoins.l0 k l (l ++ [(⟨#[109, 97, 114, 107]⟩ : ByteArray)]) s a t a ((i + 1 : Nat) : Int) := fun k => by
      simp only [tabularylaw08_NameJoins.l0, List.length_append, List.length_singleton]
      rw [if_pos (by omega), if_pos (by omega), if_pos (by omega), rdOf_at l i hlt, rdOf_at _ i (by simp; omega), List.getElem_append_left hlt, if_pos rfl, wrap_succ (by omega)]
    exact Ev.step st (ih (i + 1) (by omega) (by omega))
/-- **NameJoins.** -/
theorem joins_ev (l : List ByteArray) (ht : tot l ≤ 4294967296) : Ev (fun k => tabularylaw08_NameJoins.f k l) true := by
  have hn := tot_len l
  have e : (l ++ [(⟨#[109, 97, 114, 107]⟩ : ByteArray)]).take ((l.length : Int)).toNat = l := by rw [Int.toNat_natCast, List.take_left]
  have st : ∀ k, tabularylaw08_NameJoins.f k l = (name_Join.f k l).bind fun b => (tabularyref08_Join.f k l).bind fun c => tabularylaw08_NameJoins.l0 k l (l ++ [(⟨#[109, 97, 114, 107]⟩ : ByteArray)]) b.1 b.2 c.1 c.2 0 := fun k => by
    rw [tabularylaw08_NameJoins.f, if_pos (by simp; omega), Option.bind_some, List.nil_append, if_pos (by omega), Option.bind_some, if_pos (by omega), if_pos (by simp; omega), e]
  exact Ev.congr st (Ev.bind (njoin_ev l ht) (Ev.bind (refjoin_ev l ht) (joins_l0 l ht _ _ _ rfl l.length 0 (by omega) (by omega))))
end Go.Proofs.Ytnceocjgcdcpgaa.Pure
