/- The reference's functions on pieces, told by plain words (no program in sight). -/
import Derived.Test.YtnceocjgcdcpgaaDoorX
import Derived.Test.YtnceocjgcdcpgaaDoorCheck
namespace Go.Proofs.YtnceocjgcdcpgaaDoor.Pure
open Go.RowKit Go.Proofs.YtnceocjgcdcpgaaDoor.X Go.Proofs.YtnceocjgcdcpgaaDoorW.PrintWords Go.Proofs.YtnceocjgcdcpgaaDoorW.PrintLast Go.Proofs.YtnceocjgcdcpgaaDoorW.PrintMore
open Go.Proofs.YtnceocjgcdcpgaaDoor

theorem len_eq (p : ByteArray) : p.data.toList.length = p.size := by rw [Array.length_toList]; rfl
theorem drop_at (p : ByteArray) (i : Nat) (h : i < p.size) : ∃ c : UInt8, p.data.toList.drop i = c :: p.data.toList.drop (i + 1) ∧ bt p (i : Int) = (c.toNat : Int) ∧ p.data.toList[i]? = some c := by
  have hl : i < p.data.toList.length := by rw [len_eq]; exact h
  refine ⟨p.data.toList[i], List.drop_eq_getElem_cons hl, ?_, List.getElem?_eq_getElem hl⟩
  unfold bt
  have h2 : ((i : Int)).toNat < p.size := by omega
  rw [dif_pos h2]
  rfl
theorem toNat_eq (c d : UInt8) : ((c.toNat : Int) = (d.toNat : Int)) ↔ c = d := by
  constructor
  · intro h
    exact UInt8.toNat_inj.1 (by omega)
  · rintro rfl; rfl
theorem wrap_nat {n : Nat} (h : n ≤ 9223372036854775807) : wrap64 (n : Int) = (n : Int) := by unfold wrap64; omega
theorem wrap_succ {n : Nat} (h : n < 9223372036854775807) : wrap64 ((n : Int) + 1) = ((n + 1 : Nat) : Int) := by unfold wrap64; omega
theorem wrap_sub {n m : Nat} (h : n ≤ 9223372036854775807) (hm : m ≤ n) : wrap64 ((n : Int) - (m : Int)) = ((n - m : Nat) : Int) := by unfold wrap64; omega

abbrev SP := S54
def toS (x : Nat × List UInt8) : SP := ⟨(x.1 : Int), bytesOfL x.2⟩

theorem pieces_l0 (p : ByteArray) (hp : p.size ≤ 1099511627776) (d : Nat) : ∀ (out : List SP) (a i : Nat), a ≤ i → i ≤ p.size → out.length ≤ i → p.size - i = d →
    Ev (fun k => tabularyref08_Pieces.l0 k p out (a : Int) (i : Int)) (out ++ (toS (a, (p.data.toList.drop a).take (i - a) ++ (Nm.pc i (p.data.toList.drop i)).1) :: (Nm.pc i (p.data.toList.drop i)).2.map toS)) := by
  induction d with
  | zero =>
    intro out a i ha hi ho hd
    have e : i = p.size := by omega
    subst e
    have e2 : p.data.toList.drop p.size = [] := List.drop_eq_nil_of_le (by rw [len_eq]; omega)
    refine Ev.step (fun k => ?_) (Ev.now _)
    simp only [tabularyref08_Pieces.l0]
    rw [if_neg (by omega), if_pos (by omega), if_pos (by omega), if_pos (by omega)]
    rw [e2, Int.toNat_natCast, Lib.extract_eq]
    simp [Nm.pc, toS, bytesOfL]
  | succ d ih =>
    intro out a i ha hi ho hd
    obtain ⟨c, hc, hb, hci⟩ := drop_at p i (by omega)
    by_cases h : c = 47
    · have hb' : bt p (i : Int) = 47 := by rw [hb, h]; rfl
      have step : ∀ k, tabularyref08_Pieces.l0 (k + 1) p out (a : Int) (i : Int) = tabularyref08_Pieces.l0 k p (out ++ [toS (a, (p.data.toList.drop a).take (i - a))]) ((i + 1 : Nat) : Int) ((i + 1 : Nat) : Int) := fun k => by
        simp only [tabularyref08_Pieces.l0]
        rw [if_pos (by omega), if_pos (by omega), if_pos hb', if_pos (by omega), if_pos (by omega), if_pos (by omega), if_pos (by omega), wrap_succ (by omega)]
        rw [Int.toNat_natCast, Int.toNat_natCast, Lib.extract_eq]
        rfl
      refine Ev.step step ?_
      have := ih (out ++ [toS (a, (p.data.toList.drop a).take (i - a))]) (i + 1) (i + 1) (by omega) (by omega) (by simp; omega) (by omega)
      rw [hc, h]
      simpa [Nm.pc] using this
    · have hb' : ¬ bt p (i : Int) = 47 := by
        rw [hb]
        exact fun e => h ((toNat_eq c 47).1 e)
      have step : ∀ k, tabularyref08_Pieces.l0 (k + 1) p out (a : Int) (i : Int) = tabularyref08_Pieces.l0 k p out (a : Int) ((i + 1 : Nat) : Int) := fun k => by
        simp only [tabularyref08_Pieces.l0]
        rw [if_pos (by omega), if_pos (by omega), if_neg hb', wrap_succ (by omega)]
      refine Ev.step step ?_
      have := ih out a (i + 1) (by omega) (by omega) (by omega) (by omega)
      rw [hc]
      simp only [Nm.pc, h, if_false]
      have e : (p.data.toList.drop a).take (i + 1 - a) = (p.data.toList.drop a).take (i - a) ++ [c] := by
        rw [show i + 1 - a = (i - a) + 1 from by omega, List.take_add_one, List.getElem?_drop, show a + (i - a) = i from by omega, hci]
        rfl
      rw [e] at this
      simpa using this
/-- The reference's Pieces. -/
theorem pieces_ev (p : ByteArray) (hp : p.size ≤ 1099511627776) : Ev (fun k => tabularyref08_Pieces.f k p) ((Nm.pieces 0 p.data.toList).map toS) := by
  have := pieces_l0 p hp p.size [] 0 0 (by omega) (by omega) (by simp) (by omega)
  simpa [tabularyref08_Pieces.f, Nm.pieces] using this

theorem toList_eq (p : ByteArray) : p.toList = p.data.toList := Lib.toList_data p
theorem idx_cons (c d : UInt8) (l : List UInt8) : Lib.indexByte (c :: l) d = if c = d then 0 else if Lib.indexByte l d = -1 then -1 else Lib.indexByte l d + 1 := by
  simp only [Lib.indexByte, beq_iff_eq]
theorem nul_l0 (p : ByteArray) (hp : p.size ≤ 1099511627776) (d : Nat) : ∀ (i : Nat), i ≤ p.size → p.size - i = d →
    Ev (fun k => tabularyref08_Nul.l0 k p (i : Int)) (if Lib.indexByte (p.data.toList.drop i) 0 = -1 then -1 else (i : Int) + Lib.indexByte (p.data.toList.drop i) 0) := by
  induction d with
  | zero =>
    intro i hi hd
    obtain rfl : i = p.size := by omega
    have e2 : p.data.toList.drop p.size = [] := List.drop_eq_nil_of_le (by rw [len_eq]; omega)
    refine Ev.step (fun k => ?_) (Ev.now _)
    simp only [tabularyref08_Nul.l0]
    rw [if_neg (by omega), e2]
    rfl
  | succ d ih =>
    intro i hi hd
    obtain ⟨c, hc, hb, _⟩ := drop_at p i (by omega)
    rw [hc, idx_cons]
    by_cases h : c = 0
    · have hb' : bt p (i : Int) = 0 := by rw [hb, h]; rfl
      refine Ev.step (fun k => ?_) (Ev.now _)
      simp only [tabularyref08_Nul.l0]
      rw [if_pos (by omega), if_pos (by omega), if_pos hb', if_pos h]
      simp
    · have hb' : ¬ bt p (i : Int) = 0 := by rw [hb]; exact fun e => h ((toNat_eq c 0).1 e)
      have step : ∀ k, tabularyref08_Nul.l0 (k + 1) p (i : Int) = tabularyref08_Nul.l0 k p ((i + 1 : Nat) : Int) := fun k => by
        simp only [tabularyref08_Nul.l0]
        rw [if_pos (by omega), if_pos (by omega), if_neg hb', wrap_succ (by omega)]
      refine Ev.step step ?_
      have := ih (i + 1) (by omega) (by omega)
      rw [if_neg h]
      have hg := Lib.indexByte_ge (p.data.toList.drop (i + 1)) 0
      by_cases h2 : Lib.indexByte (p.data.toList.drop (i + 1)) 0 = -1
      · rw [if_pos h2] at this; rw [if_pos h2, if_pos rfl]; exact this
      · rw [if_neg h2] at this; rw [if_neg h2, if_neg (by omega)]
        rw [show (i : Int) + (Lib.indexByte (p.data.toList.drop (i + 1)) 0 + 1) = ((i + 1 : Nat) : Int) + Lib.indexByte (p.data.toList.drop (i + 1)) 0 from by omega]
        exact this
theorem nul_ev (p : ByteArray) (hp : p.size ≤ 1099511627776) : Ev (fun k => tabularyref08_Nul.f k p) (Lib.indexByte p.data.toList 0) := by
  have := nul_l0 p hp p.size 0 (by omega) (by omega)
  have e : (if Lib.indexByte (p.data.toList.drop 0) 0 = -1 then -1 else ((0 : Nat) : Int) + Lib.indexByte (p.data.toList.drop 0) 0) = Lib.indexByte p.data.toList 0 := by
    simp only [List.drop_zero]
    split <;> omega
  rw [e] at this
  exact this
def badI (l : List UInt8) : Int × Int := match Nm.bad l with | some (m, e) => ((m : Int), (e : Int)) | none => (0, 0)
theorem part_ev (p : ByteArray) (hp : p.size ≤ 1099511627776) : Ev (fun k => tabularyref08_part.f k p) (badI p.data.toList) := by
  have hl := len_eq p
  unfold badI Nm.bad
  by_cases h1 : p.data.toList = []
  · refine Ev.congr (fun k => ?_) (Ev.now _)
    simp only [tabularyref08_part.f, toList_eq]
    rw [if_pos h1, if_pos h1]; rfl
  · rw [if_neg h1]
    by_cases h2 : 120 < p.data.toList.length
    · rw [if_pos h2]
      refine Ev.congr (fun k => ?_) (Ev.now _)
      simp only [tabularyref08_part.f, toList_eq]
      rw [if_neg h1, if_pos (by omega)]; rfl
    · rw [if_neg h2]
      by_cases h3 : p.data.toList = [46] ∨ p.data.toList = [46, 46]
      · rw [if_pos h3]
        have e : ∀ k, tabularyref08_part.f k p = tabularyref08_part.j0 k p true := fun k => by
          simp only [tabularyref08_part.f, toList_eq]
          rw [if_neg h1, if_neg (by omega)]
          rcases h3 with h3 | h3
          · rw [if_pos h3]
          · rw [if_neg (by rw [h3]; simp), h3]; rfl
        refine Ev.congr e (Ev.step (fun k => ?_) (Ev.now _))
        simp only [tabularyref08_part.j0]; rfl
      · rw [if_neg h3]
        have e : ∀ k, tabularyref08_part.f k p = tabularyref08_part.j0 k p false := fun k => by
          simp only [tabularyref08_part.f, toList_eq]
          rw [if_neg h1, if_neg (by omega), if_neg (fun e => h3 (.inl e))]
          have : (p.data.toList == ([46, 46] : List UInt8)) = false := by simpa using fun e => h3 (.inr e)
          rw [this]
        have s : ∀ k, tabularyref08_part.j0 (k + 1) p false = (tabularyref08_Nul.f k p).bind fun t => if t ≥ 0 then some (t, 82) else some (0, 0) := fun k => by
          simp only [tabularyref08_part.j0]; rfl
        refine Ev.congr e (Ev.step s (Ev.bind (nul_ev p hp) ?_))
        by_cases h4 : 0 ≤ Lib.indexByte p.data.toList 0
        · refine Ev.congr (fun k => ?_) (Ev.now _)
          rw [if_pos h4, if_pos h4]
          simp only
          congr 2
          omega
        · refine Ev.congr (fun k => ?_) (Ev.now _)
          rw [if_neg h4, if_neg (by omega)]
theorem rd_map (l : List (Nat × List UInt8)) (i : Nat) (h : i < l.length) : rd_T54 (l.map toS) (i : Int) = toS l[i] := by
  simp [rd_T54, List.getD_eq_getElem?_getD, h]
theorem bytes_size (l : List UInt8) : (bytesOfL l).size = l.length := by simp [bytesOfL, ByteArray.size]
theorem check_l0 (l : List (Nat × List UInt8)) (hb : ∀ x ∈ l, x.1 + x.2.length ≤ 400) (hl : l.length ≤ 1099511627776) (d : Nat) : ∀ i : Nat, i ≤ l.length → l.length - i = d →
    Ev (fun k => tabularyref08_Check.l0 k (l.map toS) (i : Int)) ((((Nm.firstBad (l.drop i)).getD (0, 0)).1 : Int), (((Nm.firstBad (l.drop i)).getD (0, 0)).2 : Int)) := by
  induction d with
  | zero =>
    intro i hi hd
    obtain rfl : i = l.length := by omega
    refine Ev.step (fun k => ?_) (Ev.now _)
    simp only [tabularyref08_Check.l0, List.length_map]
    rw [if_neg (by omega), List.drop_length]
    rfl
  | succ d ih =>
    intro i hi hd
    have hlt : i < l.length := by omega
    have hx := hb l[i] (List.getElem_mem hlt)
    have hp := part_ev (bytesOfL l[i].2) (by rw [bytes_size]; omega)
    rw [List.drop_eq_getElem_cons hlt, Nm.firstBad]
    have s : ∀ k, tabularyref08_Check.l0 (k + 1) (l.map toS) (i : Int) = (tabularyref08_part.f k (bytesOfL l[i].2)).bind fun b => if b.2 = 0 then tabularyref08_Check.l0 k (l.map toS) ((i + 1 : Nat) : Int) else some (wrap64 ((l[i].1 : Int) + b.1), b.2) := fun k => by
      simp only [tabularyref08_Check.l0, List.length_map]
      rw [if_pos (by omega), if_pos (by omega), rd_map l i hlt, wrap_succ (by omega)]
      rfl
    refine Ev.step s (Ev.bind hp ?_)
    have e : (bytesOfL l[i].2).data.toList = l[i].2 := rfl
    rw [e]
    unfold badI
    cases hbad : Nm.bad l[i].2 with
    | none => exact Ev.congr (fun k => if_pos rfl) (ih (i + 1) (by omega) (by omega))
    | some z =>
      obtain ⟨m, q⟩ := z
      have hm : m ≤ l[i].2.length ∧ q ≠ 0 := by
        rcases Nm.bad_some hbad with ⟨h1, h2⟩ | ⟨h1, h2⟩
        · omega
        · refine ⟨by omega, ?_⟩
          rintro rfl
          unfold Nm.bad at hbad
          repeat' split at hbad
          all_goals simp at hbad
      refine Ev.congr (fun k => ?_) (Ev.now _)
      simp only
      rw [if_neg (by omega)]
      simp only [Option.getD_some, Option.some.injEq, Prod.mk.injEq, and_true]
      unfold wrap64; omega
/-- The reference's Check. -/
theorem refcheck_ev (p : ByteArray) : Ev (fun k => tabularyref08_Check.f k p) ((((Nm.check p.data.toList).1 : Nat) : Int), (((Nm.check p.data.toList).2 : Nat) : Int)) := by
  have hl := len_eq p
  unfold Nm.check
  by_cases h : 400 < p.data.toList.length
  · rw [if_pos h]
    refine Ev.congr (fun k => ?_) (Ev.now _)
    simp only [tabularyref08_Check.f]
    rw [if_pos (by omega)]; rfl
  · rw [if_neg h]
    have s : ∀ k, tabularyref08_Check.f k p = (tabularyref08_Pieces.f k p).bind fun t => tabularyref08_Check.l0 k t 0 := fun k => by
      simp only [tabularyref08_Check.f]
      rw [if_neg (by omega)]
    refine Ev.congr s (Ev.bind (pieces_ev p (by omega)) ?_)
    have hb := Nm.pieces_bound p.data.toList 0
    have hn : (Nm.pieces 0 p.data.toList).length ≤ 401 := by
      have := Nm.pieces_length p.data.toList 0
      omega
    have := check_l0 (Nm.pieces 0 p.data.toList) (fun x hx => by have := hb x hx; omega) (by omega) _ 0 (by omega) rfl
    simpa using this
end Go.Proofs.YtnceocjgcdcpgaaDoor.Pure
