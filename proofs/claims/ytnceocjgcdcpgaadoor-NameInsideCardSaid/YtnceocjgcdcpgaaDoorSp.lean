/- strings.Split at a stroke: the texts between the strokes, in a row of its own. -/
import Derived.Test.YtnceocjgcdcpgaaDoorXS
import Derived.Test.YtnceocjgcdcpgaaDoorNmC
import Derived.Test.YtnceocjgcdcpgaaDoorCheck
namespace Go.Proofs.YtnceocjgcdcpgaaDoor.Sp
open Go.RowKit Go.Proofs.YtnceocjgcdcpgaaDoor Go.Proofs.YtnceocjgcdcpgaaDoor.XS Go.Proofs.YtnceocjgcdcpgaaDoorW.PrintWords Go.Proofs.YtnceocjgcdcpgaaDoorW.PrintLast Go.Proofs.YtnceocjgcdcpgaaDoorW.PrintMore

theorem len_eq (p : ByteArray) : p.data.toList.length = p.size := by rw [Array.length_toList]; rfl
theorem pc_count : ∀ (l : List UInt8) (pos : Nat), (Nm.pc pos l).2.length = Lib.countByte l 47
  | [], _ => rfl
  | c :: l, pos => by
    have := pc_count l (pos + 1)
    by_cases hc : c = 47
    · subst hc; simp only [Nm.pc, if_true, List.length_cons, this, Lib.countByte, List.count_cons_self]
    · simp only [Nm.pc, hc, if_false, this, Lib.countByte]
      rw [List.count_cons_of_ne (by simpa using hc)]
theorem texts_count (l : List UInt8) : (Nm.texts l).length = Lib.countByte l 47 + 1 := by
  simp [Nm.texts, Nm.pieces, pc_count]
theorem texts_none {l : List UInt8} (h : Lib.indexByte l 47 = -1) : Nm.texts l = [l] := by rw [Nm.texts, Nm.pieces_none l 0 h]; rfl
theorem texts_some {l : List UInt8} {n : Nat} (h : Lib.indexByte l 47 = n) : Nm.texts l = l.take n :: Nm.texts (l.drop (n + 1)) := by
  rw [Nm.texts, Nm.pieces_some l 0 n h, List.map_cons, Nm.pieces_texts]
/-- The texts between the strokes. -/
def textsB (p : ByteArray) : List ByteArray := (Nm.texts p.data.toList).map bytesOfL
def sl : ByteArray := ⟨#[47]⟩
theorem sl_size : ((sl.size : Nat) : Int) = 1 := rfl
theorem sl_ne : ¬ sl.toList = [] := by rw [Lib.toList_data]; simp [sl]
theorem bytesOfL_self (p : ByteArray) : bytesOfL p.data.toList = p := rfl
theorem idx47 (p : ByteArray) : strings_Index.f p sl = some (Lib.indexByte p.data.toList 47) := rfl
theorem ext_to (p : ByteArray) (m : Nat) : (p.extract 0 m).data.toList = p.data.toList.take m := by simp [ByteArray.data_extract]
theorem ext_from (p : ByteArray) (m : Nat) : (p.extract m p.size).data.toList = p.data.toList.drop m := by
  rw [ByteArray.data_extract, Array.toList_extract]
  simp only [List.extract]
  rw [List.take_of_length_le]
  rw [List.length_drop, len_eq]
  exact Nat.le_refl _

theorem l0_end (k : Nat) (x0 : ByteArray) (x9 : List ByteArray) (i : Nat) (hl : x9.length = i + 1) (hi : i ≤ 2199023255552) :
    strings_genSplit.l0 (k + 1) x0 sl 0 (i : Int) x9 (i : Int) = some (x9.take i ++ [x0]) := by
  have hw : wrap64 ((i : Int) + 1) = ((i + 1 : Nat) : Int) := by unfold wrap64; omega
  simp only [strings_genSplit.l0]
  rw [if_neg (by omega), if_pos (by omega), if_pos (by omega), hw, if_pos (by omega), if_pos (by omega), Int.toNat_natCast, Int.toNat_natCast]
  congr 1
  rw [List.take_add_one, List.take_set_of_le (Nat.le_refl _), List.getElem?_set_self (by omega)]
  rfl
theorem l0_step (k : Nat) (x0 : ByteArray) (x9 : List ByteArray) (i n m : Nat) (hm : Lib.indexByte x0.data.toList 47 = m) (hlt : m < x0.size) (hs : x0.size ≤ 1099511627776) (hin : i < n) (hl : x9.length = n + 1) (hn : n ≤ 2199023255552) :
    strings_genSplit.l0 (k + 1) x0 sl 0 (n : Int) x9 (i : Int) = strings_genSplit.l0 k (x0.extract (m + 1) x0.size) sl 0 (n : Int) (x9.set i (x0.extract 0 m)) ((i + 1 : Nat) : Int) := by
  have hw : wrap64 ((i : Int) + 1) = ((i + 1 : Nat) : Int) := by unfold wrap64; omega
  have hw2 : wrap64 ((m : Int) + 0) = ((m : Nat) : Int) := by unfold wrap64; omega
  have hw3 : wrap64 ((m : Int) + 1) = ((m + 1 : Nat) : Int) := by unfold wrap64; omega
  simp only [strings_genSplit.l0]
  rw [if_pos (by omega), idx47, hm, Option.bind_some, if_neg (by omega), hw2, if_pos (by omega), if_pos (by omega), if_pos (by omega), if_pos (by omega), sl_size, hw3, if_pos (by omega), if_pos (by omega), hw,
    Int.toNat_natCast, Int.toNat_natCast, Int.toNat_natCast]

theorem split_l0 : ∀ (d : Nat) (x0 : ByteArray) (x9 : List ByteArray) (i n : Nat), x0.size ≤ d → x0.size ≤ 1099511627776 → x9.length = n + 1 → n + 1 = i + (Nm.texts x0.data.toList).length → n ≤ 2199023255552 →
    Ev (fun k => strings_genSplit.l0 k x0 sl 0 (n : Int) x9 (i : Int)) (x9.take i ++ textsB x0) := by
  intro d
  induction d with
  | zero =>
    intro x0 x9 i n hd hs hl hn hi
    have e0 : x0.data.toList = [] := List.eq_nil_of_length_eq_zero (by rw [len_eq]; omega)
    have et : Nm.texts x0.data.toList = [x0.data.toList] := texts_none (by rw [e0]; rfl)
    rw [et] at hn
    obtain rfl : n = i := by simpa using hn
    refine Ev.step (fun k => l0_end k x0 x9 n hl hi) ?_
    rw [textsB, et]
    exact Ev.now _
  | succ d ih =>
    intro x0 x9 i n hd hs hl hn hi
    by_cases h : Lib.indexByte x0.data.toList 47 = -1
    · have et : Nm.texts x0.data.toList = [x0.data.toList] := texts_none h
      rw [et] at hn
      obtain rfl : n = i := by simpa using hn
      refine Ev.step (fun k => l0_end k x0 x9 n hl hi) ?_
      rw [textsB, et]
      exact Ev.now _
    · obtain ⟨m, hm⟩ : ∃ m : Nat, Lib.indexByte x0.data.toList 47 = m := ⟨(Lib.indexByte x0.data.toList 47).toNat, by have := Lib.indexByte_ge x0.data.toList 47; omega⟩
      have et := texts_some hm
      have hlt : m < x0.size := by have := (Nm.pc_some _ 0 m hm).1; rwa [len_eq] at this
      have h1 : 0 < (Nm.texts (x0.data.toList.drop (m + 1))).length := List.length_pos_iff.2 (Nm.texts_ne _)
      have hsz : (x0.extract (m + 1) x0.size).size = x0.size - (m + 1) := by simp [ByteArray.size_extract]
      rw [et, List.length_cons] at hn
      have e3 : bytesOfL (x0.data.toList.take m) = x0.extract 0 m := by rw [← ext_to]; rfl
      refine Ev.step (fun k => l0_step k x0 x9 i n m hm hlt hs (by omega) hl hi) ?_
      have := ih (x0.extract (m + 1) x0.size) (x9.set i (x0.extract 0 m)) (i + 1) n (by rw [hsz]; omega) (by rw [hsz]; omega) (by rw [List.length_set]; exact hl) (by rw [ext_from]; omega) hi
      have e2 : (x9.set i (x0.extract 0 m)).take (i + 1) ++ textsB (x0.extract (m + 1) x0.size) = x9.take i ++ textsB x0 := by
        rw [List.take_add_one, List.take_set_of_le (Nat.le_refl _), List.getElem?_set_self (by omega), textsB, textsB, et, ext_from, List.map_cons, e3]
        simp
      rw [← e2]
      exact this

theorem split_ev (p : ByteArray) (hp : p.size ≤ 1048576) : Ev (fun k => strings_Split.f k p sl) (textsB p) := by
  have hc := texts_count p.data.toList
  have hl := Nm.pieces_length p.data.toList 0
  have hl2 : (Nm.texts p.data.toList).length ≤ p.size + 1 := by rw [← len_eq]; simpa [Nm.texts] using hl
  obtain ⟨n, hn⟩ : ∃ n, (Nm.texts p.data.toList).length = n + 1 := ⟨(Nm.texts p.data.toList).length - 1, by omega⟩
  have h0 : Ev (fun k => strings_genSplit.j0 k p sl 0 ((n + 1 : Nat) : Int)) (textsB p) := by
    have hw : wrap64 ((p.size : Int) + 1) = ((p.size + 1 : Nat) : Int) := by unfold wrap64; omega
    have hm : mn ((n + 1 : Nat) : Int) ((p.size + 1 : Nat) : Int) = ((n + 1 : Nat) : Int) := by
      unfold mn; split <;> omega
    have e1 : wrap64 (((n + 1 : Nat) : Int) - 1) = (n : Int) := by unfold wrap64; omega
    have := split_l0 p.size p (List.replicate (n + 1) ⟨#[]⟩) 0 n (Nat.le_refl _) (by omega) (by simp) (by omega) (by omega)
    rw [List.take_zero, List.nil_append] at this
    refine Ev.step (fun k => ?_) this
    simp only [strings_genSplit.j0]
    rw [hw, hm, if_pos (by omega), Int.toNat_natCast, if_pos (by omega), e1]
    rfl
  unfold strings_Split.f strings_genSplit.f
  refine Ev.congr (fun k => ?_) h0
  have e : strings_Count.f p sl = some ((Lib.countByte p.data.toList 47 : Nat) : Int) := rfl
  have hw : wrap64 (((Lib.countByte p.data.toList 47 : Nat) : Int) + 1) = ((n + 1 : Nat) : Int) := by rw [← hn, hc]; unfold wrap64; omega
  rw [if_neg (by decide), if_neg sl_ne, if_pos (by decide), e, Option.bind_some, hw]
  cases strings_genSplit.j0 k p sl 0 ((n + 1 : Nat) : Int) <;> rfl

/-- strings.Split(p, "/"). -/
theorem split_calls (p : ByteArray) (hp : p.size ≤ 1048576) (w : World) :
    Calls Tryd.prog 21 #[.string p, .string sl] w fun e w' => ∃ v, e = .returned v ∧ Kd.R Kd.string 9 w' w.heap.size (fun _ => True) v (textsB p) ∧ Below w.heap.size w w' := by
  obtain ⟨k, h⟩ := (split_ev p hp).rounds
  exact strings_Split.calls k p sl _ w h
end Go.Proofs.YtnceocjgcdcpgaaDoor.Sp
