/- Arguments laid open as lists, with what their bulk bounds: []string. -/
import Derived.Test.YtnceocjgcdcpgaaRows
import Derived.Test.YtnceocjgcdcpgaaWMore
import Derived.SliceStrings
import Derived.ProofKit
namespace Go.Proofs.Ytnceocjgcdcpgaa.Op
open Go.RowKit Go.ChangeShapes Go.WideShapes Go.ChangeAt Go.Proofs.YtnceocjgcdcpgaaW.PrintWords

def strBulk (l : List ByteArray) : Nat := (l.map fun s => s.size + 1).sum
theorem strBulk_cons (x : ByteArray) (l : List ByteArray) : strBulk (x :: l) = x.size + 1 + strBulk l := by simp [strBulk]
theorem bulk_strs {H : Type} (l : List ByteArray) : Rows.uptoBulkAll (strs (H := H) l) = strBulk l := by
  induction l with
  | nil => rfl
  | cons x l ih =>
    have e : x.data.toList.length = x.size := by rw [Array.length_toList]; rfl
    show Rows.uptoBulkAll (.lit (.string x.data.toList) :: strs l) = _
    rw [Rows.uptoBulkAll, Rows.uptoBulk, ih, strBulk_cons, e]
theorem open_strs {H : Type} {enc : TypeId × Value → H} {P : Program} {W : World} {base : Nat} {spare : Nat → Bool} {held : Bool} {t e : TypeId} {v : Value} {d : DataW H} {ps : List MemPlace}
    (ht : P.underlying t = some (.slice e)) (he : P.underlying e = some .string) (hc : P.cellsOf e = 1) (hv : ∃ a len cap, v = .slice a len cap) (h : DataW.Trod enc P W base spare held t v d ps) :
    ∃ (A : Option Addr) (c : Nat) (l : List ByteArray), v = .slice A l.length c ∧ Kd.C Kd.string W A l.length l ∧ l.length ≤ c ∧ strBulk l ≤ Rows.uptoBulk d := by
  obtain ⟨a, len, cap, rfl⟩ := hv
  obtain ⟨fuel, hf⟩ := h
  rcases open_strings ht he hc hf with ⟨hcs, hx⟩ | ⟨x, l, c, ss, hcs, _, hl, hm, hz, hx, hcell, _⟩
  · simp [Value.cells] at hcs
    obtain ⟨rfl, rfl, rfl⟩ := hcs
    exact ⟨none, 0, [], rfl, ⟨rfl, Nat.zero_le _, fun h => absurd h (by simp)⟩, Nat.le_refl _, by simp [strBulk]⟩
  · simp [Value.cells] at hcs
    obtain ⟨rfl, rfl, rfl⟩ := hcs
    simp only [Prod.mk.injEq] at hx
    obtain ⟨rfl, _⟩ := hx
    have hlen : (ss.take len).length = len := by rw [List.length_take]; split at hz <;> omega
    refine ⟨some x, cap, ss.take len, by rw [hlen], ⟨rfl, by rw [hlen]; unfold maxLen at hm; omega, fun _ => ⟨x, rfl, fun j p hj => ?_⟩⟩, by omega, ?_⟩
    · have hj2 : j < (ss.take len).length := (List.getElem?_eq_some_iff.1 hj).1
      have hj3 : ss[j]? = some p := by rw [List.getElem?_take] at hj; split at hj; exact hj; simp at hj
      refine ⟨[.string p], rfl, rfl, fun i u hu => ?_⟩
      have hi : i = 0 := by
        have := (List.getElem?_eq_some_iff.1 hu).1
        simpa using this
      subst hi
      have := hcell j (List.getElem?_eq_some_iff.1 hj3).1
      rw [List.getD_eq_getElem?_getD, hj3] at this
      rw [show j * Kd.string.sz + 0 = j from by show j * 1 + 0 = j; omega, this]
      exact hu
    · rw [Rows.uptoBulk, bulk_strs]
      omega
end Go.Proofs.Ytnceocjgcdcpgaa.Op
