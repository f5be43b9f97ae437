/- strings.Join of a row that is read. -/
import Derived.Test.YtnceocjgcdcpgaaDoorSp
import Derived.Test.YtnceocjgcdcpgaaDoorNmD
import Derived.RangeFuncBox
namespace Go.Proofs.YtnceocjgcdcpgaaDoor.Jn
open Go.RowKit Go.Proofs.YtnceocjgcdcpgaaDoor Go.Proofs.YtnceocjgcdcpgaaDoorW.PrintWords Go.Proofs.YtnceocjgcdcpgaaDoorW.PrintLast Go.Proofs.YtnceocjgcdcpgaaDoorW.PrintMore
theorem spot_of {w : World} {a : Addr} {v : Value} (h : w.cell? a = some v) : a = ⟨a.block, a.off, none⟩ := by
  obtain ⟨b, o, s⟩ := a
  cases s with
  | none => rfl
  | some s =>
    unfold World.cell? at h
    split at h <;> simp at h
theorem add_at (b o j : Nat) : (⟨b, o, none⟩ : Addr).add j = ⟨b, o + j, none⟩ := by unfold Addr.add; split <;> simp_all
theorem join_C (A0 : Option Addr) (c0 : Nat) (l0 : List ByteArray) (a1 : ByteArray) (w : World) (hr0 : Kd.C Kd.string w A0 l0.length l0) (hc0 : l0.length ≤ c0)
    (hb : l0.length ≤ 140737488355328 ∧ (Lib.join (l0.map (·.data.toList)) a1.data.toList).length ≤ 140737488355328) :
    Calls Tryd.prog 23 #[.slice A0 l0.length c0, .string a1] w fun e w' => e = .returned (.string ⟨(Lib.join (l0.map (·.data.toList)) a1.data.toList).toArray⟩) ∧ Below w.heap.size w w' := by
  rcases Nat.eq_zero_or_pos l0.length with h0 | h0
  · obtain rfl := List.eq_nil_of_length_eq_zero h0
    refine (Tryd.strings_Join_none A0 c0 a1 w).mono ?_
    rintro e w' ⟨rfl, rfl⟩
    exact ⟨by simp [Lib.join, List.intercalate], Below.refl _ _⟩
  · obtain ⟨ad, cs, rfl, _, hk, hcell⟩ := Kd.C_get hr0 ByteArray.empty 0 (by omega) (by omega)
    have hK : cs = [.string (l0.getD (0 : Int).toNat ByteArray.empty)] := hk
    subst hK
    have h1 := hcell 0 _ rfl
    rw [show (0 : Int).toNat * Kd.string.sz + 0 = 0 from rfl, show ad.add 0 = ad from rfl] at h1
    have hs := spot_of h1
    have hblk := World.block_lt_of_cell? w ad h1
    rw [hs]
    refine Tryd.strings_Join ad.block ad.off c0 l0 a1 w (fun j x hx => ?_) hblk hb.1 hc0 hb.2
    have hj : j < l0.length := (List.getElem?_eq_some_iff.1 hx).1
    obtain ⟨ad2, cs2, e2, _, hk2, hcell2⟩ := Kd.C_get hr0 ByteArray.empty (j : Int) (by omega) (by omega)
    obtain rfl := Option.some.inj e2
    have hK2 : cs2 = [.string (l0.getD (j : Int).toNat ByteArray.empty)] := hk2
    subst hK2
    have h2 := hcell2 0 _ rfl
    rw [show (j : Int).toNat * Kd.string.sz + 0 = j from by show (j : Int).toNat * 1 + 0 = j; omega, hs, add_at, List.getD_eq_getElem?_getD, Int.toNat_natCast, hx] at h2
    exact h2

/-- A row of texts, as values. -/
def rowV (L : List (List UInt8)) : List Value := L.map fun x => .string (bytesOfL x)
theorem rowV_encs (L : List (List UInt8)) : encs Value.string (L.map bytesOfL) = rowV L := by simp [encs, rowV]
theorem join_eq (l : List (List UInt8)) : Lib.join l [47] = Nm.joinT l := by
  induction l with
  | nil => rfl
  | cons x r ih =>
    cases r with
    | nil => simp [Lib.join, List.intercalate, Nm.joinT]
    | cons y s =>
      have : Lib.join (x :: y :: s) [47] = x ++ 47 :: Lib.join (y :: s) [47] := by simp [Lib.join, List.intercalate]
      rw [this, ih]; rfl
/-- A row that is owned is joined. -/
theorem join_own {W : World} {base n c : Nat} {A : Option Addr} {L : List (List UInt8)} (h : W.ownsRow base 9 1 (.slice A n c) L.length (rowV L)) (hl : L.length ≤ 4294967296) (ht : Nm.totL L ≤ 4294967296) :
    Calls Tryd.prog 23 #[.slice A n c, .string ⟨#[47]⟩] W fun e w' => e = .returned (.string (bytesOfL (Nm.joinT L))) ∧ Below W.heap.size W w' := by
  have hR : (Kd.string).R 9 W base (fun _ => True) (.slice A n c) (L.map bytesOfL) := Kd.R_of_own (by rw [List.length_map, rowV_encs]; exact h) (fun _ _ => trivial)
  obtain ⟨rfl, h2, h3⟩ := Kd.R_reads' hR
  have hm : (L.map bytesOfL).map (·.data.toList) = L := by
    rw [List.map_map]
    have : ((fun x : ByteArray => x.data.toList) ∘ bytesOfL) = id := rfl
    rw [this, List.map_id]
  have := join_C A c (L.map bytesOfL) ⟨#[47]⟩ W h3 h2 (by
    rw [hm, List.length_map]
    have e : (⟨#[47]⟩ : ByteArray).data.toList = [47] := rfl
    rw [e, join_eq]
    have := Nm.joinT_totL L
    omega)
  rw [hm, show (⟨#[47]⟩ : ByteArray).data.toList = [47] from rfl, join_eq] at this
  exact this
/-- A row cut by its last. -/
theorem own_last {W : World} {base n c : Nat} {A : Option Addr} {L : List (List UInt8)} (h : W.ownsRow base 9 1 (.slice A n c) L.length (rowV L)) (m : Nat) (hm : m = L.length - 1) : W.ownsRow base 9 1 (.slice A m c) L.dropLast.length (rowV L.dropLast) := by
  have hR : (Kd.string).R 9 W base (fun _ => True) (.slice A n c) (L.map bytesOfL) := Kd.R_of_own (by rw [List.length_map, rowV_encs]; exact h) (fun _ _ => trivial)
  have := Kd.own_of_R (Kd.R_take (m := m) hR (by rw [List.length_map]; omega))
  rw [← List.map_take, List.length_map, rowV_encs] at this
  subst hm
  rw [List.dropLast_eq_take]
  exact this
theorem own_slice {W : World} {base : Nat} {v : Value} {L : List (List UInt8)} (h : W.ownsRow base 9 1 v L.length (rowV L)) : ∃ A c, v = .slice A L.length c ∧ L.length ≤ c := by
  rcases h.2 with ⟨rfl, h0⟩ | ⟨g, cap, cur, rfl, _, _, h1, _⟩
  · exact ⟨none, 0, by rw [h0], by omega⟩
  · exact ⟨_, _, rfl, h1⟩
end Go.Proofs.YtnceocjgcdcpgaaDoor.Jn
