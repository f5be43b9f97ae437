/- NameChecks, NameSplits, NameCompares, NameBeneath: the pure statements. -/
import Derived.Test.YtnceocjgcdcpgaaDoorPureA
import Derived.Test.YtnceocjgcdcpgaaDoorNmB
namespace Go.Proofs.YtnceocjgcdcpgaaDoor.Pure
open Go.RowKit Go.Proofs.YtnceocjgcdcpgaaDoor.X Go.Proofs.YtnceocjgcdcpgaaDoorW.PrintWords Go.Proofs.YtnceocjgcdcpgaaDoorW.PrintLast Go.Proofs.YtnceocjgcdcpgaaDoorW.PrintMore
open Go.Proofs.YtnceocjgcdcpgaaDoor

theorem lastb_l0 (p : ByteArray) (hp : p.size ≤ 1099511627776) (c : UInt8) : ∀ n : Nat, n ≤ p.size →
    Ev (fun k => bytealg_LastIndexByteString.l0 k p (c.toNat : Int) ((n : Int) - 1)) (Nm.lastIdx c (p.data.toList.take n))
  | 0, _ => by
    refine Ev.step (fun k => ?_) (Ev.now _)
    simp only [bytealg_LastIndexByteString.l0]
    rw [if_neg (by omega)]; rfl
  | n + 1, h => by
    obtain ⟨d, _, hb, hd⟩ := drop_at p n (by omega)
    have e : p.data.toList.take (n + 1) = p.data.toList.take n ++ [d] := by rw [List.take_add_one, hd]; rfl
    rw [e, Nm.lastIdx_snoc]
    have hl : (p.data.toList.take n).length = n := by rw [List.length_take, len_eq]; omega
    rw [hl, show (((n + 1 : Nat) : Int) - 1) = (n : Int) from by omega]
    by_cases hc : d = c
    · refine Ev.step (fun k => ?_) (Ev.now _)
      simp only [bytealg_LastIndexByteString.l0]
      rw [if_pos (by omega), if_pos (by omega), if_pos (by omega), if_pos (by rw [hb, hc]), if_pos hc]
    · have s : ∀ k, bytealg_LastIndexByteString.l0 (k + 1) p (c.toNat : Int) (n : Int) = bytealg_LastIndexByteString.l0 k p (c.toNat : Int) ((n : Int) - 1) := fun k => by
        simp only [bytealg_LastIndexByteString.l0]
        rw [if_pos (by omega), if_pos (by omega), if_pos (by omega), if_neg (by rw [hb]; exact fun e => hc ((toNat_eq d c).1 e)), show wrap64 ((n : Int) - 1) = (n : Int) - 1 from by unfold wrap64; omega]
      rw [if_neg hc]
      exact Ev.step s (lastb_l0 p hp c n (by omega))
theorem lastb_ev (p : ByteArray) (hp : p.size ≤ 1099511627776) : Ev (fun k => strings_LastIndexByte.f k p 47) (Nm.lastIdx 47 p.data.toList) := by
  have := lastb_l0 p hp 47 p.size (by omega)
  rw [List.take_of_length_le (by rw [len_eq]; omega)] at this
  have s : ∀ k, strings_LastIndexByte.f k p 47 = (bytealg_LastIndexByteString.l0 k p 47 ((p.size : Int) - 1)).bind fun t => some t := fun k => by
    simp only [strings_LastIndexByte.f, bytealg_LastIndexByteString.f]
    rw [show wrap64 ((p.size : Int) - 1) = (p.size : Int) - 1 from by unfold wrap64; omega]
  exact Ev.congr s (Ev.bind this (Ev.now _))

/-- What stands above a path. -/
def upB (p : ByteArray) : ByteArray := p.extract 0 (Nm.lastIdx 47 p.data.toList).toNat
theorem mx0 (a : Int) (h : -1 ≤ a) : mx 0 a = ((a.toNat : Nat) : Int) := by unfold mx; split <;> omega
theorem up_ev (p : ByteArray) (hp : p.size ≤ 1099511627776) : Ev (fun k => name_Up.f k p) (upB p) := by
  have h1 := Nm.lastIdx_ge 47 p.data.toList
  have h2 := Nm.lastIdx_lt 47 p.data.toList
  rw [len_eq] at h2
  have s : ∀ k, name_Up.f k p = (strings_LastIndexByte.f k p 47).bind fun t => if 0 ≤ mx 0 t then (if mx 0 t ≤ (p.size : Int) then some (p.extract 0 ((mx 0 t : Int)).toNat) else none) else none := fun k => by simp only [name_Up.f]
  refine Ev.congr s (Ev.bind (lastb_ev p hp) (Ev.congr (fun k => ?_) (Ev.now _)))
  rw [mx0 _ h1, if_pos (by omega), if_pos (by omega), Int.toNat_natCast]
  rfl
theorem ncheck (p : ByteArray) : name_Check.f p = some (((Nm.check p.data.toList).1 : Int), ((Nm.check p.data.toList).2 : Int)) := rfl

end Go.Proofs.YtnceocjgcdcpgaaDoor.Pure
