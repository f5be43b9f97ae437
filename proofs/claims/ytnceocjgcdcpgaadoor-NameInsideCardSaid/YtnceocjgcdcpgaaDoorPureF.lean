/- NameLeads: the pure statement. -/
import Derived.Test.YtnceocjgcdcpgaaDoorPureD
import Derived.Test.YtnceocjgcdcpgaaDoorPureE
import Derived.Test.YtnceocjgcdcpgaaDoorNmD
namespace Go.Proofs.YtnceocjgcdcpgaaDoor.Pure
open Go.RowKit Go.Proofs.YtnceocjgcdcpgaaDoor.X Go.Proofs.YtnceocjgcdcpgaaDoorW.PrintWords Go.Proofs.YtnceocjgcdcpgaaDoorW.PrintLast Go.Proofs.YtnceocjgcdcpgaaDoorW.PrintMore
open Go.Proofs.YtnceocjgcdcpgaaDoor

theorem tot_texts (L : List (List UInt8)) : tot (L.map bytesOfL) = Nm.totL L := by
  induction L with
  | nil => rfl
  | cons x r ih => rw [List.map_cons, tot_cons, ih, bytes_size]; simp [Nm.totL]
theorem jl_texts (L : List (List UInt8)) : jl (L.map bytesOfL) = Nm.joinT L := by
  unfold jl
  rw [List.map_map]
  have : ((fun x : ByteArray => x.data.toList) ∘ bytesOfL) = id := rfl
  rw [this, List.map_id]
def ledI (o : Option (List (List UInt8))) : ByteArray × Int := (bytesOfL (Nm.led o).1, ((Nm.led o).2 : Int))
theorem wrap_pred {n : Nat} (h1 : 1 ≤ n) (h : n ≤ 9223372036854775807) : wrap64 ((n : Int) - 1) = ((n - 1 : Nat) : Int) := by unfold wrap64; omega
theorem rd_f1 (l : List (Nat × List UInt8)) (i : Nat) (h : i < l.length) : (rd_T54 (l.map toS) (i : Int)).f1 = bytesOfL l[i].2 := by rw [rd_map l i h]; rfl
theorem toList_of (l : List UInt8) : (bytesOfL l).toList = l := by rw [toList_eq]; rfl
theorem totL_len (L : List (List UInt8)) : L.length ≤ Nm.totL L := by
  induction L with
  | nil => exact Nat.le_refl _
  | cons x r ih => simp only [Nm.totL, List.map_cons, List.sum_cons, List.length_cons] at ih ⊢; omega

theorem reflead_j2 (L : List (List UInt8)) (m : List (Nat × List UInt8)) (i : Nat) (x : List UInt8) (r : ByteArray × Int) (b : Bool) (hi : i < 1099511627777) (hL : L.length < 8796093022208)
    (h1 : b = true → Ev (fun k => tabularyref08_Lead.l1 k (L.map bytesOfL) (m.map toS) ((i + 1 : Nat) : Int)) r)
    (h2 : b = false → x = [46, 46] → L = [] → r = (⟨#[]⟩, 83))
    (h3 : b = false → x = [46, 46] → L ≠ [] → Ev (fun k => tabularyref08_Lead.l1 k (L.dropLast.map bytesOfL) (m.map toS) ((i + 1 : Nat) : Int)) r)
    (h4 : b = false → x ≠ [46, 46] → Ev (fun k => tabularyref08_Lead.l1 k ((L ++ [x]).map bytesOfL) (m.map toS) ((i + 1 : Nat) : Int)) r) :
    Ev (fun k => tabularyref08_Lead.j2 k (L.map bytesOfL) (m.map toS) (i : Int) (bytesOfL x) b) r := by
  have hw : wrap64 ((i : Int) + 1) = ((i + 1 : Nat) : Int) := wrap_succ (by omega)
  cases b with
  | true =>
    refine Ev.step (fun k => ?_) (h1 rfl)
    rw [tabularyref08_Lead.j2, if_pos rfl, hw]
  | false =>
    by_cases hx : x = [46, 46]
    · by_cases hl : L = []
      · rw [h2 rfl hx hl]
        refine Ev.step (fun k => ?_) (Ev.now _)
        rw [tabularyref08_Lead.j2, if_neg (by decide), toList_of, if_pos hx, if_pos (by rw [hl]; rfl)]
      · refine Ev.step (fun k => ?_) (h3 rfl hx hl)
        have h0 : 1 ≤ (L.map bytesOfL).length := by rw [List.length_map]; exact List.length_pos_iff.2 hl
        have hm : (L.map bytesOfL).length = L.length := List.length_map _
        have hp : wrap64 (((L.map bytesOfL).length : Int) - 1) = (((L.map bytesOfL).length - 1 : Nat) : Int) := wrap_pred h0 (by omega)
        rw [tabularyref08_Lead.j2, if_neg (by decide), toList_of, if_pos hx, if_neg (by omega), hp, if_pos (by omega), if_pos (by omega), hw, Int.toNat_natCast, hm, ← List.map_take, List.dropLast_eq_take]
    · refine Ev.step (fun k => ?_) (h4 rfl hx)
      rw [tabularyref08_Lead.j2, if_neg (by decide), toList_of, if_neg hx, if_pos (by rw [List.length_map]; exact hL), hw, List.map_append]
      rfl

theorem reflead_l1 (m : List (Nat × List UInt8)) (hm : m.length ≤ 1099511627776) (d : Nat) : ∀ (i : Nat) (L : List (List UInt8)), i ≤ m.length → m.length - i = d → Nm.totL L + Nm.totL ((m.drop i).map (·.2)) ≤ 4294967296 →
    Ev (fun k => tabularyref08_Lead.l1 k (L.map bytesOfL) (m.map toS) (i : Int)) (ledI (Nm.way L ((m.drop i).map (·.2)))) := by
  induction d with
  | zero =>
    intro i L hi hd ht
    obtain rfl : i = m.length := by omega
    rw [List.drop_length] at ht ⊢
    have s : ∀ k, tabularyref08_Lead.l1 (k + 1) (L.map bytesOfL) (m.map toS) (m.length : Int) = (tabularyref08_Joined.f k (L.map bytesOfL)).bind fun t => some (t, 0) := fun k => by
      simp only [tabularyref08_Lead.l1, List.length_map]
      rw [if_neg (by omega)]
    refine Ev.step s (Ev.bind (joined_ev (L.map bytesOfL) (by rw [tot_texts]; omega)) ?_)
    rw [jl_texts]
    exact Ev.now _
  | succ d ih =>
    intro i L hi hd ht
    have h1 : i < m.length := by omega
    rw [List.drop_eq_getElem_cons h1, List.map_cons] at ht ⊢
    have hx0 : Nm.totL (m[i].2 :: (m.drop (i + 1)).map (·.2)) = m[i].2.length + 1 + Nm.totL ((m.drop (i + 1)).map (·.2)) := by simp [Nm.totL]
    rw [hx0] at ht
    have hLl : L.length < 8796093022208 := by have := totL_len L; omega
    have hdl := Nm.totL_dropLast L
    have hap : Nm.totL (L ++ [m[i].2]) = Nm.totL L + (m[i].2.length + 1) := by rw [Nm.totL_append]; simp [Nm.totL]
    have s0 : ∀ k, tabularyref08_Lead.l1 (k + 1) (L.map bytesOfL) (m.map toS) (i : Int) = if m[i].2 = [] then tabularyref08_Lead.j2 k (L.map bytesOfL) (m.map toS) (i : Int) (bytesOfL m[i].2) true else tabularyref08_Lead.j2 k (L.map bytesOfL) (m.map toS) (i : Int) (bytesOfL m[i].2) (m[i].2 == [46]) := fun k => by
      simp only [tabularyref08_Lead.l1, List.length_map]
      rw [if_pos (by omega), if_pos (by omega), rd_f1 m i h1, toList_of]
    by_cases e1 : m[i].2 = []
    · have hway : Nm.way L (m[i].2 :: (m.drop (i + 1)).map (·.2)) = Nm.way L ((m.drop (i + 1)).map (·.2)) := by rw [Nm.way, if_pos (.inl e1)]
      rw [hway]
      refine Ev.step (fun k => by rw [s0, if_pos e1]) (reflead_j2 L m i _ _ true (by omega) hLl (fun _ => ih (i + 1) L (by omega) (by omega) (by omega)) (by simp) (by simp) (by simp))
    · by_cases e2 : m[i].2 = [46]
      · have hway : Nm.way L (m[i].2 :: (m.drop (i + 1)).map (·.2)) = Nm.way L ((m.drop (i + 1)).map (·.2)) := by rw [Nm.way, if_pos (.inr e2)]
        rw [hway]
        refine Ev.step (fun k => by rw [s0, if_neg e1, beq_iff_eq.2 e2]) (reflead_j2 L m i _ _ true (by omega) hLl (fun _ => ih (i + 1) L (by omega) (by omega) (by omega)) (by simp) (by simp) (by simp))
      · have hb : (m[i].2 == [46]) = false := by simpa using e2
        refine Ev.step (fun k => by rw [s0, if_neg e1, hb]) (reflead_j2 L m i _ _ false (by omega) hLl (by simp) ?_ ?_ ?_)
        · intro _ h2 h3
          rw [Nm.way, if_neg (by simp [e1, e2]), if_pos h2, if_pos h3]
          rfl
        · intro _ h2 h3
          rw [Nm.way, if_neg (by simp [e1, e2]), if_pos h2, if_neg h3]
          exact ih (i + 1) L.dropLast (by omega) (by omega) (by omega)
        · intro _ h2
          rw [Nm.way, if_neg (by simp [e1, e2]), if_neg h2]
          exact ih (i + 1) (L ++ [m[i].2]) (by omega) (by omega) (by omega)

theorem reflead_l0 (q : ByteArray) (hq : q.size ≤ 400) (l : List (Nat × List UInt8)) (hl : l.length ≤ 1048577) (ht : Nm.totL (l.map (·.2)) ≤ 1048577) (d : Nat) : ∀ i : Nat, i + 1 ≤ l.length → l.length - (i + 1) = d →
    Ev (fun k => tabularyref08_Lead.l0 k q (((l.take i).map (·.2)).map bytesOfL) (l.map toS) (i : Int)) (ledI (Nm.way ((l.map (·.2)).dropLast) (Nm.texts q.data.toList))) := by
  induction d with
  | zero =>
    intro i hi hd
    have hw : wrap64 ((i : Int) + 1) = ((i + 1 : Nat) : Int) := wrap_succ (by omega)
    have s : ∀ k, tabularyref08_Lead.l0 (k + 1) q (((l.take i).map (·.2)).map bytesOfL) (l.map toS) (i : Int) = (tabularyref08_Pieces.f k q).bind fun t => tabularyref08_Lead.l1 k (((l.take i).map (·.2)).map bytesOfL) t 0 := fun k => by
      simp only [tabularyref08_Lead.l0, List.length_map]
      rw [hw, if_neg (by omega)]
    refine Ev.step s (Ev.bind (pieces_ev q (by omega)) ?_)
    have e : (l.take i).map (·.2) = (l.map (·.2)).dropLast := by
      rw [List.dropLast_eq_take, List.length_map, List.map_take]
      congr 1
      omega
    rw [e]
    have hlq := len_eq q
    have h2 := Nm.pieces_length q.data.toList 0
    have h3 := Nm.totL_texts q.data.toList
    have h4 := Nm.totL_dropLast (l.map (·.2))
    have := reflead_l1 (Nm.pieces 0 q.data.toList) (by omega) _ 0 ((l.map (·.2)).dropLast) (by omega) rfl (by
      show _ + Nm.totL (Nm.texts q.data.toList) ≤ _
      omega)
    exact this
  | succ d ih =>
    intro i hi hd
    have hw : wrap64 ((i : Int) + 1) = ((i + 1 : Nat) : Int) := wrap_succ (by omega)
    have h1 : i < l.length := by omega
    have s : ∀ k, tabularyref08_Lead.l0 (k + 1) q (((l.take i).map (·.2)).map bytesOfL) (l.map toS) (i : Int) = tabularyref08_Lead.l0 k q (((l.take (i + 1)).map (·.2)).map bytesOfL) (l.map toS) ((i + 1 : Nat) : Int) := fun k => by
      simp only [tabularyref08_Lead.l0, List.length_map]
      rw [hw, if_pos (by omega), if_pos (by omega), if_pos (by omega), if_pos (by rw [List.length_take]; omega), rd_f1 l i h1, List.take_add_one, List.getElem?_eq_getElem h1]
      simp only [Option.toList_some, List.map_append, List.map_cons, List.map_nil]
    exact Ev.step s (ih (i + 1) (by omega) (by omega))

/-- The reference's Lead. -/
theorem reflead_ev (p q : ByteArray) : Ev (fun k => tabularyref08_Lead.f k p q) (bytesOfL (Nm.lead p.data.toList q.data.toList).1, ((Nm.lead p.data.toList q.data.toList).2 : Int)) := by
  have hlq := len_eq q
  have hlp := len_eq p
  refine Ev.congr (fun k => by rw [tabularyref08_Lead.f]) (Ev.bind (refcheck_ev p) ?_)
  by_cases h1 : (Nm.check p.data.toList).2 = 0
  · refine Ev.congr (fun k => by rw [if_pos (by simp [h1])]) ?_
    rw [toList_eq]
    by_cases h2 : q.data.toList = []
    · have e : Nm.lead p.data.toList q.data.toList = ([], 80) := by simp only [Nm.lead, h1, h2, ne_eq, not_true_eq_false, if_true, if_false]
      rw [e]
      exact Ev.congr (fun k => by rw [if_pos h2]; rfl) (Ev.now _)
    · by_cases h3 : 400 < q.data.toList.length
      · have e : Nm.lead p.data.toList q.data.toList = ([], 2) := by simp only [Nm.lead, h1, h2, h3, ne_eq, not_true_eq_false, if_true, if_false]
        rw [e]
        exact Ev.congr (fun k => by rw [if_neg h2, if_pos (by omega)]; rfl) (Ev.now _)
      · refine Ev.congr (fun k => by rw [if_neg h2, if_neg (by omega)]) (Ev.bind (nul_ev q (by omega)) ?_)
        by_cases h4 : 0 ≤ Lib.indexByte q.data.toList 0
        · have e : Nm.lead p.data.toList q.data.toList = ([], 82) := by simp only [Nm.lead, h1, h2, h3, h4, ne_eq, not_true_eq_false, if_true, if_false]
          rw [e]
          exact Ev.congr (fun k => by rw [if_pos h4]; rfl) (Ev.now _)
        · have hpos : 0 < q.size := by have := List.length_pos_iff.2 h2; omega
          obtain ⟨c, _, hb, hc⟩ := drop_at q 0 hpos
          have hh : q.data.toList.head? = some c := by rw [List.head?_eq_getElem?]; exact hc
          have hb0 : bt q 0 = (c.toNat : Int) := hb
          refine Ev.congr (fun k => by rw [if_neg (by omega), if_pos (by omega)]) ?_
          by_cases h5 : c = 47
          · have e : Nm.lead p.data.toList q.data.toList = ([], 83) := by simp only [Nm.lead, h1, h2, h3, h4, hh, h5, ne_eq, not_true_eq_false, if_true, if_false]
            rw [e]
            exact Ev.congr (fun k => by rw [if_pos (by rw [hb0, h5]; rfl)]; rfl) (Ev.now _)
          · have h6 : ¬ (some c = some (47 : UInt8)) := fun e => h5 (Option.some.inj e)
            have e : Nm.lead p.data.toList q.data.toList = Nm.led (Nm.way (Nm.texts p.data.toList).dropLast (Nm.texts q.data.toList)) := by simp only [Nm.lead, h1, h2, h3, h4, hh, h6, ne_eq, not_true_eq_false, if_false]
            rw [e]
            have hp4 := ((Nm.check_ok _).1 h1).1
            have hpl := Nm.pieces_length p.data.toList 0
            refine Ev.congr (fun k => by rw [if_neg (by rw [hb0]; exact fun e => h5 ((toNat_eq c 47).1 e))]) (Ev.bind (pieces_ev p (by omega)) ?_)
            have h7 := Nm.totL_texts p.data.toList
            have := reflead_l0 q (by omega) (Nm.pieces 0 p.data.toList) (by omega) (by show Nm.totL (Nm.texts p.data.toList) ≤ _; omega) _ 0 (by simp [Nm.pieces]) rfl
            exact this
  · have e : Nm.lead p.data.toList q.data.toList = ([], (Nm.check p.data.toList).2) := by simp only [Nm.lead, h1, ne_eq, not_false_eq_true, if_true]
    rw [e]
    exact Ev.congr (fun k => by rw [if_neg (by simp; omega)]; rfl) (Ev.now _)
theorem nlead (p q : ByteArray) : name_Lead.f p q = some (bytesOfL (Nm.lead p.data.toList q.data.toList).1, ((Nm.lead p.data.toList q.data.toList).2 : Int)) := rfl
/-- **NameLeads.** -/
theorem leads_ev (p q : ByteArray) : Ev (fun k => tabularylaw08_NameLeads.f k p q) true := by
  refine Ev.congr (fun k => by rw [tabularylaw08_NameLeads.f, nlead, Option.bind_some]) (Ev.bind (reflead_ev p q) ?_)
  refine Ev.congr (fun k => by rw [if_pos rfl, beq_self_eq_true]) (Ev.now _)
end Go.Proofs.YtnceocjgcdcpgaaDoor.Pure
