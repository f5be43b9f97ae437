/- The contract of name.Lead. -/
import Derived.Test.YtnceocjgcdcpgaaDoorJn
namespace Go.Proofs.YtnceocjgcdcpgaaDoor.LeadW
open Go.RowKit Go.Shelf Go.Proofs.YtnceocjgcdcpgaaDoor Go.Proofs.YtnceocjgcdcpgaaDoor.Jn
open Go.Proofs.YtnceocjgcdcpgaaDoorW.PrintWords Go.Proofs.YtnceocjgcdcpgaaDoorW.PrintLast Go.Proofs.YtnceocjgcdcpgaaDoorW.PrintMore
attribute [local go_sem] Oper.semAt_some

theorem boxed_own {β : Type} (B : Nat) (t : TypeId) (v : Value) : Own (fun (_ : β) W => Boxed W B t v) := fun s A C row hs hg hr => hs.kept hg (fun e => by
  obtain ⟨o, ho, hc⟩ := hr B e.symm
  rw [show A.heap[B]? = _ from hs] at ho; cases ho; cases hc)
theorem box_below {w W : World} {B : Nat} {t : TypeId} {v : Value} (h : Boxed w B t v) (hb : Below w.heap.size w W) : Boxed W B t v := (hb.block B h.lt).trans h
theorem box_far {W : World} {B C : Nat} {t : TypeId} {v u : Value} (h : Boxed W B t v) (hc : C ≠ B) : Boxed (W.setCell ⟨C, 0, none⟩ u) B t v := (Below.heap_setCell W ⟨C, 0, none⟩ u B (Ne.symm hc)).trans h

theorem info_str : (Tryd.prog.info? 9).map (fun i => (i.zero, i.size, i.bytes)) = some (some (.string ⟨#[]⟩), 1, 16) := by kernel_rfl
theorem append_at {F : Fence} {n : Nat} {P : Program} (w : World) {ops : Array Oper} {rest : List Oper} {o : Oper} {a : Act} {Q : Exit → Act → World → Prop}
    (hg : o.guard = none) (s x : Operand) (t : TypeId) (hop : o.op = Op.call { callee := Callee.builtin Builtin.append, args := #[s, x], argTypes := #[t, t] })
    (base : Nat) (e : TypeId) (i : TypeInfo) (z : Value) (size bytes : Nat) (h1 : P.underlying t = some (.slice e)) (h2 : P.info? e = some i) (h3 : i.zero = some z) (h4 : i.size = size) (h5 : i.bytes = bytes) (h6 : z.cells.size = size) (h7 : 0 < size)
    (v : Value) (k : Nat) (xs : List Value) (hs : a.eval s = v) (hown : w.ownsRow base e size v k xs) (ad : Addr) (m c : Nat) (news : List Value) (hx : a.eval x = .slice (some ad) m c) (hn : news.length = m * size)
    (hc : ∀ j u, news[j]? = some u → w.cell? (ad.add j) = some u) (h1c : ∀ u ∈ news, u.oneCell' = true) (b1 : k + m ≤ maxLen) (b2 : (k + m) * bytes ≤ 140737488355328) (b3 : base ≤ w.heap.size)
    (hK : ∀ v' w', w'.ownsRow base e size v' (k + m) (xs ++ news) → w.grownBy w' v.ownBlock → (v'.ownBlock = v.ownBlock ∨ v'.ownBlock = some w.heap.size) → wpListIn F n P ops Q rest (a.put o.dst v') w') :
    wpListIn F n P ops Q (o :: rest) a w := by
  refine wpListIn_plain hg fun K hK' => ?_
  obtain ⟨v', w', hrun, r1, r2, _, r3⟩ := run_append_own_at (P := P) w base t o.type e i z size bytes h1 h2 h3 h4 h5 h6 h7 v k xs hown ad m c news hn hc h1c b1 b2 b3
  unfold Oper.wpIn
  refine ⟨?_, ?_⟩
  · simp [Oper.about, hop, resolve, Target.leads, Sem.run_pure]
  · rw [Oper.semAt_plain F _ _ (by rw [hop]; intro c hc'; cases hc')]
    simp [execOp, hop, resolve, invoke, builtin, hs, hx, hrun, Result.andThen]
    exact hK' _ _ (hK v' w' r1 r2 r3)

/-- The pieces' texts that the loop has had. -/
def txt (pre : List (Nat × ByteArray)) : List (List UInt8) := pre.map fun x => x.2.data.toList
theorem txt_snoc (pre : List (Nat × ByteArray)) (x : Nat × ByteArray) : txt (pre ++ [x]) = txt pre ++ [x.2.data.toList] := by simp [txt]
theorem txt_all (l : List UInt8) : txt (piecesB 0 l) = Nm.texts l := by
  simp only [txt, piecesB, List.map_map, Nm.texts]
  rfl
def wl (P0 : List (List UInt8)) (pre : List (Nat × ByteArray)) : List (List UInt8) := (Nm.way P0 (txt pre)).getD []
theorem wl_of {P0 : List (List UInt8)} {pre : List (Nat × ByteArray)} {L : List (List UInt8)} (h : Nm.way P0 (txt pre) = some L) : wl P0 pre = L := by rw [wl, h]; rfl

theorem wrap_last (N n : Nat) (h1 : N = n + 1) (h : n ≤ 1048576) : wrap64 ((N : Int) - 1) = (n : Int) := by unfold wrap64; omega
/-- What strings.Split hands over, and what is left of it when it is cut by its last. -/
theorem split_form (p : ByteArray) (hp : p.size ≤ 400) {w2 : World} {base : Nat} {v : Value} (hR : Kd.R Kd.string 9 w2 base (fun _ => True) v (Sp.textsB p)) :
    ∃ g N n cap, v = .slice (some ⟨g, 0, none⟩) N cap ∧ N = n + 1 ∧ g < w2.heap.size ∧ base ≤ g ∧ N ≤ cap ∧ n ≤ 400 ∧
      w2.ownsRow base 9 1 (.slice (some ⟨g, 0, none⟩) n cap) (Nm.texts p.data.toList).dropLast.length (rowV (Nm.texts p.data.toList).dropLast) := by
  obtain ⟨n, hn⟩ : ∃ n, (Nm.texts p.data.toList).length = n + 1 := ⟨(Nm.texts p.data.toList).length - 1, by have := List.length_pos_iff.2 (Nm.texts_ne p.data.toList); omega⟩
  have hrow0 : w2.ownsRow base 9 1 v (Nm.texts p.data.toList).length (rowV (Nm.texts p.data.toList)) := by
    have := Kd.own_of_R hR
    rw [Sp.textsB, List.length_map, rowV_encs] at this
    exact this
  rw [hn] at hrow0
  obtain ⟨g, cap, rfl⟩ := ownsRow_succ hrow0
  have hnl : n ≤ 400 := by
    have := Nm.pieces_length p.data.toList 0
    have h2 := Sp.len_eq p
    have h3 : (Nm.texts p.data.toList).length = (Nm.pieces 0 p.data.toList).length := by simp [Nm.texts]
    omega
  exact ⟨g, n + 1, n, cap, rfl, rfl, Kd.R_lt hR g rfl, Kd.R_base hR g rfl, (Kd.R_reads' hR).2.1, hnl, own_last (n := n + 1) (by rw [hn]; exact hrow0) n (by rw [hn]; rfl)⟩
theorem len_tot (L : List (List UInt8)) : L.length ≤ Nm.totL L := by
  induction L with
  | nil => exact Nat.le_refl _
  | cons x r ih => simp only [Nm.totL, List.map_cons, List.sum_cons, List.length_cons] at ih ⊢; omega
theorem len_zero {α : Type} {l : List α} (h : ((l.length : Int) == 0) = true) : l = [] := by
  have : (l.length : Int) = 0 := by simpa using h
  exact List.eq_nil_of_length_eq_zero (by omega)
theorem own_any (A : Option Addr) (n m c : Nat) : (Value.slice A n c).ownBlock = (Value.slice A m c).ownBlock := by cases A <;> rfl
theorem rowV_snoc (L : List (List UInt8)) (x : ByteArray) : rowV (L ++ [x.data.toList]) = rowV L ++ [.string x] := by simp [rowV]; rfl
theorem wl_len {P0 : List (List UInt8)} {pre : List (Nat × ByteArray)} {q : ByteArray} (h : Nm.way P0 (txt pre) = some (wl P0 pre)) (h0 : P0.length ≤ 400) (hq : q.size ≤ 400) (hl : pre.length < (piecesB 0 q.data.toList).length) : (wl P0 pre).length ≤ 1048576 := by
  have h1 := Nm.way_len _ _ _ h
  have h2 : (txt pre).length = pre.length := by simp [txt]
  have h3 : (piecesB 0 q.data.toList).length = (Nm.pieces 0 q.data.toList).length := by simp [piecesB]
  have h4 := Nm.pieces_length q.data.toList 0
  have h5 := Sp.len_eq q
  omega
/-- What is handed over when the link leads nowhere. -/
theorem two_box (W : World) (b : Nat) {v1 v2 u1 u2 : Value} {t1 t2 : TypeId} (h1 : Boxed W b t1 u1) (h2 : Boxed W (b + 1) t2 u2) :
    Boxed ((W.setCell ⟨b, 0, none⟩ v1).setCell ⟨b + 1, 0, none⟩ v2) b t1 v1 ∧ Boxed ((W.setCell ⟨b, 0, none⟩ v1).setCell ⟨b + 1, 0, none⟩ v2) (b + 1) t2 v2 :=
  ⟨box_far (Boxed.set v1 h1) (by omega), Boxed.set v2 (box_far h2 (by omega))⟩

set_option maxRecDepth 100000 in
set_option maxHeartbeats 4000000 in
theorem lead_bad (p q : ByteArray) (e : Nat) (he : (Nm.check p.data.toList).2 = e) (h0 : e ≠ 0) (w : World) :
    Calls Tryd.prog 8 #[.string p, .string q] w fun e_ w' => e_ = .returned (.tuple #[.string ⟨#[]⟩, .int .i64 e]) ∧ Below w.heap.size w w' := by
  have b1 := Boxed.new w 9 (.string ⟨#[]⟩)
  have b2 := Boxed.new (w.alloc (.cells #[.string ⟨#[]⟩] 9)) 22 (.int .i64 0)
  rw [World.size_alloc] at b2
  have hB0 : Below w.heap.size w ((w.alloc (.cells #[.string ⟨#[]⟩] 9)).alloc (.cells #[.int .i64 0] 22)) := ((Below.refl _ w).alloc (Nat.le_refl _) _).alloc (by simp) _
  have hne : ((e : Int) != 0) = true := by simp; omega
  refine (callsIn_wide (n := 3)).1 ?_
  refine callsIn_of_wp_marks Tryd.func8 rfl trivial ?_ rfl
  simp only [Tryd.ntmps8, List.size_toArray, List.length_cons, List.length_nil, Nat.reduceAdd, Nat.reduceSub, Array.replicate_succ, Array.replicate_zero, List.push_toArray, List.append_toArray, List.nil_append, List.cons_append]
  gi_wp2_with fail
  refine ⟨trivial, ?_⟩
  refine (callsIn_wide.2 (check_any _ _)).mono ?_
  rintro e w1 ⟨rfl, hB1⟩
  rw [he]
  have hb1 := box_below (b1.alloc (.cells #[.int .i64 0] 22)) hB1
  have hb2 := box_below b2 hB1
  have c1 := hb1.cell
  have c2 := hb2.cell
  have f1 := hb1.frozen
  have f2 := hb2.frozen
  gi_wp2_with fail
  obtain ⟨r1, r2⟩ := two_box w1 w.heap.size (v1 := .string ⟨#[]⟩) (v2 := .int .i64 e) hb1 hb2
  have r1' := r1.cell
  have r2' := r2.cell
  refine ⟨.tuple #[.string ⟨#[]⟩, .int .i64 e], ?_, rfl, below_two w1 _ _ (hB0.trans (hB1.mono (by simp; omega)))⟩
  simp [results, Tryd.f8, go_sem, r1', r2']

set_option maxRecDepth 100000 in
set_option maxHeartbeats 4000000 in
theorem lead_walk (p q : ByteArray) (he : (Nm.check p.data.toList).2 = 0) (w : World) :
    Calls Tryd.prog 8 #[.string p, .string q] w fun e_ w' => e_ = .returned (.tuple #[.string (bytesOfL (Nm.lead p.data.toList q.data.toList).1), .int .i64 ((Nm.lead p.data.toList q.data.toList).2 : Int)]) ∧ Below w.heap.size w w' := by
  have b1 := Boxed.new w 9 (.string ⟨#[]⟩)
  have b2 := Boxed.new (w.alloc (.cells #[.string ⟨#[]⟩] 9)) 22 (.int .i64 0)
  rw [World.size_alloc] at b2
  have hB0 : Below w.heap.size w ((w.alloc (.cells #[.string ⟨#[]⟩] 9)).alloc (.cells #[.int .i64 0] 22)) := ((Below.refl _ w).alloc (Nat.le_refl _) _).alloc (by simp) _
  have hne : (((0 : Nat) : Int) != 0) = false := rfl
  refine (callsIn_wide (n := 3)).1 ?_
  refine callsIn_of_wp_marks Tryd.func8 rfl trivial ?_ rfl
  simp only [Tryd.ntmps8, List.size_toArray, List.length_cons, List.length_nil, Nat.reduceAdd, Nat.reduceSub, Array.replicate_succ, Array.replicate_zero, List.push_toArray, List.append_toArray, List.nil_append, List.cons_append]
  gi_wp2_with fail
  refine ⟨trivial, ?_⟩
  refine (callsIn_wide.2 (check_any _ _)).mono ?_
  rintro e w1 ⟨rfl, hB1⟩
  rw [he]
  have hb1 := box_below (b1.alloc (.cells #[.int .i64 0] 22)) hB1
  have hb2 := box_below b2 hB1
  have c1 := hb1.cell
  have c2 := hb2.cell
  have f1 := hb1.frozen
  have f2 := hb2.frozen
  have hBw : Below w.heap.size w w1 := hB0.trans (hB1.mono (by simp; omega))
  have hlq : q.data.toList.length = q.size := Sp.len_eq q
  by_cases q1 : q.toList.isEmpty = true
  · have lead_80_ : Nm.lead p.data.toList q.data.toList = ([], 80) := by
      have : q.data.toList = [] := by rw [← Lib.toList_data]; simpa using q1
      simp [Nm.lead, he, this]
    gi_wp2_with fail
    obtain ⟨r1, r2⟩ := two_box w1 w.heap.size (v1 := .string ⟨#[]⟩) (v2 := .int .i64 80) hb1 hb2
    have r1' := r1.cell
    have r2' := r2.cell
    have hlead : Nm.lead p.data.toList q.data.toList = ([], 80) := lead_80_
    rw [hlead]
    refine ⟨.tuple #[.string ⟨#[]⟩, .int .i64 80], ?_, rfl, below_two w1 _ _ hBw⟩
    simp [results, Tryd.f8, go_sem, r1', r2']
  replace q1 : q.toList.isEmpty = false := by simpa using q1
  have hq1 : q.data.toList ≠ [] := by rw [← Lib.toList_data]; simpa using q1
  by_cases q2 : decide (400 < (q.size : Int)) = true
  · have lead_2_ : Nm.lead p.data.toList q.data.toList = ([], 2) := by
      have : 400 < q.data.toList.length := by rw [hlq]; have := of_decide_eq_true q2; omega
      simp only [Nm.lead, he, hq1, this, if_true, if_false, ne_eq, not_true_eq_false]
    gi_wp2_with fail
    obtain ⟨r1, r2⟩ := two_box w1 w.heap.size (v1 := .string ⟨#[]⟩) (v2 := .int .i64 2) hb1 hb2
    have r1' := r1.cell
    have r2' := r2.cell
    have hlead : Nm.lead p.data.toList q.data.toList = ([], 2) := lead_2_
    rw [hlead]
    refine ⟨.tuple #[.string ⟨#[]⟩, .int .i64 2], ?_, rfl, below_two w1 _ _ hBw⟩
    simp [results, Tryd.f8, go_sem, r1', r2']
  replace q2 : decide (400 < (q.size : Int)) = false := by simpa using q2
  have hq2 : ¬ 400 < q.data.toList.length := by rw [hlq]; have := of_decide_eq_false q2; omega
  have qs : 0 < q.size := by have := List.length_pos_iff.2 hq1; omega
  gi_wp2_with fail
  refine ⟨trivial, ?_⟩
  refine (callsIn_wide.2 (ibyte _ 0 _)).mono ?_
  rintro e w' ⟨rfl, rfl⟩
  by_cases q3 : decide (0 ≤ Lib.indexByte q.data.toList 0) = true
  · have lead_82_ : Nm.lead p.data.toList q.data.toList = ([], 82) := by
      have := of_decide_eq_true q3
      simp only [Nm.lead, he, hq1, hq2, this, if_true, if_false, ne_eq, not_true_eq_false]
    gi_wp2_with fail
    obtain ⟨r1, r2⟩ := two_box w1 w.heap.size (v1 := .string ⟨#[]⟩) (v2 := .int .i64 82) hb1 hb2
    have r1' := r1.cell
    have r2' := r2.cell
    have hlead : Nm.lead p.data.toList q.data.toList = ([], 82) := lead_82_
    rw [hlead]
    refine ⟨.tuple #[.string ⟨#[]⟩, .int .i64 82], ?_, rfl, below_two w1 _ _ hBw⟩
    simp [results, Tryd.f8, go_sem, r1', r2']
  replace q3 : decide (0 ≤ Lib.indexByte q.data.toList 0) = false := by simpa using q3
  have hq3 := of_decide_eq_false q3
  have hq4 : q.data.toList.head? = some q[0] := by
    rw [List.head?_eq_getElem?, Array.getElem?_toList]
    exact Array.getElem?_eq_getElem qs
  by_cases q4 : (((q[0]'qs).toNat : Int) == 47) = true
  · have lead_83_ : Nm.lead p.data.toList q.data.toList = ([], 83) := by
      have h47 : q[0] = 47 := by
        have : ((q[0]'qs).toNat : Int) = 47 := by simpa using q4
        exact UInt8.toNat_inj.1 (by show (q[0]'qs).toNat = 47; omega)
      have : q.data.toList.head? = some 47 := by rw [hq4, h47]
      simp only [Nm.lead, he, hq1, hq2, hq3, this, if_true, if_false, ne_eq, not_true_eq_false]
    gi_wp2_with fail
    obtain ⟨r1, r2⟩ := two_box w1 w.heap.size (v1 := .string ⟨#[]⟩) (v2 := .int .i64 83) hb1 hb2
    have r1' := r1.cell
    have r2' := r2.cell
    have hlead : Nm.lead p.data.toList q.data.toList = ([], 83) := lead_83_
    rw [hlead]
    refine ⟨.tuple #[.string ⟨#[]⟩, .int .i64 83], ?_, rfl, below_two w1 _ _ hBw⟩
    simp [results, Tryd.f8, go_sem, r1', r2']
  have hlead : Nm.lead p.data.toList q.data.toList = Nm.led (Nm.way (Nm.texts p.data.toList).dropLast (Nm.texts q.data.toList)) := by
    have h47 : ¬ q.data.toList.head? = some 47 := by
      rw [hq4]
      intro e
      injection e with e
      rw [e] at q4
      exact q4 rfl
    simp only [Nm.lead, he, hq1, hq2, hq3, h47, if_false, ne_eq, not_true_eq_false]
  replace q4 : (((q[0]'qs).toNat : Int) == 47) = false := by simpa using q4
  have Hlead := Lib.hid hlead
  have hq400 : q.size ≤ 400 := by omega
  clear hlead hq4 hq3 hq1 hq2
  have hp4 : p.size ≤ 400 := by
    unfold Nm.check at he
    by_cases h : 400 < p.data.toList.length
    · rw [if_pos h] at he; simp at he
    · rw [Sp.len_eq] at h; omega
  gi_wp2_with fail
  refine ⟨trivial, ?_⟩
  refine (callsIn_wide.2 (Sp.split_calls p (by omega) _)).mono ?_
  rintro e w2 ⟨v, rfl, hR, hB2⟩
  obtain ⟨g, N, n, cap, rfl, hNn, hg, hgb, hncap, hnl, hrow1⟩ := split_form p (by omega) hR
  obtain ⟨i0, hi0, hz0, hz1, hz2⟩ := info_parts info_str
  have hcut := cut_to (P := Tryd.prog) 39 9 .i64 Tryd.underlying39 hi0 (some ⟨g, 0, none⟩) N cap (n : Int) (Int.natCast_nonneg n) (by rw [hNn]; exact Int.ofNat_le.2 (Nat.le_succ n)) hncap
  rw [Int.toNat_natCast] at hcut
  have hb1 := box_below hb1 hB2
  have hb2 := box_below hb2 hB2
  have hB3 : Below w.heap.size w w2 := hBw.trans (hB2.mono hBw.size)
  have hw : wrap64 ((N : Int) - 1) = (n : Int) := wrap_last N n hNn (by omega)
  have HNn := Lib.hid hNn
  clear hNn hR
  gi_wp2_with fail
  refine ⟨trivial, ?_⟩
  refine (callsIn_wide.2 (each_any _ _)).mono ?_
  rintro e w3 ⟨rfl, rfl⟩
  gi_wp2_with fail
  have hP0 : (Nm.texts p.data.toList).dropLast.length ≤ 400 := by
    have h3 := hrow1.1
    have := Nm.pieces_length p.data.toList 0
    have h4 : (Nm.texts p.data.toList).length = (Nm.pieces 0 p.data.toList).length := by simp [Nm.texts]
    have h2 := Sp.len_eq p
    rw [List.length_dropLast]
    omega
  obtain ⟨P0, hP⟩ : ∃ P0, (Nm.texts p.data.toList).dropLast = P0 := ⟨_, rfl⟩
  have HP := Lib.hid hP
  rw [hP] at hrow1 hP0
  clear hP
  have hWa : Below w2.heap.size w2 ((w2.alloc (.cells #[.slice (some ⟨g, 0, none⟩) n cap] 39)).alloc (.cells #[.string q] 9)) := ((Below.refl _ w2).alloc (Nat.le_refl _) _).alloc (by simp) _
  have d1 := Boxed.new w2 39 (.slice (some ⟨g, 0, none⟩) n cap)
  have d2 := Boxed.new (w2.alloc (.cells #[.slice (some ⟨g, 0, none⟩) n cap] 39)) 9 (.string q)
  rw [World.size_alloc] at d2
  have d3 := d1.alloc (.cells #[.string q] 9)
  have hb1 := box_below hb1 hWa
  have hb2 := box_below hb2 hWa
  have hB4 := hB3.trans (hWa.mono hB3.size)
  have hrow2 := (hrow1.alloc (.cells #[.slice (some ⟨g, 0, none⟩) n cap] 39)).alloc (.cells #[.string q] 9)
  have hsz : ((w2.alloc (.cells #[.slice (some ⟨g, 0, none⟩) n cap] 39)).alloc (.cells #[.string q] 9)).heap.size = w2.heap.size + 2 := by simp
  have h02 : w.heap.size + 2 ≤ w1.heap.size := by have := hB1.size; simpa using this
  have h12 : w1.heap.size ≤ w2.heap.size := hB2.size
  clear d1 hcut hw hrow1 hB0 hB1 hB2 hBw hB3 hWa hncap hnl HNn c1 c2 f1 f2 b1 b2
  generalize ((w2.alloc (.cells #[.slice (some ⟨g, 0, none⟩) n cap] 39)).alloc (.cells #[.string q] 9)) = w3 at *
  refine wpIn_rangeFunc_ownF rfl (by omega) (gf := 34) (lb := #[.pointer (some ⟨w2.heap.size + 1, 0, none⟩)]) rfl trivial (enters_of Tryd.func34 (by kernel_rfl) rfl)
    (each_stops (3 - 1) (by omega) (w2.heap.size + 1) q (by omega) w3 (by omega) d2.cell) box_t (box_b (by omega)) (Below.refl _ _) (fun _ => rfl)
    (fun pre W => (∃ v, Boxed W w2.heap.size 39 v ∧ W.ownsRow w1.heap.size 9 1 v (wl P0 pre).length (rowV (wl P0 pre)) ∧ (Nm.way P0 (txt pre) = some (wl P0 pre) ∧ v.ownBlock ≠ some (w2.heap.size + 1))) ∧ (Boxed W w.heap.size 9 (.string ⟨#[]⟩) ∧ (Boxed W (w.heap.size + 1) 22 (.int .i64 0) ∧ (Boxed W (w2.heap.size + 1) 9 (.string q) ∧ Below w.heap.size w W))))
    (fun c pre W => (c = .ret ∧ Nm.way P0 (txt pre) = none) ∧ (Boxed W w.heap.size 9 (.string ⟨#[]⟩) ∧ (Boxed W (w.heap.size + 1) 22 (.int .i64 83) ∧ Below w.heap.size w W)))
    (OwnFrom.and (Own.from (holdsRow_own w1.heap.size w2.heap.size 39 9 1 (fun pre => (wl P0 pre).length) (fun pre => rowV (wl P0 pre)) (fun pre v => Nm.way P0 (txt pre) = some (wl P0 pre) ∧ v.ownBlock ≠ some (w2.heap.size + 1))) _)
      (OwnFrom.and (Own.from (boxed_own _ _ _) _) (OwnFrom.and (Own.from (boxed_own _ _ _) _) (OwnFrom.and (Own.from (boxed_own _ _ _) _) (ownFrom_below (Nat.le_refl _) (by omega))))))
    (fun c => OwnFrom.and (fun s A B row hs hg hr => hs) (OwnFrom.and (Own.from (boxed_own _ _ _) _) (OwnFrom.and (Own.from (boxed_own _ _ _) _) (ownFrom_below (Nat.le_refl _) (by omega)))))
    ⟨⟨_, d3, hrow2, rfl, by simp [Value.ownBlock]; omega⟩, hb1, hb2, d2, hB4⟩ ?a1 ?assign ?body ?done ?stop
  case assign =>
    intro l x W K hK
    gi_wp2
    exact hK
  case body =>
    rintro l pre x W ⟨⟨v, hv, hrow, hway, hvo⟩, hr1, hr2, hbe, hB⟩ hlen
    obtain ⟨A, c, rfl, hAc⟩ := Jn.own_slice hrow
    have hc1 := hv.cell
    have hf1 := hv.frozen
    have es := Lib.hid (Lib.toList_data x.2)
    have hwl : (wl P0 pre).length ≤ 1048576 := wl_len hway hP0 (by omega) hlen
    by_cases q5 : x.2.toList.isEmpty = true
    · have hw2 : Nm.way P0 (txt (pre ++ [x])) = some (wl P0 pre) := by rw [txt_snoc, Nm.way_snoc hway]; exact Nm.way_empty _ (by rw [← es.out]; exact q5)
      as_aux_lemma =>
      have Hw2 := Lib.hid hw2
      clear hw2
      gi_wp2
      exact ⟨KeepsOthers.refl _, rfl, ⟨_, hv, by rw [wl_of Hw2.out]; exact hrow, by rw [wl_of Hw2.out]; exact Hw2.out, hvo⟩, hr1, hr2, hbe, hB⟩
    replace q5 : x.2.toList.isEmpty = false := by simpa using q5
    by_cases q6 : (x.2.toList == [46]) = true
    · have hw2 : Nm.way P0 (txt (pre ++ [x])) = some (wl P0 pre) := by rw [txt_snoc, Nm.way_snoc hway]; exact Nm.way_dot _ (by rw [← es.out]; exact q6)
      as_aux_lemma =>
      have Hw2 := Lib.hid hw2
      clear hw2
      gi_wp2
      exact ⟨KeepsOthers.refl _, rfl, ⟨_, hv, by rw [wl_of Hw2.out]; exact hrow, by rw [wl_of Hw2.out]; exact Hw2.out, hvo⟩, hr1, hr2, hbe, hB⟩
    replace q6 : (x.2.toList == [46]) = false := by simpa using q6
    by_cases q7 : (x.2.toList == [46, 46]) = true
    · have hw2 : Nm.way P0 (txt (pre ++ [x])) = if wl P0 pre = [] then none else some (wl P0 pre).dropLast := by rw [txt_snoc, Nm.way_snoc hway]; exact Nm.way_up _ (by rw [← es.out]; exact q7)
      by_cases q8 : (((wl P0 pre).length : Int) == 0) = true
      · have hnil : wl P0 pre = [] := len_zero q8
        rw [if_pos hnil] at hw2
        as_aux_lemma =>
        have Hw2 := Lib.hid hw2
        clear hw2 hnil
        have c1 := hr1.cell
        have f1 := hr1.frozen
        have c2 := hr2.cell
        have f2 := hr2.frozen
        obtain ⟨r1, r2⟩ := two_box W w.heap.size (v1 := .string ⟨#[]⟩) (v2 := .int .i64 83) hr1 hr2
        have R1 := Lib.hid r1
        have R2 := Lib.hid r2
        clear r1 r2
        gi_wp2
        exact ⟨keeps_two _ _ _ _, ⟨rfl, Hw2.out⟩, R1.out, R2.out, below_two W _ _ hB⟩
      · have hnil : wl P0 pre ≠ [] := fun e => by rw [e] at q8; exact q8 rfl
        rw [if_neg hnil] at hw2
        replace q8 : (((wl P0 pre).length : Int) == 0) = false := by simpa using q8
        obtain ⟨m, hm⟩ : ∃ m, (wl P0 pre).length = m + 1 := ⟨(wl P0 pre).length - 1, by have := List.length_pos_iff.2 hnil; omega⟩
        as_aux_lemma =>
        have hcut := cut_to (P := Tryd.prog) 39 9 .i64 Tryd.underlying39 hi0 A (wl P0 pre).length c (((wl P0 pre).length : Int) - 1) (by omega) (by omega) hAc
        have hjt : (((wl P0 pre).length : Int) - 1).toNat = (wl P0 pre).length - 1 := by omega
        rw [hjt] at hcut
        clear hjt
        have hr := own_last hrow _ rfl
        have Hw2 := Lib.hid hw2
        have Hr := Lib.hid hr
        clear hw2 hnil hm hr
        gi_wp2
        refine ⟨KeepsOthers.setCell _ _ _, World.cell?_setCell_far _ _ _ _ (by simp), ⟨.slice A ((wl P0 pre).length - 1) c, Boxed.set _ hv, ?_, by rw [wl_of Hw2.out]; exact Hw2.out, by rw [own_any A _ (wl P0 pre).length c]; exact hvo⟩, box_far hr1 (by omega), box_far hr2 (by omega), box_far hbe (by omega), hB.setCell (p := ⟨w2.heap.size, 0, none⟩) (by show w.heap.size ≤ w2.heap.size; omega) _⟩
        rw [wl_of Hw2.out]
        exact Hr.out.kept (grownBy_setCell' W w2.heap.size _) (.inr (hv.not_row (by decide) Hr.out).symm)
    replace q7 : (x.2.toList == [46, 46]) = false := by simpa using q7
    have hw2 : Nm.way P0 (txt (pre ++ [x])) = some (wl P0 pre ++ [x.2.data.toList]) := by
      rw [txt_snoc, Nm.way_snoc hway]
      exact Nm.way_part _ (by rw [← es.out]; exact q5) (by rw [← es.out]; exact q6) (by rw [← es.out]; exact q7)
    as_aux_lemma =>
    have Hw2 := Lib.hid hw2
    clear hw2
    have k1 : (wl P0 pre).length + 1 ≤ maxLen := by simp only [maxLen]; omega
    have k2 : ((wl P0 pre).length + 1) * 16 ≤ 140737488355328 := by omega
    have k3 : w1.heap.size ≤ W.heap.size := by have := hbe.lt; omega
    have k4 : w1.heap.size ≤ (W.alloc (.cells #[.string x.2] 9)).heap.size := by simp; omega
    have K1 := Lib.hid k1
    have K2 := Lib.hid k2
    clear k1 k2
    gi_wp2_with (gi_at_builtin; refine append_at _ rfl _ _ 39 rfl w1.heap.size 9 i0 (.string ⟨#[]⟩) 1 16 Tryd.underlying39 hi0 hz0 hz1 hz2 rfl (by decide) _ _ _ rfl (hrow.alloc _) ⟨W.heap.size, 0, none⟩ 1 1 [.string x.2] rfl rfl (cell_one_new _ _ _) (by simp [Value.oneCell']) K1.out K2.out k4 ?_; intro v' w1' hown' hgrow hat; obtain ⟨g', cap', rfl⟩ := ownsRow_succ hown'; obtain ⟨hv1, hv2, hr2', hk2, hb2'⟩ := hv.appended (by decide) hrow k3 h12 hown' hgrow; have hc1' := hv1.cell; have hf1' := hv1.frozen)
    have e1 : wl P0 (pre ++ [x]) = wl P0 pre ++ [x.2.data.toList] := wl_of Hw2.out
    have g1 := ((hr1.alloc (.cells #[.string x.2] 9)).kept hgrow (fun e => by have := own_base hrow _ e.symm; omega))
    have g2 := ((hr2.alloc (.cells #[.string x.2] 9)).kept hgrow (fun e => by have := own_base hrow _ e.symm; omega))
    have g3 := ((hbe.alloc (.cells #[.string x.2] 9)).kept hgrow (Ne.symm hvo))
    refine ⟨hk2, ((box_far g3 (by omega)).cell).trans hbe.cell.symm, ⟨_, hv2, ?_, by rw [e1]; exact Hw2.out, ?_⟩, box_far g1 (by omega), box_far g2 (by omega), box_far g3 (by omega), hB.trans (hb2'.mono (by omega))⟩
    · rw [e1, rowV_snoc, List.length_append]
      exact hr2'
    · have hlt := hbe.lt
      rcases hat with hat | hat
      · rw [hat]; exact hvo
      · rw [hat, World.size_alloc]
        intro e
        injection e with e
        omega
  case done =>
    rintro D ys W hD rfl ⟨⟨v, hv, hrow, hway, hvo⟩, hr1, hr2, hbe, hB⟩ hK
    obtain ⟨A, c, rfl, hAc⟩ := Jn.own_slice hrow
    have hc1 := hv.cell
    rw [txt_all] at hway
    have hld : Nm.lead p.data.toList q.data.toList = (Nm.joinT (wl P0 (piecesB 0 q.data.toList)), 0) := by
      rw [Hlead.out, HP.out, hway]
      rfl
    have hlw : Nm.totL (wl P0 (piecesB 0 q.data.toList)) ≤ 1048576 := by
      have h1 := Nm.way_tot _ _ _ hway
      have h2 : Nm.totL P0 ≤ p.data.toList.length + 1 := by rw [← HP.out, ← Nm.totL_texts]; exact Nm.totL_dropLast _
      rw [Nm.totL_texts] at h1
      have h3 := Sp.len_eq p
      omega
    have hll : (wl P0 (piecesB 0 q.data.toList)).length ≤ 1048576 := Nat.le_trans (len_tot _) hlw
    generalize wl P0 (piecesB 0 q.data.toList) = L at *
    gi_wp2_with fail
    refine ⟨trivial, ?_⟩
    refine (callsIn_wide.2 (join_own hrow (by omega) (by omega))).mono ?_
    rintro e w4 ⟨rfl, hBj⟩
    have hr1 := box_below hr1 hBj
    have hr2 := box_below hr2 hBj
    have hK4 : w4.heap[D]? = some (.deferred (some [])) := (hBj.block D (Array.getElem?_eq_some_iff.1 hK).1).trans hK
    have c1 := hr1.cell
    have f1 := hr1.frozen
    have c2 := hr2.cell
    have f2 := hr2.frozen
    have hB5 := hB.trans (hBj.mono hB.size)
    gi_wp2_with fail
    have hK' := (keeps_two w4 w.heap.size (.string (bytesOfL (Nm.joinT L))) (.int .i64 0)).same D _ hK4 rfl
    obtain ⟨r1, r2⟩ := two_box w4 w.heap.size (v1 := .string (bytesOfL (Nm.joinT L))) (v2 := .int .i64 0) hr1 hr2
    refine ⟨by simp, .inl ⟨_, _, rfl, run_takeDeferred hK', ?_⟩⟩
    have hc5 := cell_kept r1.cell (grownBy_putObj' _ D (.deferred none)) (fun r e => by cases e; exact ⟨_, hK', rfl⟩)
    have hc6 := cell_kept r2.cell (grownBy_putObj' _ D (.deferred none)) (fun r e => by cases e; exact ⟨_, hK', rfl⟩)
    refine ⟨.tuple #[.string (bytesOfL (Nm.joinT L)), .int .i64 0], ?_, by rw [hld]; rfl, (below_two w4 _ _ hB5).trans (belowK_b (w := w) (Nat.le_refl _) _ D _ _ (by omega) hK' rfl rfl)⟩
    simp [results, Tryd.f8, go_sem, hc5, hc6]
  case stop =>
    rintro D c pre W hD hpre ⟨⟨rfl, hway⟩, hr1, hr2, hB⟩ hK
    have hld : Nm.lead p.data.toList q.data.toList = ([], 83) := by
      obtain ⟨r, hr⟩ := hpre
      have : Nm.way P0 (Nm.texts q.data.toList) = none := by
        rw [← txt_all, ← hr]
        have e : txt (pre ++ r) = txt pre ++ txt r := by simp [txt]
        rw [e]
        exact Nm.way_none_prefix hway
      rw [Hlead.out, HP.out, this]
      rfl
    gi_wp2_with fail
    refine ⟨by simp, .inl ⟨_, _, rfl, run_takeDeferred hK, ?_⟩⟩
    have hc5 := cell_kept hr1.cell (grownBy_putObj' _ D (.deferred none)) (fun r e => by cases e; exact ⟨_, hK, rfl⟩)
    have hc6 := cell_kept hr2.cell (grownBy_putObj' _ D (.deferred none)) (fun r e => by cases e; exact ⟨_, hK, rfl⟩)
    refine ⟨.tuple #[.string ⟨#[]⟩, .int .i64 83], ?_, by rw [hld]; rfl, hB.trans (belowK_b (w := w) (Nat.le_refl _) W D _ _ (by omega) hK rfl rfl)⟩
    simp [results, Tryd.f8, go_sem, hc5, hc6]

/-- **name.Lead, at every two texts.** -/
theorem lead_any (p q : ByteArray) (w : World) :
    Calls Tryd.prog 8 #[.string p, .string q] w fun e_ w' => e_ = .returned (.tuple #[.string (bytesOfL (Nm.lead p.data.toList q.data.toList).1), .int .i64 ((Nm.lead p.data.toList q.data.toList).2 : Int)]) ∧ Below w.heap.size w w' := by
  by_cases h : (Nm.check p.data.toList).2 = 0
  · exact lead_walk p q h w
  · have e : Nm.lead p.data.toList q.data.toList = ([], (Nm.check p.data.toList).2) := by simp only [Nm.lead, h, ne_eq, not_false_eq_true, if_true]
    rw [e]
    exact lead_bad p q _ rfl h w
end Go.Proofs.YtnceocjgcdcpgaaDoor.LeadW
