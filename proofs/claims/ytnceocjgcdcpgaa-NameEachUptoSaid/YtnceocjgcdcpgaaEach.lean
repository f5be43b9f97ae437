/- NameEach: the law's walk: two ranges over name.Each, the first broken off. -/
import Derived.Test.YtnceocjgcdcpgaaPureB
namespace Go.Proofs.Ytnceocjgcdcpgaa.EachW
open Go.RowKit Go.Shelf Go.Proofs.Ytnceocjgcdcpgaa
open Go.Proofs.Ytnceocjgcdcpgaa.X Go.Proofs.YtnceocjgcdcpgaaW.PrintWords Go.Proofs.YtnceocjgcdcpgaaW.PrintLast Go.Proofs.YtnceocjgcdcpgaaW.PrintMore
attribute [local go_sem] Oper.semAt_some

/-- The reference's pieces in memory. -/
def Row (W : World) (g : Nat) (l : List (Nat × List UInt8)) : Prop :=
  ∀ j (h : j < l.length), W.cell? ⟨g, j * 2, none⟩ = some (.int .i64 (l[j].1 : Int)) ∧ W.cell? ⟨g, j * 2 + 1, none⟩ = some (.string (bytesOfL l[j].2))
theorem Row.kept {A B : World} {g : Nat} {l : List (Nat × List UInt8)} {row : Option Nat} (h : Row A g l) (hg : A.grownBy B row) (hr : ∀ r, row = some r → ∃ o : Obj, A.heap[r]? = some o ∧ o.isCells = false) : Row B g l :=
  fun j hj => ⟨cell_kept (h j hj).1 hg hr, cell_kept (h j hj).2 hg hr⟩
theorem Row.set {A : World} {g b : Nat} {l : List (Nat × List UInt8)} (h : Row A g l) (hb : b ≠ g) (v : Value) : Row (A.setCell ⟨b, 0, none⟩ v) g l :=
  fun j hj => ⟨(World.cell?_setCell_far A ⟨b, 0, none⟩ _ v hb).trans (h j hj).1, (World.cell?_setCell_far A ⟨b, 0, none⟩ _ v hb).trans (h j hj).2⟩
theorem Row.alloc {A : World} {g : Nat} {l : List (Nat × List UInt8)} (h : Row A g l) (o : Obj) : Row (A.alloc o) g l :=
  fun j hj => ⟨cell_alloc_l o (h j hj).1, cell_alloc_l o (h j hj).2⟩

/-- The reference's Pieces at a text: a row of its own. -/
theorem pieces_calls (p : ByteArray) (hp : p.size ≤ 1099511627776) (w : World) :
    Calls Try.prog 9 #[.string p] w fun e w' => ∃ (g cap : Nat), e = .returned (.slice (some ⟨g, 0, none⟩) (Nm.pieces 0 p.data.toList).length cap) ∧ w.heap.size ≤ g ∧ g < w'.heap.size ∧ Row w' g (Nm.pieces 0 p.data.toList) ∧ Below w.heap.size w w' := by
  obtain ⟨k, h⟩ := (Pure.pieces_ev p hp).rounds
  refine (X.tabularyref08_Pieces.calls k p _ w h).mono ?_
  rintro e w' ⟨v, rfl, hR, hB⟩
  have hlen : 0 < (List.map Pure.toS (Nm.pieces 0 p.data.toList)).length := by simp [Nm.pieces]
  obtain ⟨g, cap, rfl, h1, h2, _⟩ := Kd.R_form hR hlen
  have hC := (Kd.R_reads' hR).2.2
  refine ⟨g, cap, by simp, h1, h2, fun j hj => ?_, hB⟩
  obtain ⟨ad, e, c1, c2⟩ := at_T28 hC (j : Int) (by omega) (by simpa using hj)
  obtain rfl := Option.some.inj e
  rw [Pure.rd_map _ j hj] at c1 c2
  rw [Int.toNat_natCast, add_plain] at c1 c2
  exact ⟨c1, c2⟩

/-- What the law's own variables hold: the boxes a (stop), a + 1 (the result), b (want), b + 2 (n). -/
structure Inv (a b g cap : Nat) (l : List (Nat × List UInt8)) (stop : Int) (n : Int) (W : World) : Prop where
  s : W.cell? ⟨a, 0, none⟩ = some (.int .i64 stop)
  r : W.cell? ⟨a + 1, 0, none⟩ = some (.bool false)
  fr : W.frozen? ⟨a + 1, 0, none⟩ = false
  c : W.cell? ⟨b, 0, none⟩ = some (.slice (some ⟨g, 0, none⟩) l.length cap)
  n : W.cell? ⟨b + 1 + 1, 0, none⟩ = some (.int .i64 n)
  fn : W.frozen? ⟨b + 1 + 1, 0, none⟩ = false
  row : Row W g l
variable {a b g cap : Nat} {l : List (Nat × List UInt8)} {stop n : Int}
theorem Inv.kept {A B : World} {row : Option Nat} (h : Inv a b g cap l stop n A) (hg : A.grownBy B row) (hr : ∀ r, row = some r → ∃ o : Obj, A.heap[r]? = some o ∧ o.isCells = false) : Inv a b g cap l stop n B :=
  ⟨cell_kept h.s hg hr, cell_kept h.r hg hr, (frozen_kept h.r hg hr).trans h.fr, cell_kept h.c hg hr, cell_kept h.n hg hr, (frozen_kept h.n hg hr).trans h.fn, h.row.kept hg hr⟩
theorem Inv.set {A : World} (h : Inv a b g cap l stop n A) (h1 : a + 2 ≤ g) (h2 : g < b) (m : Int) : Inv a b g cap l stop m (A.setCell ⟨b + 1 + 1, 0, none⟩ (.int .i64 m)) :=
  ⟨(World.cell?_setCell_far A ⟨b + 1 + 1, 0, none⟩ _ _ (by simp; omega)).trans h.s, (World.cell?_setCell_far A ⟨b + 1 + 1, 0, none⟩ _ _ (by simp; omega)).trans h.r, (World.frozen?_setCell _ _ _ _).trans h.fr, (World.cell?_setCell_far A ⟨b + 1 + 1, 0, none⟩ _ _ (by simp; omega)).trans h.c,
   World.cell?_setCell_same' _ _ _ (by rw [h.n]; rfl), (World.frozen?_setCell _ _ _ _).trans h.fn, h.row.set (by omega) _⟩

/-- One piece more has come as it should. -/
theorem pre_iff {l : List UInt8} {pre : List (Nat × ByteArray)} {x : Nat × ByteArray} {y1 : Int} {z : ByteArray} (h : pre <+: piecesB 0 l) (hj : pre.length < (Nm.pieces 0 l).length)
    (hy : y1 = ((Nm.pieces 0 l)[pre.length].1 : Int)) (hz : z = bytesOfL (Nm.pieces 0 l)[pre.length].2) : pre ++ [x] <+: piecesB 0 l ↔ y1 = (x.1 : Int) ∧ z.toList = x.2.toList := by
  obtain ⟨r, hr⟩ := h
  have hlen : pre.length < (piecesB 0 l).length := by simpa [piecesB] using hj
  have hg : (piecesB 0 l)[pre.length] = ((Nm.pieces 0 l)[pre.length].1, bytesOfL (Nm.pieces 0 l)[pre.length].2) := by simp [piecesB]
  cases r with
  | nil => rw [← hr, List.append_nil] at hlen; omega
  | cons q r =>
    have hq : (piecesB 0 l)[pre.length] = q := by simp [← hr]
    rw [hg] at hq
    constructor
    · rintro ⟨s, hs⟩
      rw [← hr, List.append_assoc] at hs
      have := List.append_cancel_left hs
      injection this with e1 _
      subst e1
      rw [hy, hz, ← hq]
      exact ⟨rfl, rfl⟩
    · rintro ⟨e1, e2⟩
      refine ⟨r, ?_⟩
      have e3 : z = x.2 := by
        rw [Pure.toList_eq, Pure.toList_eq] at e2
        exact ByteArray.ext (Array.toList_inj.1 e2)
      have : x = q := by
        rw [← hq]
        refine Prod.ext ?_ ?_
        · simp only; omega
        · simp only; rw [← hz, e3]
      rw [this, ← hr]; simp

set_option maxRecDepth 100000 in
set_option maxHeartbeats 4000000 in
theorem each_walk (p : ByteArray) (stop : Int) (hp : p.size ≤ 1048576) (w : World) :
    Calls Try.prog 3 #[.string p, .int .i64 stop] w fun e w' => e = .returned (.bool true) ∧ Below w.heap.size w w' := by
  refine (callsIn_wide (n := 3)).1 ?_
  refine callsIn_of_wp_marks Try.func3 rfl trivial ?_ rfl
  simp only [Try.ntmps3, List.size_toArray, List.length_cons, List.length_nil, Nat.reduceAdd, Nat.reduceSub, Array.replicate_succ, Array.replicate_zero, List.push_toArray, List.append_toArray, List.nil_append, List.cons_append]
  gi_wp2_with fail
  refine ⟨trivial, ?_⟩
  refine (callsIn_wide.2 (pieces_calls p (by omega) _)).mono ?_
  rintro e w1 ⟨g, cap, rfl, hg1, hg2, hrow, hB1⟩
  gi_wp2_with fail
  refine ⟨trivial, ?_⟩
  refine (callsIn_wide.2 (each_any _ _)).mono ?_
  rintro e w2 ⟨rfl, rfl⟩
  have hfn := fun (wx : World) => run_eql_func_nil (P := Try.prog) wx (.func 23) #[] #[.pointer (some ⟨w1.heap.size + 1, 0, none⟩)] Try.underlying25
  gi_wp2_with fail
  have hl : (Nm.pieces 0 p.data.toList).length ≤ 1048577 := by
    have := Nm.pieces_length p.data.toList 0
    rw [Pure.len_eq] at this
    omega
  have c1 := cell_new_l w (.int .i64 stop) 3
  have c2 := cell_new_l (w.alloc (.cells #[.int .i64 stop] 3)) (.bool false) 4
  rw [World.size_alloc] at c2
  have hz : (((w.alloc (.cells #[.int .i64 stop] 3)).alloc (.cells #[.bool false] 4))).heap.size = w.heap.size + 2 := by simp
  have hga : w.heap.size + 2 ≤ g := by simpa using hg1
  have k1 := (hB1.cell (p := ⟨w.heap.size, 0, none⟩) (by rw [hz]; show w.heap.size < _; omega)).trans (cell_alloc_l (.cells #[.bool false] 4) c1.1)
  have k2 := (hB1.cell (p := ⟨w.heap.size + 1, 0, none⟩) (by rw [hz]; show w.heap.size + 1 < _; omega)).trans c2.1
  have k3 := (hB1.frozen (p := ⟨w.heap.size + 1, 0, none⟩) (by rw [hz]; show w.heap.size + 1 < _; omega)).trans c2.2
  have d1 := cell_new_l w1 (.slice (some ⟨g, 0, none⟩) (Nm.pieces 0 p.data.toList).length cap) 22
  have d2 := cell_new_l (w1.alloc (.cells #[.slice (some ⟨g, 0, none⟩) (Nm.pieces 0 p.data.toList).length cap] 22)) (.string p) 9
  have d3 := cell_new_l ((w1.alloc (.cells #[.slice (some ⟨g, 0, none⟩) (Nm.pieces 0 p.data.toList).length cap] 22)).alloc (.cells #[.string p] 9)) (.int .i64 0) 3
  simp only [World.size_alloc] at d2 d3
  have hI0 : Inv w.heap.size w1.heap.size g cap (Nm.pieces 0 p.data.toList) stop 0 (((w1.alloc (.cells #[.slice (some ⟨g, 0, none⟩) (Nm.pieces 0 p.data.toList).length cap] 22)).alloc (.cells #[.string p] 9)).alloc (.cells #[.int .i64 0] 3)) :=
    ⟨cell_alloc_l _ (cell_alloc_l _ (cell_alloc_l _ k1)), cell_alloc_l _ (cell_alloc_l _ (cell_alloc_l _ k2)), frozen_alloc_l _ (cell_alloc_l _ (cell_alloc_l _ k2)) (frozen_alloc_l _ (cell_alloc_l _ k2) (frozen_alloc_l _ k2 k3)),
     cell_alloc_l _ (cell_alloc_l _ d1.1), d3.1, d3.2, ((hrow.alloc _).alloc _).alloc _⟩
  have hbw : Below w.heap.size w w1 := (((Below.refl _ w).alloc (Nat.le_refl _) (.cells #[.int .i64 stop] 3)).alloc (by simp) (.cells #[.bool false] 4)).trans (hB1.mono (by simp; omega))
  have hB0 : Below w.heap.size w (((w1.alloc (.cells #[.slice (some ⟨g, 0, none⟩) (Nm.pieces 0 p.data.toList).length cap] 22)).alloc (.cells #[.string p] 9)).alloc (.cells #[.int .i64 0] 3)) :=
    ((hbw.alloc (by omega) _).alloc (by simp; omega) _).alloc (by simp; omega) _
  have hbx : (((w1.alloc (.cells #[.slice (some ⟨g, 0, none⟩) (Nm.pieces 0 p.data.toList).length cap] 22)).alloc (.cells #[.string p] 9)).alloc (.cells #[.int .i64 0] 3)).cell? ⟨w1.heap.size + 1, 0, none⟩ = some (.string p) :=
    cell_alloc_l _ d2.1
  clear c1 c2 k1 k2 k3 d1 d2 d3 hz hrow hB1 hg1
  have hlen2 : (piecesB 0 p.data.toList).length = (Nm.pieces 0 p.data.toList).length := by simp [piecesB]
  refine wpIn_rangeFunc_ownF rfl (by omega) (gf := 23) (lb := #[.pointer (some ⟨w1.heap.size + 1, 0, none⟩)]) rfl trivial (enters_of Try.func23 (by kernel_rfl) rfl)
    (each_stops (3 - 1) (by omega) (w1.heap.size + 1) p (by omega) _ (by simp) hbx) box_t (box_b (by simp)) (Below.refl _ _) (fun _ => rfl)
    (fun pre W => (Inv w.heap.size w1.heap.size g cap (Nm.pieces 0 p.data.toList) stop (pre.length : Int) W ∧ pre <+: piecesB 0 p.data.toList) ∧ Below w.heap.size w W ∧ w1.heap.size + 3 ≤ W.heap.size ∧ W.cell? ⟨w1.heap.size + 1, 0, none⟩ = some (.string p))
    (fun c pre W => ((c = .ret ∧ ¬ pre <+: piecesB 0 p.data.toList) ∨ (c = .exit 0 ∧ Inv w.heap.size w1.heap.size g cap (Nm.pieces 0 p.data.toList) stop (pre.length : Int) W ∧ (pre.length : Int) = stop)) ∧ Below w.heap.size w W ∧ w1.heap.size + 3 ≤ W.heap.size ∧ W.cell? ⟨w1.heap.size + 1, 0, none⟩ = some (.string p))
    (OwnFrom.and (Own.from (fun s A B row hs hg hr => ⟨hs.1.kept hg hr, hs.2⟩) _) (OwnFrom.and (ownFrom_below (Nat.le_refl _) (by simp; omega)) (Own.from (fun s A B row hs hg hr => ⟨Nat.le_trans hs.1 hg.size, cell_kept hs.2 hg hr⟩) _)))
    (fun c => OwnFrom.and (Own.from (fun s A B row hs hg hr => hs.imp id (fun h => ⟨h.1, h.2.1.kept hg hr, h.2.2⟩)) _) (OwnFrom.and (ownFrom_below (Nat.le_refl _) (by simp; omega)) (Own.from (fun s A B row hs hg hr => ⟨Nat.le_trans hs.1 hg.size, cell_kept hs.2 hg hr⟩) _)))
    ⟨⟨hI0, List.nil_prefix⟩, hB0, by simp, hbx⟩
    (fun x => { tmps := #[.string p, .int .i64 stop, undef, .pointer (some ⟨w.heap.size, 0, none⟩), .pointer (some ⟨w.heap.size + 1, 0, none⟩), .pointer (some ⟨w1.heap.size, 0, none⟩), .func (.func 23) #[] #[.pointer (some ⟨w1.heap.size + 1, 0, none⟩)], .pointer (some ⟨w1.heap.size + 1 + 1, 0, none⟩), .int .i64 (x.1 : Int), .string x.2, undef, undef, .string p, .slice (some ⟨g, 0, none⟩) (Nm.pieces 0 p.data.toList).length cap, .string p, .func (.func 23) #[] #[.pointer (some ⟨w1.heap.size + 1, 0, none⟩)], .func (.func 23) #[] #[.pointer (some ⟨w1.heap.size + 1, 0, none⟩)], .bool false, .func (.func 23) #[] #[.pointer (some ⟨w1.heap.size + 1, 0, none⟩)], .int .i64 (x.1 : Int), .string x.2, undef, undef, undef, undef, undef, undef, undef, undef, undef, undef, undef, undef, undef, undef, undef, undef, undef, undef, undef, undef, undef, undef, undef, undef, undef, undef, undef, undef, undef, undef, undef, undef, undef, undef, undef, undef, undef, undef, undef, undef, undef, undef, undef, undef, undef, undef, undef, undef, undef, undef, undef, undef, undef, undef, undef, undef, undef, undef, undef, undef, undef, undef, undef, undef, undef, undef, undef], defers := [] }) ?assign ?body ?done ?stop
  case assign =>
    intro k x W K hK
    gi_wp2
    exact hK
  case body =>
    rintro k pre x W ⟨⟨hI, hpre⟩, hB, hBs, hbxW⟩ hlen
    have hj : pre.length < (Nm.pieces 0 p.data.toList).length := by simpa [piecesB] using hlen
    obtain ⟨r1, r2⟩ := hI.row pre.length hj
    obtain ⟨hs1, hs2, hs3, hs4, hs5, hs6, _⟩ := id hI
    obtain ⟨y1, hy1⟩ : ∃ y1 : Int, y1 = ((Nm.pieces 0 p.data.toList)[pre.length].1 : Int) := ⟨_, rfl⟩
    obtain ⟨z, hz⟩ : ∃ z, z = bytesOfL (Nm.pieces 0 p.data.toList)[pre.length].2 := ⟨_, rfl⟩
    rw [← hy1] at r1
    rw [← hz] at r2
    have hge : decide ((Nm.pieces 0 p.data.toList).length ≤ pre.length) = false := by simp; omega
    have Hy := Lib.hid hy1
    have Hz := Lib.hid hz
    have HI := Lib.hid hI
    have Hpre := Lib.hid hpre
    clear hy1 hz hpre hI
    by_cases e1 : y1 = (x.1 : Int)
    · by_cases e2 : z.toList = x.2.toList
      · have f1 : (y1 != (x.1 : Int)) = false := by simp [e1]
        have f2 : (z.toList == x.2.toList) = true := by simp [e2]
        have E1 := Lib.hid e1
        have E2 := Lib.hid e2
        clear e1 e2
        by_cases e3 : (pre.length : Int) + 1 = stop
        · have f3 : ((pre.length : Int) + 1 == stop) = true := by simp [e3]
          have E3 := Lib.hid e3
          clear e3
          gi_wp2
          exact ⟨KeepsOthers.setCell _ _ _, .inr ⟨rfl, by rw [List.length_append, List.length_singleton]; exact HI.out.set hga hg2 _, by rw [List.length_append, List.length_singleton]; exact E3.out⟩, hB.setCell (p := ⟨w1.heap.size + 1 + 1, 0, none⟩) (by simp; omega) _, by simpa using hBs, (World.cell?_setCell_far _ ⟨w1.heap.size + 1 + 1, 0, none⟩ _ _ (by simp; try omega)).trans hbxW⟩
        · have f3 : ((pre.length : Int) + 1 == stop) = false := by simp [e3]
          clear e3
          gi_wp2
          exact ⟨KeepsOthers.setCell _ _ _, World.cell?_setCell_far _ _ _ _ (by simp), ⟨by rw [List.length_append, List.length_singleton]; exact HI.out.set hga hg2 _, (pre_iff Hpre.out hj Hy.out Hz.out).2 ⟨E1.out, E2.out⟩⟩, hB.setCell (p := ⟨w1.heap.size + 1 + 1, 0, none⟩) (by simp; omega) _, by simpa using hBs, (World.cell?_setCell_far _ ⟨w1.heap.size + 1 + 1, 0, none⟩ _ _ (by simp; try omega)).trans hbxW⟩
      · have f1 : (y1 != (x.1 : Int)) = false := by simp [e1]
        have f2 : (z.toList == x.2.toList) = false := by simp [e2]
        have E2 := Lib.hid e2
        clear e1 e2
        gi_wp2
        exact ⟨KeepsOthers.setCell _ _ _, .inl ⟨rfl, fun h => E2.out ((pre_iff Hpre.out hj Hy.out Hz.out).1 h).2⟩, hB.setCell (p := ⟨w.heap.size + 1, 0, none⟩) (by simp) _, by simpa using hBs, (World.cell?_setCell_far _ ⟨w.heap.size + 1, 0, none⟩ _ _ (by simp; try omega)).trans hbxW⟩
    · have f1 : (y1 != (x.1 : Int)) = true := by simp [e1]
      have E1 := Lib.hid e1
      clear e1
      gi_wp2
      exact ⟨KeepsOthers.setCell _ _ _, .inl ⟨rfl, fun h => E1.out ((pre_iff Hpre.out hj Hy.out Hz.out).1 h).1⟩, hB.setCell (p := ⟨w.heap.size + 1, 0, none⟩) (by simp) _, by simpa using hBs, (World.cell?_setCell_far _ ⟨w.heap.size + 1, 0, none⟩ _ _ (by simp; try omega)).trans hbxW⟩
  case done =>
    rintro D ys W hD rfl ⟨⟨hI, _⟩, hB, hBs, hbxW⟩ hK
    obtain ⟨hs1, hs2, hs3, hs4, hs5, hs6, _⟩ := id hI
    rw [hlen2] at hs5
    have f1 : (((Nm.pieces 0 p.data.toList).length : Int) != ((Nm.pieces 0 p.data.toList).length : Int)) = false := by simp
    gi_wp2_with fail
    have hI2 := hI.set hga hg2 0
    have hB2 := hB.setCell (p := ⟨w1.heap.size + 1 + 1, 0, none⟩) (by simp; omega) (.int .i64 0)
    have hsz : W.heap.size = (W.setCell ⟨w1.heap.size + 1 + 1, 0, none⟩ (.int .i64 0)).heap.size := by simp
    have hWs := hBs
    have hbx2 : (W.setCell ⟨w1.heap.size + 1 + 1, 0, none⟩ (.int .i64 0)).cell? ⟨w1.heap.size + 1, 0, none⟩ = some (.string p) :=
      (World.cell?_setCell_far _ _ _ _ (by simp)).trans hbxW
    have hKs := (KeepsOthers.setCell W ⟨w1.heap.size + 1 + 1, 0, none⟩ (.int .i64 0)).same D _ hK rfl
    refine wpIn_rangeFunc_ownF rfl (by omega) (gf := 23) (lb := #[.pointer (some ⟨w1.heap.size + 1, 0, none⟩)]) rfl trivial (enters_of Try.func23 (by kernel_rfl) rfl)
      (each_stops (3 - 1) (by omega) (w1.heap.size + 1) p (by omega) _ (by simp at hWs ⊢; omega) hbx2) box_t (box_b (by simp at hWs ⊢; omega)) (Below.refl _ _) (fun _ => rfl)
      (fun pre W => (Inv w.heap.size w1.heap.size g cap (Nm.pieces 0 p.data.toList) stop (pre.length : Int) W ∧ pre <+: piecesB 0 p.data.toList) ∧ Below w.heap.size w W ∧ W.heap[D]? = some (.deferred (some [])))
      (fun c pre W => c = .ret ∧ ¬ pre <+: piecesB 0 p.data.toList)
      (OwnFrom.and (Own.from (fun s A B row hs hg hr => ⟨hs.1.kept hg hr, hs.2⟩) _) (OwnFrom.and (ownFrom_below (Nat.le_refl _) (by simp at hWs ⊢; omega)) (fun s A B row hs hg hr => (hg.block D (by have := (Array.getElem?_eq_some_iff.1 hs).1; exact this) (fun e => by have h1 := (hr D e.symm).1; have h2 := (Array.getElem?_eq_some_iff.1 hKs).1; omega)).trans hs)))
      (fun c s A B row hs hg hr => hs)
      ⟨⟨hI2, List.nil_prefix⟩, hB2, hKs⟩ ?a1d ?assignd ?bodyd ?doned ?stopd
    case assignd =>
      intro k x W K hK
      gi_wp2
      exact hK
    case bodyd =>
      rintro k pre x W ⟨⟨hI, hpre⟩, hB, hKD⟩ hlen
      have hj : pre.length < (Nm.pieces 0 p.data.toList).length := by simpa [piecesB] using hlen
      obtain ⟨r1, r2⟩ := hI.row pre.length hj
      obtain ⟨hs1, hs2, hs3, hs4, hs5, hs6, _⟩ := id hI
      obtain ⟨y1, hy1⟩ : ∃ y1 : Int, y1 = ((Nm.pieces 0 p.data.toList)[pre.length].1 : Int) := ⟨_, rfl⟩
      obtain ⟨z, hz⟩ : ∃ z, z = bytesOfL (Nm.pieces 0 p.data.toList)[pre.length].2 := ⟨_, rfl⟩
      rw [← hy1] at r1
      rw [← hz] at r2
      have hge : decide ((Nm.pieces 0 p.data.toList).length ≤ pre.length) = false := by simp; omega
      have Hy := Lib.hid hy1
      have Hz := Lib.hid hz
      have HI := Lib.hid hI
      have Hpre := Lib.hid hpre
      have HK := Lib.hid hKD
      have HKs := Lib.hid hKs
      have HK0 := Lib.hid hK
      clear hy1 hz hpre hI hKD hKs hK hsz
      by_cases e1 : y1 = (x.1 : Int)
      · by_cases e2 : z.toList = x.2.toList
        · have f1 : (y1 != (x.1 : Int)) = false := by simp [e1]
          have f2 : (z.toList == x.2.toList) = true := by simp [e2]
          have E1 := Lib.hid e1
          have E2 := Lib.hid e2
          clear e1 e2
          gi_wp2
          exact ⟨KeepsOthers.setCell _ _ _, World.cell?_setCell_far _ _ _ _ (by simp), ⟨by rw [List.length_append, List.length_singleton]; exact HI.out.set hga hg2 _, (pre_iff Hpre.out hj Hy.out Hz.out).2 ⟨E1.out, E2.out⟩⟩, hB.setCell (p := ⟨w1.heap.size + 1 + 1, 0, none⟩) (by simp; omega) _, (KeepsOthers.setCell W ⟨w1.heap.size + 1 + 1, 0, none⟩ _).same D _ HK.out rfl⟩
        · have f1 : (y1 != (x.1 : Int)) = false := by simp [e1]
          have f2 : (z.toList == x.2.toList) = false := by simp [e2]
          have E2 := Lib.hid e2
          clear e1 e2
          gi_wp2
          exact ⟨KeepsOthers.setCell _ _ _, rfl, fun h => E2.out ((pre_iff Hpre.out hj Hy.out Hz.out).1 h).2⟩
      · have f1 : (y1 != (x.1 : Int)) = true := by simp [e1]
        have E1 := Lib.hid e1
        clear e1
        gi_wp2
        exact ⟨KeepsOthers.setCell _ _ _, rfl, fun h => E1.out ((pre_iff Hpre.out hj Hy.out Hz.out).1 h).1⟩
    case doned =>
      rintro D2 ys W2 hD2 rfl ⟨⟨hI, _⟩, hB, hKD⟩ hK2
      obtain ⟨hs1, hs2, hs3, hs4, hs5, hs6, _⟩ := id hI
      rw [hlen2] at hs5
      have ft : (((Nm.pieces 0 p.data.toList).length : Int) == ((Nm.pieces 0 p.data.toList).length : Int)) = true := by simp
      gi_wp2_with fail
      have hKb := (KeepsOthers.setCell W2 ⟨w.heap.size + 1, 0, none⟩ (.bool true)).same D2 _ hK2 rfl
      have hKa := (KeepsOthers.setCell W2 ⟨w.heap.size + 1, 0, none⟩ (.bool true)).same D _ hKD rfl
      have hne : D2 ≠ D := fun e => by have h1 := (Array.getElem?_eq_some_iff.1 hKs).1; omega
      have hKa2 := (World.putObj_heap_other (w := W2.setCell ⟨w.heap.size + 1, 0, none⟩ (.bool true)) (o := .deferred none) (Ne.symm hne)).trans hKa
      refine ⟨by simp, .inl ⟨_, _, rfl, run_takeDeferred hKb, ⟨by simp, .inl ⟨_, _, rfl, run_takeDeferred hKa2, ?_⟩⟩⟩⟩
      have hr0 := World.cell?_setCell_same' W2 ⟨w.heap.size + 1, 0, none⟩ (.bool true) (by rw [hs2]; rfl)
      have hr1 := cell_kept hr0 (grownBy_putObj' _ D2 (.deferred none)) (fun r e => by cases e; exact ⟨_, hKb, rfl⟩)
      have hr2 := cell_kept hr1 (grownBy_putObj' _ D (.deferred none)) (fun r e => by cases e; exact ⟨_, hKa2, rfl⟩)
      have hDw : w.heap.size ≤ D := by have := hB0.size; omega
      refine ⟨.bool true, ?_, rfl, ((hB.setCell (p := ⟨w.heap.size + 1, 0, none⟩) (by simp) _).trans (belowK_b (w := w) (Nat.le_refl _) _ D2 _ _ (by have h1 := (Array.getElem?_eq_some_iff.1 hKs).1; omega) hKb rfl rfl)).trans (belowK_b (w := w) (Nat.le_refl _) _ D _ _ hDw hKa2 rfl rfl)⟩
      simp [results, Try.f3, go_sem, hr2]
    case stopd =>
      rintro D2 c pre W2 _ hpre ⟨_, hn⟩ _
      exact absurd hpre hn
  case stop =>
    rintro D c pre W hD hpre ⟨⟨rfl, hn⟩ | ⟨rfl, hI, hst⟩, hB, hBs, hbxW⟩ hK
    · exact absurd hpre hn
    · obtain ⟨hs1, hs2, hs3, hs4, hs5, hs6, _⟩ := id hI
      rw [hst] at hs5
      have f1 : (stop != stop) = false := by simp
      by_cases e : stop = ((Nm.pieces 0 p.data.toList).length : Int)
      · have f2 : (stop != ((Nm.pieces 0 p.data.toList).length : Int)) = false := by simp [e]
        clear e
        gi_wp2_with fail
        have hI2 := hI.set hga hg2 0
        have hB2 := hB.setCell (p := ⟨w1.heap.size + 1 + 1, 0, none⟩) (by simp; omega) (.int .i64 0)
        have hsz : W.heap.size = (W.setCell ⟨w1.heap.size + 1 + 1, 0, none⟩ (.int .i64 0)).heap.size := by simp
        have hWs := hBs
        have hbx2 : (W.setCell ⟨w1.heap.size + 1 + 1, 0, none⟩ (.int .i64 0)).cell? ⟨w1.heap.size + 1, 0, none⟩ = some (.string p) :=
          (World.cell?_setCell_far _ _ _ _ (by simp)).trans hbxW
        have hKs := (KeepsOthers.setCell W ⟨w1.heap.size + 1 + 1, 0, none⟩ (.int .i64 0)).same D _ hK rfl
        refine wpIn_rangeFunc_ownF rfl (by omega) (gf := 23) (lb := #[.pointer (some ⟨w1.heap.size + 1, 0, none⟩)]) rfl trivial (enters_of Try.func23 (by kernel_rfl) rfl)
          (each_stops (3 - 1) (by omega) (w1.heap.size + 1) p (by omega) _ (by simp at hWs ⊢; omega) hbx2) box_t (box_b (by simp at hWs ⊢; omega)) (Below.refl _ _) (fun _ => rfl)
          (fun pre W => (Inv w.heap.size w1.heap.size g cap (Nm.pieces 0 p.data.toList) stop (pre.length : Int) W ∧ pre <+: piecesB 0 p.data.toList) ∧ Below w.heap.size w W ∧ W.heap[D]? = some (.deferred (some [])))
          (fun c pre W => c = .ret ∧ ¬ pre <+: piecesB 0 p.data.toList)
          (OwnFrom.and (Own.from (fun s A B row hs hg hr => ⟨hs.1.kept hg hr, hs.2⟩) _) (OwnFrom.and (ownFrom_below (Nat.le_refl _) (by simp at hWs ⊢; omega)) (fun s A B row hs hg hr => (hg.block D (by have := (Array.getElem?_eq_some_iff.1 hs).1; exact this) (fun e => by have h1 := (hr D e.symm).1; have h2 := (Array.getElem?_eq_some_iff.1 hKs).1; omega)).trans hs)))
          (fun c s A B row hs hg hr => hs)
          ⟨⟨hI2, List.nil_prefix⟩, hB2, hKs⟩ ?a1s ?assigns ?bodys ?dones ?stops
        case assigns =>
          intro k x W K hK
          gi_wp2
          exact hK
        case bodys =>
          rintro k pre x W ⟨⟨hI, hpre⟩, hB, hKD⟩ hlen
          have hj : pre.length < (Nm.pieces 0 p.data.toList).length := by simpa [piecesB] using hlen
          obtain ⟨r1, r2⟩ := hI.row pre.length hj
          obtain ⟨hs1, hs2, hs3, hs4, hs5, hs6, _⟩ := id hI
          obtain ⟨y1, hy1⟩ : ∃ y1 : Int, y1 = ((Nm.pieces 0 p.data.toList)[pre.length].1 : Int) := ⟨_, rfl⟩
          obtain ⟨z, hz⟩ : ∃ z, z = bytesOfL (Nm.pieces 0 p.data.toList)[pre.length].2 := ⟨_, rfl⟩
          rw [← hy1] at r1
          rw [← hz] at r2
          have hge : decide ((Nm.pieces 0 p.data.toList).length ≤ pre.length) = false := by simp; omega
          have Hy := Lib.hid hy1
          have Hz := Lib.hid hz
          have HI := Lib.hid hI
          have Hpre := Lib.hid hpre
          have HK := Lib.hid hKD
          have HKs := Lib.hid hKs
          have HK0 := Lib.hid hK
          clear hy1 hz hpre hI hKD hKs hK hsz
          by_cases e1 : y1 = (x.1 : Int)
          · by_cases e2 : z.toList = x.2.toList
            · have f1 : (y1 != (x.1 : Int)) = false := by simp [e1]
              have f2 : (z.toList == x.2.toList) = true := by simp [e2]
              have E1 := Lib.hid e1
              have E2 := Lib.hid e2
              clear e1 e2
              gi_wp2
              exact ⟨KeepsOthers.setCell _ _ _, World.cell?_setCell_far _ _ _ _ (by simp), ⟨by rw [List.length_append, List.length_singleton]; exact HI.out.set hga hg2 _, (pre_iff Hpre.out hj Hy.out Hz.out).2 ⟨E1.out, E2.out⟩⟩, hB.setCell (p := ⟨w1.heap.size + 1 + 1, 0, none⟩) (by simp; omega) _, (KeepsOthers.setCell W ⟨w1.heap.size + 1 + 1, 0, none⟩ _).same D _ HK.out rfl⟩
            · have f1 : (y1 != (x.1 : Int)) = false := by simp [e1]
              have f2 : (z.toList == x.2.toList) = false := by simp [e2]
              have E2 := Lib.hid e2
              clear e1 e2
              gi_wp2
              exact ⟨KeepsOthers.setCell _ _ _, rfl, fun h => E2.out ((pre_iff Hpre.out hj Hy.out Hz.out).1 h).2⟩
          · have f1 : (y1 != (x.1 : Int)) = true := by simp [e1]
            have E1 := Lib.hid e1
            clear e1
            gi_wp2
            exact ⟨KeepsOthers.setCell _ _ _, rfl, fun h => E1.out ((pre_iff Hpre.out hj Hy.out Hz.out).1 h).1⟩
        case dones =>
          rintro D2 ys W2 hD2 rfl ⟨⟨hI, _⟩, hB, hKD⟩ hK2
          obtain ⟨hs1, hs2, hs3, hs4, hs5, hs6, _⟩ := id hI
          rw [hlen2] at hs5
          have ft : (((Nm.pieces 0 p.data.toList).length : Int) == ((Nm.pieces 0 p.data.toList).length : Int)) = true := by simp
          gi_wp2_with fail
          have hKb := (KeepsOthers.setCell W2 ⟨w.heap.size + 1, 0, none⟩ (.bool true)).same D2 _ hK2 rfl
          have hKa := (KeepsOthers.setCell W2 ⟨w.heap.size + 1, 0, none⟩ (.bool true)).same D _ hKD rfl
          have hne : D2 ≠ D := fun e => by have h1 := (Array.getElem?_eq_some_iff.1 hKs).1; omega
          have hKa2 := (World.putObj_heap_other (w := W2.setCell ⟨w.heap.size + 1, 0, none⟩ (.bool true)) (o := .deferred none) (Ne.symm hne)).trans hKa
          refine ⟨by simp, .inl ⟨_, _, rfl, run_takeDeferred hKb, ⟨by simp, .inl ⟨_, _, rfl, run_takeDeferred hKa2, ?_⟩⟩⟩⟩
          have hr0 := World.cell?_setCell_same' W2 ⟨w.heap.size + 1, 0, none⟩ (.bool true) (by rw [hs2]; rfl)
          have hr1 := cell_kept hr0 (grownBy_putObj' _ D2 (.deferred none)) (fun r e => by cases e; exact ⟨_, hKb, rfl⟩)
          have hr2 := cell_kept hr1 (grownBy_putObj' _ D (.deferred none)) (fun r e => by cases e; exact ⟨_, hKa2, rfl⟩)
          have hDw : w.heap.size ≤ D := by have := hB0.size; omega
          refine ⟨.bool true, ?_, rfl, ((hB.setCell (p := ⟨w.heap.size + 1, 0, none⟩) (by simp) _).trans (belowK_b (w := w) (Nat.le_refl _) _ D2 _ _ (by have h1 := (Array.getElem?_eq_some_iff.1 hKs).1; omega) hKb rfl rfl)).trans (belowK_b (w := w) (Nat.le_refl _) _ D _ _ hDw hKa2 rfl rfl)⟩
          simp [results, Try.f3, go_sem, hr2]
        case stops =>
          rintro D2 c pre W2 _ hpre ⟨_, hn⟩ _
          exact absurd hpre hn
      · have f2 : (stop != ((Nm.pieces 0 p.data.toList).length : Int)) = true := by simp [e]
        clear e
        gi_wp2_with fail
        have hI2 := hI.set hga hg2 0
        have hB2 := hB.setCell (p := ⟨w1.heap.size + 1 + 1, 0, none⟩) (by simp; omega) (.int .i64 0)
        have hsz : W.heap.size = (W.setCell ⟨w1.heap.size + 1 + 1, 0, none⟩ (.int .i64 0)).heap.size := by simp
        have hWs := hBs
        have hbx2 : (W.setCell ⟨w1.heap.size + 1 + 1, 0, none⟩ (.int .i64 0)).cell? ⟨w1.heap.size + 1, 0, none⟩ = some (.string p) :=
          (World.cell?_setCell_far _ _ _ _ (by simp)).trans hbxW
        have hKs := (KeepsOthers.setCell W ⟨w1.heap.size + 1 + 1, 0, none⟩ (.int .i64 0)).same D _ hK rfl
        refine wpIn_rangeFunc_ownF rfl (by omega) (gf := 23) (lb := #[.pointer (some ⟨w1.heap.size + 1, 0, none⟩)]) rfl trivial (enters_of Try.func23 (by kernel_rfl) rfl)
          (each_stops (3 - 1) (by omega) (w1.heap.size + 1) p (by omega) _ (by simp at hWs ⊢; omega) hbx2) box_t (box_b (by simp at hWs ⊢; omega)) (Below.refl _ _) (fun _ => rfl)
          (fun pre W => (Inv w.heap.size w1.heap.size g cap (Nm.pieces 0 p.data.toList) stop (pre.length : Int) W ∧ pre <+: piecesB 0 p.data.toList) ∧ Below w.heap.size w W ∧ W.heap[D]? = some (.deferred (some [])))
          (fun c pre W => c = .ret ∧ ¬ pre <+: piecesB 0 p.data.toList)
          (OwnFrom.and (Own.from (fun s A B row hs hg hr => ⟨hs.1.kept hg hr, hs.2⟩) _) (OwnFrom.and (ownFrom_below (Nat.le_refl _) (by simp at hWs ⊢; omega)) (fun s A B row hs hg hr => (hg.block D (by have := (Array.getElem?_eq_some_iff.1 hs).1; exact this) (fun e => by have h1 := (hr D e.symm).1; have h2 := (Array.getElem?_eq_some_iff.1 hKs).1; omega)).trans hs)))
          (fun c s A B row hs hg hr => hs)
          ⟨⟨hI2, List.nil_prefix⟩, hB2, hKs⟩ ?a1t ?assignt ?bodyt ?donet ?stopt
        case assignt =>
          intro k x W K hK
          gi_wp2
          exact hK
        case bodyt =>
          rintro k pre x W ⟨⟨hI, hpre⟩, hB, hKD⟩ hlen
          have hj : pre.length < (Nm.pieces 0 p.data.toList).length := by simpa [piecesB] using hlen
          obtain ⟨r1, r2⟩ := hI.row pre.length hj
          obtain ⟨hs1, hs2, hs3, hs4, hs5, hs6, _⟩ := id hI
          obtain ⟨y1, hy1⟩ : ∃ y1 : Int, y1 = ((Nm.pieces 0 p.data.toList)[pre.length].1 : Int) := ⟨_, rfl⟩
          obtain ⟨z, hz⟩ : ∃ z, z = bytesOfL (Nm.pieces 0 p.data.toList)[pre.length].2 := ⟨_, rfl⟩
          rw [← hy1] at r1
          rw [← hz] at r2
          have hge : decide ((Nm.pieces 0 p.data.toList).length ≤ pre.length) = false := by simp; omega
          have Hy := Lib.hid hy1
          have Hz := Lib.hid hz
          have HI := Lib.hid hI
          have Hpre := Lib.hid hpre
          have HK := Lib.hid hKD
          have HKs := Lib.hid hKs
          have HK0 := Lib.hid hK
          clear hy1 hz hpre hI hKD hKs hK hsz
          by_cases e1 : y1 = (x.1 : Int)
          · by_cases e2 : z.toList = x.2.toList
            · have f1 : (y1 != (x.1 : Int)) = false := by simp [e1]
              have f2 : (z.toList == x.2.toList) = true := by simp [e2]
              have E1 := Lib.hid e1
              have E2 := Lib.hid e2
              clear e1 e2
              gi_wp2
              exact ⟨KeepsOthers.setCell _ _ _, World.cell?_setCell_far _ _ _ _ (by simp), ⟨by rw [List.length_append, List.length_singleton]; exact HI.out.set hga hg2 _, (pre_iff Hpre.out hj Hy.out Hz.out).2 ⟨E1.out, E2.out⟩⟩, hB.setCell (p := ⟨w1.heap.size + 1 + 1, 0, none⟩) (by simp; omega) _, (KeepsOthers.setCell W ⟨w1.heap.size + 1 + 1, 0, none⟩ _).same D _ HK.out rfl⟩
            · have f1 : (y1 != (x.1 : Int)) = false := by simp [e1]
              have f2 : (z.toList == x.2.toList) = false := by simp [e2]
              have E2 := Lib.hid e2
              clear e1 e2
              gi_wp2
              exact ⟨KeepsOthers.setCell _ _ _, rfl, fun h => E2.out ((pre_iff Hpre.out hj Hy.out Hz.out).1 h).2⟩
          · have f1 : (y1 != (x.1 : Int)) = true := by simp [e1]
            have E1 := Lib.hid e1
            clear e1
            gi_wp2
            exact ⟨KeepsOthers.setCell _ _ _, rfl, fun h => E1.out ((pre_iff Hpre.out hj Hy.out Hz.out).1 h).1⟩
        case donet =>
          rintro D2 ys W2 hD2 rfl ⟨⟨hI, _⟩, hB, hKD⟩ hK2
          obtain ⟨hs1, hs2, hs3, hs4, hs5, hs6, _⟩ := id hI
          rw [hlen2] at hs5
          have ft : (((Nm.pieces 0 p.data.toList).length : Int) == ((Nm.pieces 0 p.data.toList).length : Int)) = true := by simp
          gi_wp2_with fail
          have hKb := (KeepsOthers.setCell W2 ⟨w.heap.size + 1, 0, none⟩ (.bool true)).same D2 _ hK2 rfl
          have hKa := (KeepsOthers.setCell W2 ⟨w.heap.size + 1, 0, none⟩ (.bool true)).same D _ hKD rfl
          have hne : D2 ≠ D := fun e => by have h1 := (Array.getElem?_eq_some_iff.1 hKs).1; omega
          have hKa2 := (World.putObj_heap_other (w := W2.setCell ⟨w.heap.size + 1, 0, none⟩ (.bool true)) (o := .deferred none) (Ne.symm hne)).trans hKa
          refine ⟨by simp, .inl ⟨_, _, rfl, run_takeDeferred hKb, ⟨by simp, .inl ⟨_, _, rfl, run_takeDeferred hKa2, ?_⟩⟩⟩⟩
          have hr0 := World.cell?_setCell_same' W2 ⟨w.heap.size + 1, 0, none⟩ (.bool true) (by rw [hs2]; rfl)
          have hr1 := cell_kept hr0 (grownBy_putObj' _ D2 (.deferred none)) (fun r e => by cases e; exact ⟨_, hKb, rfl⟩)
          have hr2 := cell_kept hr1 (grownBy_putObj' _ D (.deferred none)) (fun r e => by cases e; exact ⟨_, hKa2, rfl⟩)
          have hDw : w.heap.size ≤ D := by have := hB0.size; omega
          refine ⟨.bool true, ?_, rfl, ((hB.setCell (p := ⟨w.heap.size + 1, 0, none⟩) (by simp) _).trans (belowK_b (w := w) (Nat.le_refl _) _ D2 _ _ (by have h1 := (Array.getElem?_eq_some_iff.1 hKs).1; omega) hKb rfl rfl)).trans (belowK_b (w := w) (Nat.le_refl _) _ D _ _ hDw hKa2 rfl rfl)⟩
          simp [results, Try.f3, go_sem, hr2]
        case stopt =>
          rintro D2 c pre W2 _ hpre ⟨_, hn⟩ _
          exact absurd hpre hn
end Go.Proofs.Ytnceocjgcdcpgaa.EachW
