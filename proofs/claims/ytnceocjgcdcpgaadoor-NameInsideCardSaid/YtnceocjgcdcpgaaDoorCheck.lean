/- The contract of name.Check: place and error of the first thing that is wrong with a path. -/
import Derived.Test.YtnceocjgcdcpgaaDoorIter
namespace Go.Proofs.YtnceocjgcdcpgaaDoor
open Go.RowKit Go.Shelf
attribute [local go_sem] Oper.semAt_some

def Box (Bn : Nat) (A B : World) : Prop := B.cell? ⟨Bn, 0, none⟩ = A.cell? ⟨Bn, 0, none⟩
theorem each_stops (n : Nat) (hn : 1 ≤ n) (Bn : Nat) (p : ByteArray) (hp : p.size ≤ 140737488355328) (w : World) (hb : Bn < w.heap.size) (hc : w.cell? ⟨Bn, 0, none⟩ = some (.string p)) :
    SeqStopsK Fence.wide n Tryd.prog 34 #[.pointer (some ⟨Bn, 0, none⟩)] pEnc (Box Bn) (fun xs => xs = piecesB 0 p.data.toList) (fun pre => pre <+: piecesB 0 p.data.toList) (piecesB 0 p.data.toList).length w :=
  fun l J Jx W hW _ _ hY h0 => each1_in n hn l Bn p hp J Jx hY W ((hW.cell (p := ⟨Bn, 0, none⟩) hb).trans hc) h0
theorem box_t {Bn : Nat} {A B C : World} (h : Box Bn A B) (k : Box Bn B C) : Box Bn A C := Eq.trans k h
theorem box_b {Bn : Nat} {w : World} (hb : Bn < w.heap.size) (W : World) (l : Nat) (o o' : Obj) (hl : w.heap.size ≤ l) (h : W.heap[l]? = some o) (_ : o.isCells = false) (_ : o.isWalk = false) : Box Bn W (W.putObj l o') :=
  (belowK_b (w := w) (Nat.le_refl _) W l o o' hl h ‹_› ‹_›).cell (p := ⟨Bn, 0, none⟩) hb

/-- name.Each: a closure over the text's box. -/
theorem each_any (p : ByteArray) (w : World) :
    Calls Tryd.prog 22 #[.string p] w fun e w' => e = .returned (.func (.func 34) #[] #[.pointer (some ⟨w.heap.size, 0, none⟩)]) ∧ w.alloc (.cells #[.string p] 9) = w' := by
  go_enter Tryd.func22, Tryd.ntmps22
  go_wp2
  go_ret
  exact ⟨rfl, rfl⟩

/-- What name.Check makes of the pieces: the first that is bad, its place reckoned as Go reckons. -/
def fbW : List (Nat × ByteArray) → Option (Int × Int)
  | [] => none
  | x :: r => match Nm.bad x.2.data.toList with
    | some (m, e) => some (if e = 82 then wrap64 ((x.1 : Int) + (m : Int)) else (x.1 : Int), (e : Int))
    | none => fbW r
theorem fbW_snoc_none {pre : List (Nat × ByteArray)} {x : Nat × ByteArray} (h : fbW pre = none) (hx : Nm.bad x.2.data.toList = none) : fbW (pre ++ [x]) = none := by
  induction pre with
  | nil => simp [fbW, hx]
  | cons y r ih =>
    simp only [fbW] at h
    cases hb : Nm.bad y.2.data.toList with
    | some z => rw [hb] at h; simp at h
    | none => rw [hb] at h; simp only [List.cons_append, fbW, hb]; exact ih h
theorem fbW_snoc_some {pre : List (Nat × ByteArray)} {x : Nat × ByteArray} {m e : Nat} (h : fbW pre = none) (hx : Nm.bad x.2.data.toList = some (m, e)) : fbW (pre ++ [x]) = some (if e = 82 then wrap64 ((x.1 : Int) + (m : Int)) else (x.1 : Int), (e : Int)) := by
  induction pre with
  | nil => simp [fbW, hx]
  | cons y r ih =>
    simp only [fbW] at h
    cases hb : Nm.bad y.2.data.toList with
    | some z => rw [hb] at h; simp at h
    | none => rw [hb] at h; simp only [List.cons_append, fbW, hb]; exact ih h
theorem fbW_snoc_nul {pre : List (Nat × ByteArray)} {x : Nat × ByteArray} {m : Nat} (h : fbW pre = none) (hx : Nm.bad x.2.data.toList = some (m, 82)) : fbW (pre ++ [x]) = some (wrap64 ((x.1 : Int) + (m : Int)), 82) := by
  have := fbW_snoc_some h hx
  rw [if_pos rfl] at this
  exact this
theorem fbW_prefix {pre l : List (Nat × ByteArray)} {y : Int × Int} (h : fbW pre = some y) (hp : pre <+: l) : fbW l = some y := by
  obtain ⟨r, rfl⟩ := hp
  induction pre with
  | nil => simp [fbW] at h
  | cons x s ih =>
    simp only [fbW] at h
    cases hb : Nm.bad x.2.data.toList with
    | some z => rw [hb] at h; simp only [List.cons_append, fbW, hb]; exact h
    | none => rw [hb] at h; simp only [List.cons_append, fbW, hb]; exact ih h


/-- The tests of a piece, as the walk asks them. -/
theorem bad_cases (l : List UInt8) :
    (l.isEmpty = true ∧ Nm.bad l = some (0, 80)) ∨
    (l.isEmpty = false ∧ decide (120 < (l.length : Int)) = true ∧ Nm.bad l = some (0, 2)) ∨
    (l.isEmpty = false ∧ decide (120 < (l.length : Int)) = false ∧ (l == [46]) = true ∧ Nm.bad l = some (0, 81)) ∨
    (l.isEmpty = false ∧ decide (120 < (l.length : Int)) = false ∧ (l == [46]) = false ∧ (l == [46, 46]) = true ∧ Nm.bad l = some (0, 81)) ∨
    (l.isEmpty = false ∧ decide (120 < (l.length : Int)) = false ∧ (l == [46]) = false ∧ (l == [46, 46]) = false ∧ (∃ m : Nat, Lib.indexByte l 0 = m ∧ Nm.bad l = some (m, 82))) ∨
    (l.isEmpty = false ∧ decide (120 < (l.length : Int)) = false ∧ (l == [46]) = false ∧ (l == [46, 46]) = false ∧ Lib.indexByte l 0 = -1 ∧ Nm.bad l = none) := by
  unfold Nm.bad
  by_cases h1 : l = []
  · left; simp [h1]
  · have e1 : l.isEmpty = false := by simpa using h1
    right
    rw [if_neg h1]
    by_cases h2 : 120 < l.length
    · left; rw [if_pos h2]; exact ⟨e1, by simp; omega, rfl⟩
    · right
      have e2 : decide (120 < (l.length : Int)) = false := by simp; omega
      rw [if_neg h2]
      by_cases h3 : l = [46]
      · left; subst h3; exact ⟨rfl, rfl, rfl, by simp⟩
      · right
        have e3 : (l == [46]) = false := by simpa using h3
        by_cases h4 : l = [46, 46]
        · left; subst h4; exact ⟨rfl, rfl, rfl, rfl, by simp⟩
        · right
          have e4 : (l == [46, 46]) = false := by simpa using h4
          rw [if_neg (by simp [h3, h4])]
          by_cases h5 : Lib.indexByte l 0 = -1
          · right; rw [h5]; exact ⟨e1, e2, e3, e4, rfl, by simp⟩
          · left
            have := Lib.indexByte_ge l 0
            refine ⟨e1, e2, e3, e4, (Lib.indexByte l 0).toNat, by omega, ?_⟩
            rw [if_pos (by omega)]

/-- Both results' boxes stored into. -/
theorem two_set (W : World) (b : Nat) {v1 v2 u1 u2 : Value} (h1 : W.cell? ⟨b, 0, none⟩ = some u1) (h2 : W.cell? ⟨b + 1, 0, none⟩ = some u2) :
    ((W.setCell ⟨b, 0, none⟩ v1).setCell ⟨b + 1, 0, none⟩ v2).cell? ⟨b, 0, none⟩ = some v1 ∧ ((W.setCell ⟨b, 0, none⟩ v1).setCell ⟨b + 1, 0, none⟩ v2).cell? ⟨b + 1, 0, none⟩ = some v2 := by
  constructor
  · rw [World.cell?_setCell_other _ _ _ _ (by intro e; injection e with e; omega)]
    exact World.cell?_setCell_same _ _ _ h1
  · refine World.cell?_setCell_same' _ _ _ ?_
    rw [World.cell?_setCell_other _ _ _ _ (by intro e; injection e with e; omega), h2]
    rfl
theorem keeps_two (W : World) (b : Nat) (v1 v2 : Value) : KeepsOthers W ((W.setCell ⟨b, 0, none⟩ v1).setCell ⟨b + 1, 0, none⟩ v2) := (KeepsOthers.setCell W _ _).trans (KeepsOthers.setCell _ _ _)
theorem below_two {w : World} (W : World) (v1 v2 : Value) (hB : Below w.heap.size w W) : Below w.heap.size w ((W.setCell ⟨w.heap.size, 0, none⟩ v1).setCell ⟨w.heap.size + 1, 0, none⟩ v2) :=
  (hB.setCell (p := ⟨w.heap.size, 0, none⟩) (Nat.le_refl _) _).setCell (p := ⟨w.heap.size + 1, 0, none⟩) (by simp) _

set_option maxRecDepth 100000 in
set_option maxHeartbeats 2000000 in
theorem check_walk (p : ByteArray) (hp : p.size ≤ 400) (w : World) :
    Calls Tryd.prog 13 #[.string p] w fun e w' => e = .returned (.tuple #[.int .i64 ((fbW (piecesB 0 p.data.toList)).getD (0, 0)).1, .int .i64 ((fbW (piecesB 0 p.data.toList)).getD (0, 0)).2]) ∧ Below w.heap.size w w' := by
  refine (callsIn_wide (n := 3)).1 ?_
  refine callsIn_of_wp_marks Tryd.func13 rfl trivial ?_ rfl
  simp only [Tryd.ntmps13, List.size_toArray, List.length_cons, List.length_nil, Nat.reduceAdd, Nat.reduceSub, Array.replicate_succ, Array.replicate_zero, List.push_toArray, List.append_toArray, List.nil_append, List.cons_append]
  gi_wp2_with (refine ⟨trivial, ?_⟩; gi_at_call 22; refine (callsIn_wide.2 (each_any _ _)).mono ?_; rintro e w' ⟨rfl, rfl⟩)
  have c0 := cell_new_l w (.int .i64 0) 3
  have c1 := cell_new_l (w.alloc (.cells #[.int .i64 0] 3)) (.int .i64 0) 22
  have c2 := cell_new_l ((w.alloc (.cells #[.int .i64 0] 3)).alloc (.cells #[.int .i64 0] 22)) (.string p) 9
  simp only [World.size_alloc] at c1 c2
  have hB0 : Below w.heap.size w (((w.alloc (.cells #[.int .i64 0] 3)).alloc (.cells #[.int .i64 0] 22)).alloc (.cells #[.string p] 9)) := (((Below.refl _ w).alloc (Nat.le_refl _) _).alloc (by simp) _).alloc (by simp; omega) _
  refine wpIn_rangeFunc_ownF rfl (by omega) (gf := 34) (lb := #[.pointer (some ⟨w.heap.size + 1 + 1, 0, none⟩)]) rfl trivial (enters_of Tryd.func34 (by kernel_rfl) rfl)
    (each_stops (3 - 1) (by omega) (w.heap.size + 1 + 1) p (by omega) _ (by simp) c2.1) box_t (box_b (by simp)) (Below.refl _ _) (fun _ => rfl)
    (fun pre W => (fbW pre = none ∧ W.cell? ⟨w.heap.size, 0, none⟩ = some (.int .i64 0) ∧ W.frozen? ⟨w.heap.size, 0, none⟩ = false ∧ W.cell? ⟨w.heap.size + 1, 0, none⟩ = some (.int .i64 0) ∧ W.frozen? ⟨w.heap.size + 1, 0, none⟩ = false) ∧ Below w.heap.size w W)
    (fun c pre W => (c = .ret ∧ ∃ y : Int × Int, fbW pre = some y ∧ W.cell? ⟨w.heap.size, 0, none⟩ = some (.int .i64 y.1) ∧ W.cell? ⟨w.heap.size + 1, 0, none⟩ = some (.int .i64 y.2)) ∧ Below w.heap.size w W)
    (OwnFrom.and (Own.from (fun s A B row hs hg hr => ⟨hs.1, cell_kept hs.2.1 hg hr, (frozen_kept hs.2.1 hg hr).trans hs.2.2.1, cell_kept hs.2.2.2.1 hg hr, (frozen_kept hs.2.2.2.1 hg hr).trans hs.2.2.2.2⟩) _) (ownFrom_below (Nat.le_refl _) (by simp; omega)))
    (fun c => OwnFrom.and (Own.from (fun s A B row hs hg hr => ⟨hs.1, hs.2.choose, hs.2.choose_spec.1, cell_kept hs.2.choose_spec.2.1 hg hr, cell_kept hs.2.choose_spec.2.2 hg hr⟩) _) (ownFrom_below (Nat.le_refl _) (by simp; omega)))
    ⟨⟨rfl, cell_alloc_l _ (cell_alloc_l _ c0.1), frozen_alloc_l _ (cell_alloc_l _ c0.1) (frozen_alloc_l _ c0.1 c0.2), cell_alloc_l _ c1.1, frozen_alloc_l _ c1.1 c1.2⟩, hB0⟩
    (fun x => { tmps := #[.string p, undef, .pointer (some ⟨w.heap.size, 0, none⟩), .pointer (some ⟨w.heap.size + 1, 0, none⟩), .int .i64 (x.1 : Int), .string x.2, undef, .string p, .int .i64 (p.size : Int), .bool (decide (400 < (p.size : Int))), .string p, .func (.func 34) #[] #[.pointer (some ⟨w.heap.size + 1 + 1, 0, none⟩)], .int .i64 (x.1 : Int), .string x.2, undef, undef, undef, undef, undef, undef, undef, undef, undef, undef, undef, undef, undef, undef, undef, undef, undef, undef, undef, undef, undef, undef, undef, undef], defers := [] }) ?assign ?body ?done ?stop
  case assign =>
    intro l x W K hK
    gi_wp2
    exact hK
  case body =>
    rintro l pre x W ⟨⟨hn, hc1, hf1, hc2, hf2⟩, hB⟩ _
    have Hn := Lib.hid hn
    clear hn
    have hN : 1 ≤ 3 - 1 - 1 := by decide
    have es : x.2.toList = x.2.data.toList := Lib.toList_data x.2
    have el : x.2.data.toList.length = x.2.size := by rw [Array.length_toList]; rfl
    rcases bad_cases x.2.data.toList with ⟨q1, hb⟩ | ⟨q1, q2, hb⟩ | ⟨q1, q2, q3, hb⟩ | ⟨q1, q2, q3, q4, hb⟩ | ⟨q1, q2, q3, q4, m, hm, hb⟩ | ⟨q1, q2, q3, q4, hm, hb⟩
    · as_aux_lemma =>
      have Hb := Lib.hid hb
      rw [← es] at q1
      clear hb es el
      gi_wp2
      exact ⟨keeps_two _ _ _ _, ⟨rfl, _, fbW_snoc_some Hn.out Hb.out, (two_set W w.heap.size hc1 hc2).1, (two_set W w.heap.size hc1 hc2).2⟩, below_two W _ _ hB⟩
    · as_aux_lemma =>
      have Hb := Lib.hid hb
      rw [el] at q2
      rw [← es] at q1
      clear hb es el
      gi_wp2
      exact ⟨keeps_two _ _ _ _, ⟨rfl, _, fbW_snoc_some Hn.out Hb.out, (two_set W w.heap.size hc1 hc2).1, (two_set W w.heap.size hc1 hc2).2⟩, below_two W _ _ hB⟩
    · as_aux_lemma =>
      have Hb := Lib.hid hb
      rw [el] at q2
      rw [← es] at q1 q3
      clear hb es el
      gi_wp2
      exact ⟨keeps_two _ _ _ _, ⟨rfl, _, fbW_snoc_some Hn.out Hb.out, (two_set W w.heap.size hc1 hc2).1, (two_set W w.heap.size hc1 hc2).2⟩, below_two W _ _ hB⟩
    · as_aux_lemma =>
      have Hb := Lib.hid hb
      rw [el] at q2
      rw [← es] at q1 q3 q4
      clear hb es el
      gi_wp2
      exact ⟨keeps_two _ _ _ _, ⟨rfl, _, fbW_snoc_some Hn.out Hb.out, (two_set W w.heap.size hc1 hc2).1, (two_set W w.heap.size hc1 hc2).2⟩, below_two W _ _ hB⟩
    · as_aux_lemma =>
      have Hb := Lib.hid hb
      have Hm := Lib.hid hm
      rw [el] at q2
      rw [← es] at q1 q3 q4
      clear hb es el hm
      gi_wp2_with fail
      refine ⟨trivial, ?_⟩
      refine (CallsIn.inRound l (callsIn_wide.2 (ibyte _ 0 _))).mono ?_
      rw [Hm.out]
      rintro e w' ⟨rfl, rfl⟩
      gi_wp2
      exact ⟨keeps_two _ _ _ _, ⟨rfl, _, fbW_snoc_nul Hn.out Hb.out, (two_set W w.heap.size hc1 hc2).1, (two_set W w.heap.size hc1 hc2).2⟩, below_two W _ _ hB⟩
    · as_aux_lemma =>
      have Hb := Lib.hid hb
      have Hm := Lib.hid hm
      rw [el] at q2
      rw [← es] at q1 q3 q4
      clear hb es el hm
      gi_wp2_with fail
      refine ⟨trivial, ?_⟩
      refine (CallsIn.inRound l (callsIn_wide.2 (ibyte _ 0 _))).mono ?_
      rw [Hm.out]
      rintro e w' ⟨rfl, rfl⟩
      gi_wp2
      exact ⟨KeepsOthers.refl _, rfl, ⟨fbW_snoc_none Hn.out Hb.out, hc1, hf1, hc2, hf2⟩, hB⟩
  case done =>
    rintro D ys W hD rfl ⟨⟨hn, hc1, hf1, hc2, hf2⟩, hB⟩ hK
    gi_wp2
    have hK' := (keeps_two W w.heap.size (.int .i64 0) (.int .i64 0)).same D _ hK rfl
    have h2 := two_set W w.heap.size (v1 := .int .i64 0) (v2 := .int .i64 0) hc1 hc2
    refine ⟨by simp, .inl ⟨_, _, rfl, run_takeDeferred hK', ?_⟩⟩
    have hc5 := cell_kept h2.1 (grownBy_putObj' _ D (.deferred none)) (fun r e => by cases e; exact ⟨_, hK', rfl⟩)
    have hc6 := cell_kept h2.2 (grownBy_putObj' _ D (.deferred none)) (fun r e => by cases e; exact ⟨_, hK', rfl⟩)
    refine ⟨.tuple #[.int .i64 0, .int .i64 0], ?_, by rw [hn]; rfl, (below_two W _ _ hB).trans (belowK_b (w := w) (Nat.le_refl _) _ D _ _ (by simp at hD; omega) hK' rfl rfl)⟩
    simp [results, Tryd.f13, go_sem, hc5, hc6]
  case stop =>
    rintro D c pre W hD hpre ⟨⟨rfl, y, hy, hc1, hc2⟩, hB⟩ hK
    gi_wp2
    refine ⟨by simp, .inl ⟨_, _, rfl, run_takeDeferred hK, ?_⟩⟩
    have hc5 := cell_kept hc1 (grownBy_putObj' _ D (.deferred none)) (fun r e => by cases e; exact ⟨_, hK, rfl⟩)
    have hc6 := cell_kept hc2 (grownBy_putObj' _ D (.deferred none)) (fun r e => by cases e; exact ⟨_, hK, rfl⟩)
    refine ⟨.tuple #[.int .i64 y.1, .int .i64 y.2], ?_, by rw [fbW_prefix hy hpre]; rfl, hB.trans (belowK_b (w := w) (Nat.le_refl _) W D _ _ (by simp at hD; omega) hK rfl rfl)⟩
    simp [results, Tryd.f13, go_sem, hc5, hc6]

theorem fbW_eq : ∀ (l : List (Nat × List UInt8)), (∀ x ∈ l, x.1 + x.2.length ≤ 400) → fbW (l.map fun x => (x.1, bytesOfL x.2)) = (Nm.firstBad l).map fun y => ((y.1 : Int), (y.2 : Int))
  | [], _ => rfl
  | x :: r, h => by
    simp only [List.map_cons, fbW, Nm.firstBad]
    have e : (bytesOfL x.2).data.toList = x.2 := rfl
    rw [e]
    cases hb : Nm.bad x.2 with
    | none => exact fbW_eq r fun y hy => h y (List.mem_cons_of_mem _ hy)
    | some z =>
      obtain ⟨m, q⟩ := z
      have hx := h x (List.mem_cons_self ..)
      rcases Nm.bad_some hb with ⟨rfl, hm⟩ | ⟨hq, rfl⟩
      · simp only [if_true, Option.map_some, Option.some.injEq, Prod.mk.injEq, and_true]
        unfold wrap64; omega
      · simp only [if_neg hq, Option.map_some, Nat.add_zero]

set_option maxHeartbeats 2000000 in
set_option maxRecDepth 100000 in
theorem check_long (p : ByteArray) (hp : 400 < p.size) (w : World) :
    Calls Tryd.prog 13 #[.string p] w fun e w' => e = .returned (.tuple #[.int .i64 0, .int .i64 2]) ∧ Below w.heap.size w w' := by
  have hd : decide (400 < (p.size : Int)) = true := by simp; omega
  go_enter Tryd.func13, Tryd.ntmps13
  go_wp2
  exact bodyPost_ret (v := .tuple #[.int .i64 0, .int .i64 2]) (by simp [results, Tryd.f13, go_sem]) rfl ⟨rfl, ((Below.refl _ w).alloc (Nat.le_refl _) _).alloc (by simp) _⟩

/-- **name.Check, at every text.** -/
theorem check_any (p : ByteArray) (w : World) :
    Calls Tryd.prog 13 #[.string p] w fun e w' => e = .returned (.tuple #[.int .i64 ((Nm.check p.data.toList).1 : Int), .int .i64 ((Nm.check p.data.toList).2 : Int)]) ∧ Below w.heap.size w w' := by
  have hl : p.data.toList.length = p.size := by rw [Array.length_toList]; rfl
  by_cases h : 400 < p.size
  · unfold Nm.check
    rw [if_pos (by omega)]
    exact check_long p h w
  · have hb := Nm.pieces_bound p.data.toList 0
    refine (check_walk p (by omega) w).mono ?_
    rintro e w' ⟨rfl, h2⟩
    refine ⟨?_, h2⟩
    unfold Nm.check piecesB
    rw [fbW_eq _ (fun x hx => by have := hb x hx; omega), if_neg (by omega)]
    cases Nm.firstBad (Nm.pieces 0 p.data.toList) <;> rfl
end Go.Proofs.YtnceocjgcdcpgaaDoor
