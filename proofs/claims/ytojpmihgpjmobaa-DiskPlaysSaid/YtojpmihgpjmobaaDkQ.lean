/- The law's wakes: a small disk. -/
import Derived.Test.YtojpmihgpjmobaaDkL
import Derived.Test.YtojpmihgpjmobaaDkO
import Derived.Test.YtojpmihgpjmobaaDkP
namespace Go.Proofs.Ytojpmihgpjmobaa.X
open Go Go.RowKit Go.Maps Go.Shelf Go.Proofs.Ytojpmihgpjmobaa Go.Proofs.YtojpmihgpjmobaaW.PrintWords Go.Proofs.YtojpmihgpjmobaaW.PrintLast Go.Proofs.YtojpmihgpjmobaaW.PrintMore
set_option linter.unusedVariables false
set_option linter.unusedSimpArgs false

theorem make_run (W : World) (n : Nat) (hn : n ≤ 140737488355328) : (Instr.makeSlice 30 (.int .i64 (n : Int)) (.int .i64 (n : Int))).run Try.prog W = .ok (.slice (some ⟨W.heap.size, 0, none⟩) n n) (W.alloc (.cells (madeCells #[.int .u8 0] n) 5)) := by
  obtain ⟨i0, hi0, hz0, hzs, hzb⟩ := info_u8
  have := run_make (P := Try.prog) W 30 5 i0 (.int .u8 0) Try.underlying30 hi0 hz0 .i64 .i64 (n : Int) (n : Int) (by omega) (by omega) (by rw [hzb]; omega) (by omega)
  rw [hzs, Int.toNat_natCast, Nat.mul_one] at this
  exact this
theorem fresh_row {W w' : World} {v : Value} {n : Nat} {f : Nat → Int} (h : Fresh W w' v n f) (hn : 0 < n) : ∃ g G cur, v = .slice (some ⟨g, 0, none⟩) n G ∧ n ≤ G ∧ W.heap.size ≤ g ∧ w'.heap[g]? = some (.cells cur 5 (0, 0)) ∧ ∀ i, i < n → cur[i]? = some (.int .u8 (f i)) := by
  rcases h with ⟨h0, _⟩ | ⟨g, G, cur, e, h1, _, h2, h3, _, h5⟩
  · omega
  · exact ⟨g, G, cur, e, h1, h2, h3, h5⟩
def wkF (i : Nat) : Int := if i = 0 then 7 else if i = 9 then 8 else 0
def wkS : DS := (DS.new 4).burnt.putL 1 ((List.finRange 1).map fun x i => wkF (64 * x.val + i))
theorem wk1 : wkS.cnt = 1 := by decide +kernel
theorem wk2 : wkS.rd (64 * 1 + 9) = 8 := by decide +kernel
theorem wk3 : (wkS.restart [9]).rd (64 * 1 + 0) = 7 := by decide +kernel
theorem wk4 : (wkS.restart [9]).rd (64 * 1 + 9) = 0 := by decide +kernel
theorem wk5 : (DS.new 4).dead = false ∧ (DS.new 4).fuse = -1 ∧ wkS.dead = false ∧ wkS.n = 4 ∧ (wkS.restart [9]).dead = false ∧ (wkS.restart [9]).n = 4 := by decide +kernel
theorem new_ok {m : Int} {W w' : World} {e : Ending} (h : NewPost m W e w') (h1 : 1 ≤ m) (h2 : m ≤ 65536) : (∃ p, e = .returned (.tuple #[dptr p, .int .i64 0]) ∧ DiskAt w' p (DS.new m.toNat) (fun k => W.heap.size ≤ k)) ∧ Below W.heap.size W w' := by
  obtain ⟨h, hb⟩ := h
  rcases h with ⟨h, _⟩ | ⟨h, _⟩ | ⟨_, _, h⟩
  · omega
  · omega
  · exact ⟨h, hb⟩
theorem new_no {m : Int} {W w' : World} {e : Ending} (h : NewPost m W e w') (h1 : m < 1) : e = .returned (.tuple #[.pointer none, .int .i64 1]) ∧ w' = W := by
  obtain ⟨h, hb⟩ := h
  rcases h with ⟨_, h⟩ | ⟨h, _⟩ | ⟨h, _⟩
  · exact h
  · omega
  · omega
set_option maxRecDepth 100000 in
set_option maxHeartbeats 4000000 in
theorem wakes_any (w : World) : Calls Try.prog 9 #[] w fun e w' => e = .returned (.bool true) ∧ Below w.heap.size w w' := by
  go_enter Try.func9, Try.ntmps9
  go_wp2_with fail
  refine (new_any 4 w).mono ?_
  intro e w1 hN
  obtain ⟨⟨p, rfl, hD⟩, hb1⟩ := new_ok hN (by decide) (by decide)
  have hD1 := hD.bound
  obtain ⟨w2, hw2⟩ : ∃ w2, w2 = w1.alloc (.cells (((madeCells #[.int .u8 0] 64).setIfInBounds 0 (.int .u8 7)).setIfInBounds 9 (.int .u8 8)) 5) := ⟨_, rfl⟩
  have q2 := blk_new w1 (.cells (((madeCells #[.int .u8 0] 64).setIfInBounds 0 (.int .u8 7)).setIfInBounds 9 (.int .u8 8)) 5)
  have hv2 := put_get (put_get (n := 64) (fun i hi => made_get 64 i hi) (show 0 < 64 by decide) 7) (show 9 < 64 by decide) 8
  have hby : By w2 (some ⟨w1.heap.size, 0, none⟩) (64 * 1) wkF := .inr ⟨_, rfl, fun i hi => by
    rw [Addr.add_lit, Nat.zero_add, hw2]
    refine (blk_cell q2 i).trans ((hv2 i hi).trans ?_)
    unfold wkF
    by_cases h0 : i = 0
    · subst h0; rfl
    · by_cases h9 : i = 9
      · subst h9; rfl
      · rw [if_neg h9, if_neg h0, if_neg h0, if_neg h9]⟩
  have hb2 : Below w1.heap.size w1 w2 := by rw [hw2]; exact (Below.refl _ w1).alloc (Nat.le_refl _) _
  have hmk : ∀ W : World, (Instr.makeSlice 30 (.int .i64 64) (.int .i64 64)).run Try.prog W = .ok (.slice (some ⟨W.heap.size, 0, none⟩) 64 64) (W.alloc (.cells (madeCells #[.int .u8 0] 64) 5)) := fun W => make_run W 64 (by decide)
  have H2 := Aside0.mk (show DiskAt w2 p (DS.new 4) (fun k => w.heap.size ≤ k ∧ k < w1.heap.size) from hD1.below hb2)
  have hm0 : (madeCells #[.int .u8 0] 64)[0]? = some (.int .u8 0) := made_get 64 0 (by decide)
  have hm9 : (madeCells #[.int .u8 0] 64)[9]? = some (.int .u8 0) := made_get 64 9 (by decide)
  have HBY := Aside0.mk hby
  have HB1 := Aside0.mk hb1
  have HB2 := Aside0.mk hb2
  have HW2 := Lib.hid hw2
  clear hD hD1 q2 hv2 hby hb1 hb2 hN
  go_wp2_with fail
  rw [← hw2]
  clear hw2
  have hp1 : ∀ k, (w.heap.size ≤ k ∧ k < w1.heap.size) → k < w2.heap.size := fun k hk => Nat.lt_of_lt_of_le hk.2 HB2.out.size
  have hb21 : w1.heap.size < w2.heap.size := by rw [HW2.out]; simp
  refine (write_in H2.out hp1 wk5.1 (by rw [wk5.2.1]; decide) (by rw [wk5.2.1]; decide) 1 1 64 (some ⟨w1.heap.size, 0, none⟩) ⟨w1.heap.size, 0, none⟩ wkF (by decide) (fun _ => rfl) (fun _ h => Nat.lt_irrefl _ h.2) HBY.out (by decide)).mono ?_
  rintro e w3 ⟨rfl, hD, hT⟩
  have H3 := Aside0.mk (show DiskAt w3 p wkS (fun k => (New w2 (fun k => w.heap.size ≤ k ∧ k < w1.heap.size) k) ∧ k < w3.heap.size) from hD.bound)
  have hB13 := hT.to_below (w := w) (HB1.out.trans (HB2.out.mono HB1.out.size)) (fun k hk => hk.1)
  have HB3 := Aside0.mk hB13
  clear hD hT hB13
  go_wp2_with fail
  refine (waiting_any H3.out).mono ?_
  rw [wk1]
  rintro e w3' ⟨rfl, hq⟩
  obtain rfl := hq.symm
  go_wp2_with fail
  refine (read_in H3.out wk5.2.2.1 1 1 (by rw [wk5.2.2.2.1]; decide) (by decide)).mono ?_
  rintro e w4 ⟨⟨v4, rfl, hF⟩, hb4⟩
  obtain ⟨g1, G1, cur1, rfl, hG1, hg1, hk1, hc1⟩ := fresh_row hF (by decide)
  have x9 := (blk_cell hk1 9).trans (hc1 9 (by decide))
  rw [wk2] at x9
  have hg1l := blk_lt hk1
  have H4 := Aside0.mk (H3.out.below hb4)
  have HB4 := Aside0.mk (HB3.out.trans (hb4.mono HB3.out.size))
  have hs34 := hb4.size
  clear hF hk1 hc1 hb4
  -- Restart
  obtain ⟨w5, hw5⟩ : ∃ w5, w5 = w4.alloc (.cells #[.int .i64 9] 3) := ⟨_, rfl⟩
  have hb5 : Below w4.heap.size w4 w5 := by rw [hw5]; exact (Below.refl _ w4).alloc (Nat.le_refl _) _
  have hfa : FaAt w5 (some ⟨w4.heap.size, 0, none⟩) [9] := fun i x hx => by
    have hi : i = 0 := by have := (List.getElem?_eq_some_iff.1 hx).1; simpa using this
    subst hi
    obtain rfl : (9 : Int) = x := by simpa using hx
    refine ⟨_, rfl, ?_⟩
    rw [Addr.add_lit, hw5]
    exact (blk_cell (blk_new w4 _) 0).trans rfl
  have H5 := Aside0.mk (H4.out.below hb5)
  have HB5 := Aside0.mk (HB4.out.trans (hb5.mono HB4.out.size))
  have HFA := Aside0.mk hfa
  have x95 := (hb5.cell (p := ⟨g1, 9, none⟩) hg1l).trans x9
  have hs45 := hb5.size
  have hgl5 : g1 < w5.heap.size := Nat.lt_of_lt_of_le hg1l hs45
  have HW5 := Lib.hid hw5
  clear hb5 hfa x9
  go_wp2_with fail
  rw [← hw5]
  clear hw5
  refine (restart_in sort_tells H5.out (fun k hk => by have := hk.2; omega) (some ⟨w4.heap.size, 0, none⟩) 1 [9] HFA.out (by decide) (fun ad e _ h => by obtain rfl := Option.some.inj e; have := h.2; simp at this; omega) (by decide)).mono ?_
  rintro e w6 ⟨rfl, hD, hT⟩
  have H6 := Aside0.mk hD
  have x96 : w6.cell? ⟨g1, 9, none⟩ = some (.int .u8 8) := (cell_heap (hT.block g1 hgl5 (fun h => by have := h.2; omega)) 9).trans x95
  have hgl6 := Nat.lt_of_lt_of_le hgl5 hT.size
  have HB6 := Aside0.mk (hT.to_below HB5.out (fun k hk => by
    rcases hk.1 with h | h
    · exact h.1
    · have := HB1.out.size; have := HB2.out.size; omega))
  clear hD hT x95
  go_wp2_with fail
  refine (read_in H6.out wk5.2.2.2.2.1 1 1 (by rw [wk5.2.2.2.2.2]; decide) (by decide)).mono ?_
  rintro e w7 ⟨⟨v7, rfl, hF⟩, hb7⟩
  obtain ⟨g2, G2, cur2, rfl, hG2, hg2, hk2, hc2⟩ := fresh_row hF (by decide)
  have y0 := (blk_cell hk2 0).trans (hc2 0 (by decide))
  have y9 := (blk_cell hk2 9).trans (hc2 9 (by decide))
  have e1 := wk3
  have e2 := wk4
  rw [e1] at y0
  rw [e2] at y9
  have x97 := (hb7.cell (p := ⟨g1, 9, none⟩) hgl6).trans x96
  have H7 := Aside0.mk (H6.out.below hb7)
  have HB7 := Aside0.mk (HB6.out.trans (hb7.mono HB6.out.size))
  clear hF hk2 hc2 hb7 e1 e2 x96
  go_wp2_with fail
  refine (new_any 0 w7).mono ?_
  intro e w8 hN
  obtain ⟨rfl, hq⟩ := new_no hN (by decide)
  obtain rfl := hq.symm
  clear hN
  go_wp2_with fail
  refine (size_any H7.out).mono ?_
  rw [wk5.2.2.2.2.2]
  rintro e w8 ⟨rfl, hq⟩
  obtain rfl := hq.symm
  go_wp2
  go_ret
  exact ⟨rfl, HB7.out⟩
end Go.Proofs.Ytojpmihgpjmobaa.X
