/- A disk and the reference's, side by side. -/
import Derived.Test.YtojpmihgpjmobaaRdF
import Derived.Test.YtojpmihgpjmobaaRdH
namespace Go.Proofs.Ytojpmihgpjmobaa.X
open Go Go.RowKit Go.Maps Go.Shelf Go.Proofs.Ytojpmihgpjmobaa Go.Proofs.YtojpmihgpjmobaaW.PrintWords Go.Proofs.YtojpmihgpjmobaaW.PrintLast Go.Proofs.YtojpmihgpjmobaaW.PrintMore
set_option linter.unusedVariables false
set_option linter.unusedSimpArgs false

/-- A disk of state s, and the reference's of state t, in memory of their own since w0. -/
def Two (w0 : World) (p q : Nat) (s t : DS) (W : World) : Prop := ∃ D E, DiskAt W p s D ∧ RefAt W q t E ∧ (∀ j, D j → w0.heap.size ≤ j ∧ j < W.heap.size ∧ ¬ E j) ∧ (∀ j, E j → w0.heap.size ≤ j ∧ j < W.heap.size)
theorem two_d {w0 W w' : World} {p q : Nat} {s' t : DS} {D E : Nat → Prop} (hE : RefAt W q t E) (h1 : ∀ j, D j → w0.heap.size ≤ j ∧ j < W.heap.size ∧ ¬ E j) (h2 : ∀ j, E j → w0.heap.size ≤ j ∧ j < W.heap.size) (hw : w0.heap.size ≤ W.heap.size) (hD : DiskAt w' p s' (New W D)) (hT : Tn W w' D) : Two w0 p q s' t w' :=
  ⟨_, E, hD.bound, hE.step (fun k hk hl => hT.block k hl (fun hd => (h1 k hd).2.2 hk)), fun j hj => by
    rcases hj.1 with h | h
    · exact ⟨(h1 j h).1, hj.2, (h1 j h).2.2⟩
    · exact ⟨Nat.le_trans hw h, hj.2, fun he => by have := (h2 j he).2; omega⟩, fun j hj => ⟨(h2 j hj).1, Nat.lt_of_lt_of_le (h2 j hj).2 hT.size⟩⟩
theorem two_e {w0 W w' : World} {p q : Nat} {s t' : DS} {D E : Nat → Prop} (hD : DiskAt W p s D) (h1 : ∀ j, D j → w0.heap.size ≤ j ∧ j < W.heap.size ∧ ¬ E j) (h2 : ∀ j, E j → w0.heap.size ≤ j ∧ j < W.heap.size) (hw : w0.heap.size ≤ W.heap.size) (hE : RefAt w' q t' (New W E)) (hT : Tn W w' E) : Two w0 p q s t' w' :=
  ⟨D, _, hD.step (fun k hk hl => hT.block k hl (fun he => (h1 k hk).2.2 he)), hE.bound, fun j hj => ⟨(h1 j hj).1, Nat.lt_of_lt_of_le (h1 j hj).2.1 hT.size, fun he => by
    rcases he.1 with h | h
    · exact (h1 j hj).2.2 h
    · have := (h1 j hj).2.1; omega⟩, fun j hj => by
    rcases hj.1 with h | h
    · exact ⟨(h2 j h).1, hj.2⟩
    · exact ⟨Nat.le_trans hw h, hj.2⟩⟩
theorem Two.below {w0 W w' : World} {p q : Nat} {s t : DS} (h : Two w0 p q s t W) (hb : Below W.heap.size W w') : Two w0 p q s t w' := by
  obtain ⟨D, E, h1, h2, h3, h4⟩ := h
  exact ⟨D, E, h1.below hb, h2.below hb, fun j hj => ⟨(h3 j hj).1, Nat.lt_of_lt_of_le (h3 j hj).2.1 hb.size, (h3 j hj).2.2⟩, fun j hj => ⟨(h4 j hj).1, Nat.lt_of_lt_of_le (h4 j hj).2 hb.size⟩⟩
/-- A row of one's own, for good or none. -/
theorem fresh_own {W w' : World} {v : Value} {n : Nat} {f : Nat → Int} (h : Fresh W w' v n f) : ∃ A G, v = .slice A n G ∧ n ≤ G ∧ By w' A n f ∧ (0 < n → ∃ g cur, A = some ⟨g, 0, none⟩ ∧ W.heap.size ≤ g ∧ w'.heap[g]? = some (.cells cur 5 (0, 0)) ∧ ∀ i, i < n → ∃ y, cur[i]? = some (.int .u8 y)) := by
  rcases h with ⟨h0, A, G, e⟩ | ⟨g, G, cur, e, h1, h2, h3, h4, h5, h6⟩
  · exact ⟨A, G, by rw [h0]; exact e, by omega, .inl h0, fun h => by omega⟩
  · exact ⟨_, G, e, h1, .inr ⟨_, rfl, fun i hi => by rw [Addr.add_lit, Nat.zero_add]; exact (blk_cell h4 i).trans (h6 i hi)⟩, fun _ => ⟨g, cur, rfl, h3, h4, fun i hi => ⟨_, h6 i hi⟩⟩⟩
def RowG (W : World) (A : Option Addr) (b n : Nat) : Prop := 0 < n → ∃ g cur, A = some ⟨g, 0, none⟩ ∧ b ≤ g ∧ W.heap[g]? = some (.cells cur 5 (0, 0)) ∧ ∀ i, i < n → ∃ y, cur[i]? = some (.int .u8 y)
theorem RowG.put {W : World} {A : Option Addr} {b n g : Nat} (h : RowG W A b n) (hA : A = some ⟨g, 0, none⟩) {m : Nat} (v : Int) : RowG (W.setCell ⟨g, m, none⟩ (.int .u8 v)) A b n := fun h0 => by
  obtain ⟨g', cur, e, h1, h2, h3⟩ := h h0
  rw [hA] at e
  injection e with e
  injection e with e
  subst e
  refine ⟨g, _, hA, h1, blk_set h2 m _, fun i hi => ?_⟩
  by_cases hm : i = m
  · subst hm
    obtain ⟨y, hy⟩ := h3 i hi
    have hl : i < cur.size := (Array.getElem?_eq_some_iff.1 hy).1
    exact ⟨v, Array.getElem?_setIfInBounds_self_of_lt hl⟩
  · rw [Array.getElem?_setIfInBounds_ne (fun e => hm e.symm)]
    exact h3 i hi
theorem fuse_burnt {s : DS} (h : s.fuse ≤ 9223372036854775807) : s.burnt.fuse ≤ 9223372036854775807 := by
  unfold DS.burnt
  split
  · show (-1 : Int) ≤ _; decide
  · split
    · show s.fuse - 1 ≤ _; omega
    · exact h
theorem written_nf (s : DS) (a : Int) (n : Nat) (f : Nat → Int) (h : s.fuse ≤ 9223372036854775807) : (s.written a n f).n = s.n ∧ (s.written a n f).fuse ≤ 9223372036854775807 := by
  have hb := fuse_burnt h
  have hn := burnt_n s
  unfold DS.written
  split
  · exact ⟨rfl, h⟩
  · split
    · exact ⟨rfl, h⟩
    · split
      · exact ⟨rfl, h⟩
      · split
        · exact ⟨hn, hb⟩
        · exact ⟨hn, hb⟩
theorem synced_nf (s : DS) (h : s.fuse ≤ 9223372036854775807) : s.synced.n = s.n ∧ s.synced.fuse ≤ 9223372036854775807 := by
  have hb := fuse_burnt h
  have hn := burnt_n s
  unfold DS.synced
  split
  · exact ⟨rfl, h⟩
  · split
    · exact ⟨hn, hb⟩
    · exact ⟨hn, hb⟩
theorem rotted_nf (s : DS) (a q b : Int) (h : s.fuse ≤ 9223372036854775807) : (s.rotted a q b).n = s.n ∧ (s.rotted a q b).fuse ≤ 9223372036854775807 := by
  unfold DS.rotted
  split
  · exact ⟨rfl, h⟩
  · exact ⟨rfl, h⟩
theorem fa_below' {w W : World} {A : Option Addr} {xs : List Int} (h : FaAt w A xs) (hb : Below w.heap.size w W) : FaAt W A xs := fun i x hx => by
  obtain ⟨ad, e, hc⟩ := h i x hx
  exact ⟨ad, e, (hb.cell (World.block_lt_of_cell? w _ hc)).trans hc⟩
theorem there_of {n : Nat} {a c : Int} (h2 : thereB n a c = true) : 0 ≤ a ∧ a ≤ n ∧ 0 ≤ c ∧ c ≤ n - a := by
  unfold thereB at h2
  simp only [Bool.and_eq_true, decide_eq_true_eq] at h2
  omega
def BothPost (w0 : World) (p q : Nat) (s : DS) (e : Ending) (w' : World) : Prop := e = .returned (.bool true) ∧ (∃ s', Two w0 p q s' s' w' ∧ s'.n = s.n ∧ s'.fuse ≤ 9223372036854775807) ∧ Below w0.heap.size w0 w'
set_option maxRecDepth 100000 in
set_option maxHeartbeats 8000000 in
theorem both_any {w0 W : World} {p q : Nat} {s : DS} (h : Two w0 p q s s W) (hb : Below w0.heap.size w0 W) (hf : s.fuse ≤ 9223372036854775807) (x : SAct) (A3 : Option Addr) (c3 : Nat) (A4 : Option Addr) (c4 : Nat) (hg : GoodAct x) (h3 : x.f3.length ≤ c3) (g3 : (Kd.int .u8).C w0 A3 x.f3.length x.f3) (h4 : x.f4.length ≤ c4) (g4 : (Kd.int .i64).C w0 A4 x.f4.length x.f4) :
    Calls Try.prog 21 #[dptr p, dptr q, .agg (cellsAct x A3 c3 A4 c4)] W fun e w' => BothPost w0 p q s e w' := by
  obtain ⟨D, E, hD, hE, hd1, he1⟩ := h
  obtain ⟨wf0, wf1, wf2, ⟨wa, wb, _⟩, ⟨wc, wd, we⟩, wf5⟩ := hg
  have HD := Aside0.mk hD
  have HE := Aside0.mk hE
  have HD1 := Aside0.mk hd1
  have HE1 := Aside0.mk he1
  have HB := Aside0.mk hb
  have HBY := Aside0.mk (By.of_reads g3)
  have HC3 := Aside0.mk g3
  have HFA := Aside0.mk (FaAt.of_reads g4)
  have HWE := Aside0.mk we
  have wf2' : -9223372036854775808 ≤ x.f2 ∧ x.f2 ≤ 9223372036854775807 := by have e : IntKind.i64.min = -9223372036854775808 := rfl; have h := wf2; simp [Lit.wf] at h; omega
  clear hD hE hd1 he1 hb g3 g4 we wf0 wf1 wf2 wf5
  go_enter Try.func21, Try.ntmps21
  go_upto_region 1 with (fail)
  obtain ⟨W1, hW1⟩ : ∃ W1, W1 = W.alloc (.cells (cellsAct x A3 c3 A4 c4) 32) := ⟨_, rfl⟩
  have hbx : W1.heap[W.heap.size]? = some (.cells (cellsAct x A3 c3 A4 c4) 32 (0, 0)) := by rw [hW1]; exact blk_new _ _
  have HB1 := Aside0.mk (show Below W.heap.size W W1 by rw [hW1]; exact (Below.refl _ _).alloc (Nat.le_refl _) _)
  rw [← hW1]
  clear hW1
  have e0 := (blk_cell hbx 0).trans (show (cellsAct x A3 c3 A4 c4)[0]? = some (.int .i64 x.f0) from rfl)
  have e1 := (blk_cell hbx 1).trans (show (cellsAct x A3 c3 A4 c4)[1]? = some (.int .i64 x.f1) from rfl)
  have e2 := (blk_cell hbx 2).trans (show (cellsAct x A3 c3 A4 c4)[2]? = some (.int .i64 x.f2) from rfl)
  have e3 := (blk_cell hbx 3).trans (show (cellsAct x A3 c3 A4 c4)[3]? = some (.slice A3 x.f3.length c3) from rfl)
  have e4 := (blk_cell hbx 4).trans (show (cellsAct x A3 c3 A4 c4)[4]? = some (.slice A4 x.f4.length c4) from rfl)
  have e5 := (blk_cell hbx 5).trans (show (cellsAct x A3 c3 A4 c4)[5]? = some (.int .u8 x.f5) from rfl)
  have HBX := Aside0.mk hbx
  have hDW := HD.out.below HB1.out
  have hEW := HE.out.below HB1.out
  have HDW := Aside0.mk hDW
  have HEW := Aside0.mk hEW
  have HW1 := Aside0.mk (HB.out.trans (HB1.out.mono HB.out.size))
  have hwl : w0.heap.size ≤ W1.heap.size := HW1.out.size
  have HDb := Aside0.mk (show ∀ j, D j → w0.heap.size ≤ j ∧ j < W1.heap.size ∧ ¬ E j from fun j hj => ⟨(HD1.out j hj).1, Nat.lt_of_lt_of_le (HD1.out j hj).2.1 HB1.out.size, (HD1.out j hj).2.2⟩)
  have HEb := Aside0.mk (show ∀ j, E j → w0.heap.size ≤ j ∧ j < W1.heap.size from fun j hj => ⟨(HE1.out j hj).1, Nat.lt_of_lt_of_le (HE1.out j hj).2 HB1.out.size⟩)
  have hDx : ¬ D W.heap.size := fun h => Nat.lt_irrefl _ (HD1.out _ h).2.1
  have KX := Aside0.mk (show ∀ w2, Tn W1 w2 D → w2.heap[W.heap.size]? = some (.cells (cellsAct x A3 c3 A4 c4) 32 (0, 0)) from fun w2 hT => (hT.block _ (blk_lt HBX.out) hDx).trans HBX.out)
  clear hbx hDW hEW
  have hcs : x.f0 = 0 ∨ x.f0 = 1 ∨ x.f0 = 2 ∨ x.f0 = 3 ∨ x.f0 = 4 ∨ x.f0 = 5 ∨ x.f0 = 6 ∨ (x.f0 ≠ 0 ∧ x.f0 ≠ 1 ∧ x.f0 ≠ 2 ∧ x.f0 ≠ 3 ∧ x.f0 ≠ 4 ∧ x.f0 ≠ 5 ∧ x.f0 ≠ 6) := by omega
  rcases hcs with h0 | h0 | h0 | h0 | h0 | h0 | h0 | ⟨h0, h1', h2', h3', h4', h5', h6'⟩
  · rw [h0] at e0
    obtain ⟨n, hnn⟩ : ∃ n, n = x.f3.length := ⟨_, rfl⟩
    rw [← hnn] at e3 h3 wa wb
    have HBYn := Aside0.mk (show By w0 A3 n (fun i => x.f3.getD i 0) by rw [hnn]; exact HBY.out)
    obtain ⟨f, hf'⟩ : ∃ f, f = fun i => x.f3.getD i 0 := ⟨_, rfl⟩
    rw [← hf'] at HBYn
    have KX3 := Aside0.mk (show (cellsAct x A3 c3 A4 c4)[3]? = some (.slice A3 n c3) by rw [hnn]; rfl)
    obtain ⟨ys, hys⟩ : ∃ ys, ys = (List.range n).map f := ⟨_, rfl⟩
    have HCa := Aside0.mk (show (Kd.int .u8).C w0 A3 n ys by rw [hys]; exact HBYn.out.reads wb)
    have hb0 := (Below.refl W1.heap.size W1).alloc (Nat.le_refl _) (.cells #[] 5)
    have HA0 := Aside0.mk hb0
    have HR0 := Aside0.mk (r_empty W1 W1.heap.size (fun k => W1.heap.size ≤ k) (Nat.le_refl _) (Nat.le_refl _))
    have e3a : (W1.alloc (.cells #[] 5)).cell? ⟨W.heap.size, 3, none⟩ = some (.slice A3 n c3) := (hb0.cell (World.block_lt_of_cell? _ _ e3)).trans e3
    have hl0 : ([] : List Int).length + n ≤ 140737488355328 := by show 0 + n ≤ _; omega
    have HYS := Lib.hid hys
    have HNN := Lib.hid hnn
    clear hb0 hys hnn hf'
    go_wp2_with (refine Kd.R_append_rows (Kd.int .u8) (w0 := W1) W1.heap.size rfl (.tmp 22) (.tmp 24) 30 5 (.int .u8 0) 1 rfl Try.underlying30 (by kernel_rfl) rfl (by decide) (by decide) (.slice (some ⟨W1.heap.size, 0, none⟩) 0 0) [] ys A3 n c3 (fun k => W1.heap.size ≤ k) (fun _ => False) rfl rfl HR0.out (Kd.C_below HCa.out (HW1.out.trans (HA0.out.mono hwl))) (fun _ _ h => h) (fun _ h => h.elim) (fun k h => Nat.le_trans HA0.out.size h) HA0.out HA0.out.size (by rw [Nat.mul_one]; exact hl0) ?_)
    intro v1 w2 hR2 hB2 hg2 hat2
    rw [HYS.out] at hR2
    obtain ⟨A, G, rfl, hG, hby, hrow⟩ := fresh_own (fresh_of hR2)
    have HB2 := Aside0.mk hB2
    have HBYA := Aside0.mk hby
    have HGB := Aside0.mk (show ∀ g, A = some ⟨g, 0, none⟩ → 0 < n → W1.heap.size ≤ g ∧ g < w2.heap.size from fun g hA h0 => by
      obtain ⟨g', cur, z1, z2, z3, z4⟩ := hrow h0
      rw [hA] at z1
      injection z1 with z1
      injection z1 with z1
      subst z1
      exact ⟨z2, blk_lt z3⟩)
    have HRG := Aside0.mk (show RowG w2 A W1.heap.size n from fun h0 => by
      obtain ⟨g, cur, z1, z2, z3, z4⟩ := hrow h0
      exact ⟨g, cur, z1, z2, z3, z4⟩)
    have HAB := Aside0.mk (show ∀ ad, A = some ad → 0 < n → ¬ D ad.block from fun ad hA h0 hd => by
      obtain ⟨g, cur, z1, z2, z3, z4⟩ := hrow h0
      rw [hA] at z1
      injection z1 with z1
      subst z1
      have := (HDb.out _ hd).2.1
      have z2' : W1.heap.size ≤ g := z2
      have : g < W1.heap.size := this
      omega)
    have hbx2 := (hB2.block _ (blk_lt HBX.out)).trans HBX.out
    have e1' := (blk_cell hbx2 1).trans (show (cellsAct x A3 c3 A4 c4)[1]? = some (.int .i64 x.f1) from rfl)
    have HBX2 := Aside0.mk hbx2
    clear hR2 hB2 hg2 hat2 hby hrow hbx2 e3a HR0
    go_wp2_with fail
    refine (write_all (HDW.out.below HB2.out) (fun k hk => Nat.lt_of_lt_of_le (HDb.out k hk).2.1 HB2.out.size) hf x.f1 n G A f HAB.out HBYA.out hG wb).mono ?_
    rintro e w3 ⟨rfl, hD3, hT3⟩
    have HD3 := Aside0.mk hD3.bound
    have HT3 := Aside0.mk hT3
    have HE3 := Aside0.mk ((HEW.out.below HB2.out).step (fun k hk hl => hT3.block k hl (fun hd => (HDb.out k hd).2.2 hk)))
    have HB3 := Aside0.mk (hT3.to_below (HW1.out.trans (HB2.out.mono hwl)) (fun k hk => (HDb.out k hk).1))
    have hbx3 := (hT3.block _ (blk_lt HBX2.out) hDx).trans HBX2.out
    have HBX3 := Aside0.mk hbx3
    have HRG3 := Aside0.mk (show RowG w3 A W1.heap.size n from fun h0 => by
      obtain ⟨g, cur, z1, z2, z3, z4⟩ := HRG.out h0
      exact ⟨g, cur, z1, z2, (hT3.block g (blk_lt z3) (fun hd => by have := (HDb.out _ hd).2.1; omega)).trans z3, z4⟩)
    clear hD3 hT3 hbx3
    go_wp2
    go_loopw [9] (fun ii wr => ∃ m : Nat, m ≤ n ∧ ii = .int .i64 m ∧ Aside0 (RowG wr A W1.heap.size n) ∧ Aside0 (Tn w3 wr (fun k => W1.heap.size ≤ k ∧ k < w2.heap.size))) (fun ii _ => n - (intOf ii).toNat)
    case atStart => exact ⟨0, Nat.zero_le _, rfl, HRG3, ⟨Tn.refl _ _⟩⟩
    case round =>
      obtain ⟨m, hm, rfl, hR, hT⟩ := hrel
      by_cases hlt : m < n
      · obtain ⟨g, cur, hA, z2, z3, z4⟩ := hR.out (by omega)
        obtain ⟨y, hy⟩ := z4 m hlt
        have ck := (blk_cell z3 m).trans hy
        have fk := blk_frozen z3 m
        subst hA
        have hgb := HGB.out g rfl (by omega)
        have HPUT := Aside0.mk (fun v => hR.out.put (m := m) rfl v)
        have HPT := Aside0.mk (fun (v : Value) => hT.out.setCell (p := ⟨g, m, none⟩) (.inl hgb) v)
        clear z3 z4 hy
        go_wp2
        go_roundw
        case rel => exact ⟨m + 1, by omega, by go_num, ⟨HPUT.out _⟩, ⟨HPT.out _⟩⟩
        case measure => simp [intOf]; omega
      · obtain rfl : m = n := by omega
        have hs23 : w2.heap.size ≤ w3.heap.size := HT3.out.size
        have hD4 : DiskAt wr p (s.written x.f1 m f) (fun k => New w2 D k ∧ k < w3.heap.size) := HD3.out.step (fun k hk hl => hT.out.block k hl (fun h => by
          rcases hk.1 with hd | hd
          · have := (HDb.out k hd).2.1; omega
          · omega))
        have hE4 : RefAt wr q s E := HE3.out.step (fun k hk hl => hT.out.block k hl (fun h => by have := (HEb.out k hk).2; omega))
        have hb4 : Below w0.heap.size w0 wr := hT.out.to_below HB3.out (fun k hk => Nat.le_trans hwl hk.1)
        have hs4 := hT.out.size
        have hs1 := HB2.out.size
        have hD5 : ∀ j, (New w2 D j ∧ j < w3.heap.size) → w0.heap.size ≤ j ∧ j < wr.heap.size ∧ ¬ E j := fun j hj => by
          rcases hj.1 with hd | hd
          · have h := HDb.out j hd
            exact ⟨h.1, by omega, h.2.2⟩
          · exact ⟨by omega, by omega, fun he => by have := (HEb.out j he).2; omega⟩
        have hE5 : ∀ j, E j → w0.heap.size ≤ j ∧ j < wr.heap.size := fun j hj => by have h := HEb.out j hj; exact ⟨h.1, by omega⟩
        have hbx4 := (hT.out.block _ (blk_lt HBX3.out) (fun h => by have := blk_lt HBX.out; omega)).trans HBX3.out
        have f1' := (blk_cell hbx4 1).trans (show (cellsAct x A3 c3 A4 c4)[1]? = some (.int .i64 x.f1) from rfl)
        have f3' := (blk_cell hbx4 3).trans KX3.out
        have HD4 := Aside0.mk hD4
        have HE4 := Aside0.mk hE4
        have HB4 := Aside0.mk hb4
        have HD5 := Aside0.mk hD5
        have HE5 := Aside0.mk hE5
        have HAB3 := Aside0.mk (show ∀ ad, A3 = some ad → 0 < m → ¬ E ad.block from fun ad hA h0 he => by
          rcases HBYn.out with hz | ⟨ad', e', hr⟩
          · omega
          · rw [hA] at e'
            obtain rfl := Option.some.inj e'
            have h1 := World.block_lt_of_cell? _ _ (hr 0 h0)
            rw [add_block] at h1
            have := (HEb.out _ he).1
            omega)
        clear hD4 hE4 hb4 hD5 hE5 hbx4 hs23 hs4 hs1
        go_wp2_with fail
        refine (rwrite_all HE4.out (fun k hk => (HE5.out k hk).2) hf x.f1 m c3 A3 f HAB3.out (HBYn.out.below HB4.out) h3 wb).mono ?_
        generalize hr : s.writeE x.f1 m = r
        have HR := Lib.hid hr
        clear hr
        rintro e w5 ⟨rfl, hE6, hT6⟩
        have H6 := Aside0.mk (two_e HD4.out HD5.out HE5.out HB4.out.size hE6 hT6)
        have HB6 := Aside0.mk (hT6.to_below HB4.out (fun k hk => (HE5.out k hk).1))
        clear hE6 hT6
        go_wp2
        go_ret
        obtain ⟨z1, z2⟩ := written_nf s x.f1 m f hf
        exact ⟨rfl, ⟨_, H6.out, z1, z2⟩, HB6.out⟩
  · rw [h0] at e0
    go_wp2_with fail
    refine (sync_all HDW.out hf).mono ?_
    rintro e w2 ⟨rfl, hD2, hT2⟩
    obtain ⟨D2, E2, q1, q2, q3, q4⟩ := two_d HEW.out HDb.out HEb.out hwl (hD2.mono (fun _ h => .inl h)) hT2
    have Q1 := Aside0.mk q1
    have Q2 := Aside0.mk q2
    have Q3 := Aside0.mk q3
    have Q4 := Aside0.mk q4
    have HB2 := Aside0.mk (hT2.to_below HW1.out (fun k hk => (HDb.out k hk).1))
    clear hD2 hT2 q1 q2 q3 q4
    go_wp2_with fail
    refine (rsync_all Q2.out hf).mono ?_
    rintro e w3 ⟨rfl, hE3, hT3⟩
    have H3 := Aside0.mk (two_e Q1.out Q3.out Q4.out HB2.out.size (hE3.mono (fun _ h => .inl h)) hT3)
    have HB3 := Aside0.mk (hT3.to_below HB2.out (fun k hk => (Q4.out k hk).1))
    clear hE3 hT3
    go_wp2
    go_ret
    exact ⟨rfl, ⟨_, H3.out, synced_nf s hf⟩, HB3.out⟩
  · rw [h0] at e0
    have knil : ∀ W : World, (convert 30 9 (.slice none 0 0)).run Try.prog W = .ok (.string ByteArray.empty) W := fun W => run_convert_bytes_nil (P := Try.prog) (w := W) _ _ Try.underlying30 Try.underlying5 0 0 _ Try.underlying9
    go_wp2_with fail
    refine (read_all HDW.out x.f1 x.f2).mono ?_
    rintro e w2 ⟨hr, hb2⟩
    have hbx2 := (hb2.block _ (blk_lt HBX.out)).trans HBX.out
    have e1' := (blk_cell hbx2 1).trans (show (cellsAct x A3 c3 A4 c4)[1]? = some (.int .i64 x.f1) from rfl)
    have e2' := (blk_cell hbx2 2).trans (show (cellsAct x A3 c3 A4 c4)[2]? = some (.int .i64 x.f2) from rfl)
    have HB2 := Aside0.mk hb2
    clear hb2 hbx2
    rcases hr with ⟨hd, rfl⟩ | ⟨hd, ht, rfl⟩ | ⟨hd, ht, v, rfl, hF⟩
    all_goals
      go_wp2_with fail
      refine (rread_all (HEW.out.below HB2.out) x.f1 x.f2).mono ?_
      rintro e w3 ⟨hr, hb3⟩
      have HB3 := Aside0.mk (HB2.out.trans (hb3.mono HB2.out.size))
      have HBr := Aside0.mk hb3
      have HX3 := Aside0.mk (HW1.out.trans (HB3.out.mono hwl))
      have H3 := Aside0.mk ((show Two w0 p q s s W1 from ⟨D, E, HDW.out, HEW.out, HDb.out, HEb.out⟩).below HB3.out)
      clear hb3
    · rcases hr with ⟨hd', rfl⟩ | ⟨hd', ht', rfl⟩ | ⟨hd', ht', v', rfl, hF'⟩
      · go_wp2
        go_loopw [16] (fun ii wr => ii = .int .i64 0 ∧ wr = w3) (fun _ _ => 0)
        case atStart => exact ⟨rfl, rfl⟩
        case round =>
          obtain ⟨rfl, rfl⟩ := hrel
          go_wp2
          go_ret
          exact ⟨rfl, ⟨_, H3.out, rfl, hf⟩, HX3.out⟩
      · rw [hd] at hd'; cases hd'
      · rw [hd] at hd'; cases hd'
    · rcases hr with ⟨hd', rfl⟩ | ⟨hd', ht', rfl⟩ | ⟨hd', ht', v', rfl, hF'⟩
      · rw [hd] at hd'; cases hd'
      · go_wp2
        go_loopw [16] (fun ii wr => ii = .int .i64 0 ∧ wr = w3) (fun _ _ => 0)
        case atStart => exact ⟨rfl, rfl⟩
        case round =>
          obtain ⟨rfl, rfl⟩ := hrel
          go_wp2
          go_ret
          exact ⟨rfl, ⟨_, H3.out, rfl, hf⟩, HX3.out⟩
      · rw [ht] at ht'; cases ht'
    · rcases hr with ⟨hd', rfl⟩ | ⟨hd', ht', rfl⟩ | ⟨hd', ht', v', rfl, hF'⟩
      · rw [hd] at hd'; cases hd'
      · rw [ht] at ht'; cases ht'
      · obtain ⟨A, G, rfl, hG, hby, hrow⟩ := fresh_own hF
        obtain ⟨A', G', rfl, hG', hby', _⟩ := fresh_own hF'
        have hn : 64 * x.f2.toNat ≤ 4194304 := by
          obtain ⟨_, _, _, _⟩ := there_of ht
          have hh := HDW.out.cells
          obtain ⟨_, _, _, _, hh⟩ := hh
          omega
        obtain ⟨n, hnn⟩ : ∃ n, n = 64 * x.f2.toNat := ⟨_, rfl⟩
        rw [← hnn] at hn hG hG' hby hby' hrow ⊢
        obtain ⟨S, hS⟩ : ∃ S, S = strOfNums ((List.range n).map fun i => s.rd (64 * x.f1.toNat + i)) := ⟨_, rfl⟩
        have k1 := Kd.C_string (P := Try.prog) (c := G) Try.underlying30 Try.underlying5 Try.underlying9 ((hby.below HBr.out).reads (by omega))
        have k2 := Kd.C_string (P := Try.prog) (c := G') Try.underlying30 Try.underlying5 Try.underlying9 (hby'.reads (by omega))
        rw [← hS] at k1 k2
        have HRG := Aside0.mk (show RowG w3 A W1.heap.size n from fun h0 => by
          obtain ⟨g, cur, z1, z2, z3, z4⟩ := hrow h0
          exact ⟨g, cur, z1, z2, blk_below z3 HBr.out, z4⟩)
        clear hF hF' hby hby' hrow hS hnn
        go_wp2
        clear k1 k2
        go_loopw [16] (fun ii wr => ∃ m : Nat, m ≤ n ∧ ii = .int .i64 m ∧ Aside0 (RowG wr A W1.heap.size n) ∧ Aside0 (Tn w3 wr (fun k => W1.heap.size ≤ k))) (fun ii _ => n - (intOf ii).toNat)
        case atStart => exact ⟨0, Nat.zero_le _, rfl, HRG, ⟨Tn.refl _ _⟩⟩
        case round =>
          obtain ⟨m, hm, rfl, hR, hT⟩ := hrel
          by_cases hlt : m < n
          · obtain ⟨g, cur, hA, z2, z3, z4⟩ := hR.out (by omega)
            obtain ⟨y, hy⟩ := z4 m hlt
            have ck := (blk_cell z3 m).trans hy
            have fk := blk_frozen z3 m
            subst hA
            have HPUT := Aside0.mk (fun v => hR.out.put (m := m) rfl v)
            have HPT := Aside0.mk (fun (v : Value) => hT.out.setCell (p := ⟨g, m, none⟩) (.inl z2) v)
            clear z3 z4 hy
            go_wp2
            go_roundw
            case rel => exact ⟨m + 1, by omega, by go_num, ⟨HPUT.out _⟩, ⟨HPT.out _⟩⟩
            case measure => simp [intOf]; omega
          · obtain rfl : m = n := by omega
            have HT4 := Aside0.mk (show Two w0 p q s s wr from by
              refine ⟨D, E, (HDW.out.below HB3.out).step (fun k hk hl => hT.out.block k hl (fun h => by have := (HDb.out k hk).2.1; omega)), (HEW.out.below HB3.out).step (fun k hk hl => hT.out.block k hl (fun h => by have := (HEb.out k hk).2; omega)), fun j hj => ⟨(HDb.out j hj).1, ?_, (HDb.out j hj).2.2⟩, fun j hj => ⟨(HEb.out j hj).1, ?_⟩⟩
              · have h1 := (HDb.out j hj).2.1; have h2 := HB3.out.size; have h3 := hT.out.size; omega
              · have h1 := (HEb.out j hj).2; have h2 := HB3.out.size; have h3 := hT.out.size; omega)
            have HX4 := Aside0.mk (hT.out.to_below HX3.out (fun k hk => Nat.le_trans hwl hk))
            go_wp2
            go_ret
            exact ⟨rfl, ⟨_, HT4.out, rfl, hf⟩, HX4.out⟩
  · rw [h0] at e0
    go_wp2_with fail
    refine (fuse_any HDW.out x.f2).mono ?_
    rintro e w2 ⟨rfl, hD2, hT2⟩
    have e2' := (blk_cell (KX.out _ hT2) 2).trans (show (cellsAct x A3 c3 A4 c4)[2]? = some (.int .i64 x.f2) from rfl)
    obtain ⟨D2, E2, q1, q2, q3, q4⟩ := two_d HEW.out HDb.out HEb.out hwl (hD2.mono (fun _ h => .inl h)) hT2
    have Q1 := Aside0.mk q1
    have Q2 := Aside0.mk q2
    have Q3 := Aside0.mk q3
    have Q4 := Aside0.mk q4
    have HB2 := Aside0.mk (hT2.to_below HW1.out (fun k hk => (HDb.out k hk).1))
    clear hD2 hT2 q1 q2 q3 q4
    go_wp2_with fail
    refine (rfuse_any Q2.out x.f2).mono ?_
    rintro e w3 ⟨rfl, hE3, hT3⟩
    have H3 := Aside0.mk (two_e Q1.out Q3.out Q4.out HB2.out.size (hE3.mono (fun _ h => .inl h)) hT3)
    have HB3 := Aside0.mk (hT3.to_below HB2.out (fun k hk => (Q4.out k hk).1))
    clear hE3 hT3
    go_wp2
    go_ret
    exact ⟨rfl, ⟨_, H3.out, rfl, by show max x.f2 (-1) ≤ _; omega⟩, HB3.out⟩
  · rw [h0] at e0
    go_wp2_with fail
    refine (kill_any HDW.out).mono ?_
    rintro e w2 ⟨rfl, hD2, hT2⟩
    obtain ⟨D2, E2, q1, q2, q3, q4⟩ := two_d HEW.out HDb.out HEb.out hwl (hD2.mono (fun _ h => .inl h)) hT2
    have Q1 := Aside0.mk q1
    have Q2 := Aside0.mk q2
    have Q3 := Aside0.mk q3
    have Q4 := Aside0.mk q4
    have HB2 := Aside0.mk (hT2.to_below HW1.out (fun k hk => (HDb.out k hk).1))
    clear hD2 hT2 q1 q2 q3 q4
    go_wp2_with fail
    refine (rkill_any Q2.out).mono ?_
    rintro e w3 ⟨rfl, hE3, hT3⟩
    have H3 := Aside0.mk (two_e Q1.out Q3.out Q4.out HB2.out.size (hE3.mono (fun _ h => .inl h)) hT3)
    have HB3 := Aside0.mk (hT3.to_below HB2.out (fun k hk => (Q4.out k hk).1))
    clear hE3 hT3
    go_wp2
    go_ret
    exact ⟨rfl, ⟨_, H3.out, rfl, by show (-1 : Int) ≤ _; decide⟩, HB3.out⟩
  · rw [h0] at e0
    have hfx : ∀ z ∈ x.f4, -9223372036854775808 ≤ z ∧ z ≤ 9223372036854775807 := fun z hz => by have e : IntKind.i64.min = -9223372036854775808 := rfl; have h := HWE.out z hz; simp [Lit.wf] at h; omega
    have HFX := Aside0.mk hfx
    have hfar : ∀ ad, A4 = some ad → 0 < x.f4.length → ad.block < w0.heap.size := fun ad e hl => by
      obtain ⟨ad', e', hc⟩ := HFA.out 0 _ (List.getElem?_eq_getElem hl)
      rw [e] at e'
      obtain rfl := Option.some.inj e'
      have := World.block_lt_of_cell? _ _ hc
      rwa [add_block] at this
    have HFAR := Aside0.mk hfar
    clear hfx hfar
    go_wp2_with fail
    refine (restart_in sort_tells HDW.out (fun k hk => (HDb.out k hk).2.1) A4 c4 x.f4 (fa_below' HFA.out HW1.out) (by omega) (fun ad e hl hk => by have := HFAR.out ad e hl; have := (HDb.out _ hk).1; omega) HFX.out).mono ?_
    rintro e w2 ⟨rfl, hD2, hT2⟩
    have e4' := (blk_cell (KX.out _ hT2) 4).trans (show (cellsAct x A3 c3 A4 c4)[4]? = some (.slice A4 x.f4.length c4) from rfl)
    obtain ⟨D2, E2, q1, q2, q3, q4⟩ := two_d HEW.out HDb.out HEb.out hwl (hD2.mono (fun _ h => .inl h)) hT2
    have Q1 := Aside0.mk q1
    have Q2 := Aside0.mk q2
    have Q3 := Aside0.mk q3
    have Q4 := Aside0.mk q4
    have HB2 := Aside0.mk (hT2.to_below HW1.out (fun k hk => (HDb.out k hk).1))
    clear hD2 hT2 q1 q2 q3 q4
    go_wp2_with fail
    refine (rrestart_in Q2.out (fun k hk => (Q4.out k hk).2) A4 c4 x.f4 (fa_below' HFA.out HB2.out) (by omega) (fun ad e hl hk => by have := HFAR.out ad e hl; have := (Q4.out _ hk).1; omega) HFX.out).mono ?_
    rintro e w3 ⟨rfl, hE3, hT3⟩
    have H3 := Aside0.mk (two_e Q1.out Q3.out Q4.out HB2.out.size hE3 hT3)
    have HB3 := Aside0.mk (hT3.to_below HB2.out (fun k hk => (Q4.out k hk).1))
    clear hE3 hT3
    go_wp2
    go_ret
    exact ⟨rfl, ⟨_, H3.out, rfl, by show (-1 : Int) ≤ _; decide⟩, HB3.out⟩
  · rw [h0] at e0
    go_wp2_with fail
    refine (rot_at HDW.out x.f1 x.f2 x.f5).mono ?_
    generalize hr : (if Inside s.n x.f1 x.f2 then (0 : Int) else 1) = r
    have HR := Lib.hid hr
    clear hr
    rintro e w2 ⟨rfl, hD2, hT2⟩
    have e1' := (blk_cell (KX.out _ hT2) 1).trans (show (cellsAct x A3 c3 A4 c4)[1]? = some (.int .i64 x.f1) from rfl)
    have e2' := (blk_cell (KX.out _ hT2) 2).trans (show (cellsAct x A3 c3 A4 c4)[2]? = some (.int .i64 x.f2) from rfl)
    have e5' := (blk_cell (KX.out _ hT2) 5).trans (show (cellsAct x A3 c3 A4 c4)[5]? = some (.int .u8 x.f5) from rfl)
    obtain ⟨D2, E2, q1, q2, q3, q4⟩ := two_d HEW.out HDb.out HEb.out hwl (hD2.mono (fun _ h => .inl h)) hT2
    have Q1 := Aside0.mk q1
    have Q2 := Aside0.mk q2
    have Q3 := Aside0.mk q3
    have Q4 := Aside0.mk q4
    have HB2 := Aside0.mk (hT2.to_below HW1.out (fun k hk => (HDb.out k hk).1))
    clear hD2 hT2 q1 q2 q3 q4
    go_wp2_with fail
    refine (rrot_at Q2.out (fun k hk => (Q4.out k hk).2) x.f1 x.f2 x.f5).mono ?_
    rw [HR.out]
    rintro e w3 ⟨rfl, hE3, hT3⟩
    have H3 := Aside0.mk (two_e Q1.out Q3.out Q4.out HB2.out.size hE3 hT3)
    have HB3 := Aside0.mk (hT3.to_below HB2.out (fun k hk => (Q4.out k hk).1))
    clear hE3 hT3
    go_wp2
    go_ret
    exact ⟨rfl, ⟨_, H3.out, rotted_nf s _ _ _ hf⟩, HB3.out⟩
  · have H3 := Aside0.mk (show Two w0 p q s s W1 from ⟨D, E, HDW.out, HEW.out, HDb.out, HEb.out⟩)
    go_wp2
    go_ret
    exact ⟨rfl, ⟨_, H3.out, rfl, hf⟩, HW1.out⟩
end Go.Proofs.Ytojpmihgpjmobaa.X
