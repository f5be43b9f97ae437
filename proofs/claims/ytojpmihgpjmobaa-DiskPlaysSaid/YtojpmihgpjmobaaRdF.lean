/- The reference's disk: Rot. -/
import Derived.Test.YtojpmihgpjmobaaRdE
import Derived.Test.YtojpmihgpjmobaaDkT
namespace Go.Proofs.Ytojpmihgpjmobaa.X
open Go Go.RowKit Go.Maps Go.Shelf Go.Proofs.Ytojpmihgpjmobaa Go.Proofs.YtojpmihgpjmobaaW.PrintWords Go.Proofs.YtojpmihgpjmobaaW.PrintLast Go.Proofs.YtojpmihgpjmobaaW.PrintMore
set_option linter.unusedVariables false
set_option linter.unusedSimpArgs false

def DS.rotted (s : DS) (a q b : Int) : DS := if Inside s.n a q then s.rot a.toNat q.toNat b else s
theorem rot_at {W : World} {p : Nat} {s : DS} {B : Nat → Prop} (h : DiskAt W p s B) (a q b : Int) :
    Calls Try.prog 19 #[dptr p, .int .i64 a, .int .i64 q, .int .u8 b] W fun e w' => e = .returned (.int .i64 (if Inside s.n a q then 0 else 1)) ∧ DiskAt w' p (s.rotted a q b) B ∧ Tn W w' B := by
  unfold DS.rotted
  by_cases hi : Inside s.n a q
  · rw [if_pos hi, if_pos hi]
    obtain ⟨h1, h2, h3, h4⟩ := hi
    obtain ⟨k, rfl⟩ := Int.eq_ofNat_of_zero_le h1
    obtain ⟨r, rfl⟩ := Int.eq_ofNat_of_zero_le h3
    exact rot_in h k r b (by omega) (by omega)
  · rw [if_neg hi, if_neg hi]
    refine (rot_out h a q b hi).mono ?_
    rintro e w' ⟨rfl, rfl⟩
    exact ⟨rfl, h, Tn.refl _ _⟩
theorem rrot_out {W : World} {p : Nat} {s : DS} {B : Nat → Prop} (h : RefAt W p s B) (a q b : Int) (ho : ¬ Inside s.n a q) :
    Calls Try.prog 39 #[dptr p, .int .i64 a, .int .i64 q, .int .u8 b] W fun e w' => e = .returned (.int .i64 1) ∧ w' = W := by
  obtain ⟨cb, G, hc, n1, n2, n3, _⟩ := h.cells
  have c0 := (blk_cell hc 0).trans rfl
  clear h hc
  have ho' : (a < 0 ∨ 0 ≤ a ∧ (s.n : Int) ≤ a) ∨ (0 ≤ a ∧ a < s.n ∧ q < 0) ∨ 0 ≤ a ∧ a < s.n ∧ 0 ≤ q ∧ 64 ≤ q := by unfold Inside at ho; omega
  clear ho
  rcases ho' with (h1 | ⟨h1, h2⟩) | ⟨h1, h2, h3⟩ | ⟨h1, h2, h3, h4⟩
  all_goals
    first
    | have g1 : ¬ a < 0 := by omega
    | skip
  all_goals
    first
    | have g2 : ¬ (s.n : Int) ≤ a := by omega
    | skip
  all_goals
    first
    | have g3 : ¬ q < 0 := by omega
    | skip
  all_goals
    go_enter Try.func39, Try.ntmps39
    go_wp2
    go_ret
    exact ⟨rfl, rfl⟩
theorem rot_fin {W w5 : World} {B : Nat → Prop} {p cb G : Nat} {vl vw : Nat → Value} {s : DS} (h : RHold W B p cb G vl vw s) (hb : Below W.heap.size W w5) (k r : Nat) (b : Int) (hk : k < s.n) (hr : r < 64) (v0 v1 : Value) (bb : Bool) (hbb : bb = (s.wt k).isSome)
    (h0 : RowIn w5 (New W B) v0 (fun i => if i = r then bits .xor .u8 (s.la (64 * k + i)) b else s.la (64 * k + i))) (h1 : ∀ f, s.wt k = some f → RowIn w5 (New W B) v1 (fun i => if i = r then bits .xor .u8 (f i) b else f i)) (hs : ∃ A m c, v1 = .slice A m c) :
    RefAt (((w5.setCell ⟨cb, k * 3, none⟩ v0).setCell ⟨cb, k * 3 + 1, none⟩ v1).setCell ⟨cb, k * 3 + 2, none⟩ (.bool bb)) p (s.rot k r b) (New W B) ∧ Tn W (((w5.setCell ⟨cb, k * 3, none⟩ v0).setCell ⟨cb, k * 3 + 1, none⟩ v1).setCell ⟨cb, k * 3 + 2, none⟩ (.bool bb)) B := by
  have hput := ((h.bnd.step (fun j _ hj => hb.block j hj)).mono (B1 := New W B) (fun j hj => .inl hj.1)).put3 hk v0 v1 ((s.wt k).map (fun f i => if i = r then bits .xor .u8 (f i) b else f i)) bb (by rw [hbb]; cases s.wt k <;> rfl) _ h0 (fun f hf => by
    cases hw : s.wt k with
    | none => rw [hw] at hf; cases hf
    | some f' =>
      rw [hw] at hf
      obtain rfl := Option.some.inj hf
      exact h1 f' hw) hs
  obtain ⟨⟨vl', vw', hq⟩, hT⟩ := hput
  refine ⟨⟨cb, G, vl', vw', hq.congr rfl rfl rfl (fun j _ => ?_) (fun k' _ => rfl)⟩, (Tn.of_below hb B).trans hT (fun j hj => hj)⟩
  show (if j = 64 * k + r then bits .xor .u8 (s.la j) b else s.la j) = if j / 64 = k then (if j % 64 = r then bits .xor .u8 (s.la (64 * k + j % 64)) b else s.la (64 * k + j % 64)) else s.la j
  by_cases e : j / 64 = k
  · rw [if_pos e, show 64 * k + j % 64 = j by omega]
    by_cases e2 : j % 64 = r
    · rw [if_pos e2, if_pos (by omega)]
    · rw [if_neg e2, if_neg (by omega)]
  · rw [if_neg e, if_neg (by omega)]
theorem row_put {w3 : World} {B : Nat → Prop} {g G q : Nat} {cur : Array Value} {f : Nat → Int} (h1 : 64 ≤ G) (h2 : G ≤ 9223372036854775807) (hB : B g) (h : w3.heap[g]? = some (.cells cur 5 (0, 0))) (hf : ∀ i, i < 64 → cur[i]? = some (.int .u8 (f i))) (hq : q < 64) (v : Int) : RowIn (w3.setCell ⟨g, q, none⟩ (.int .u8 v)) B (.slice (some ⟨g, 0, none⟩) 64 G) (fun i => if i = q then v else f i) :=
  ⟨g, G, _, rfl, h1, h2, hB, blk_set h q _, fun i hi => put_get hf hq v i hi⟩
set_option maxRecDepth 100000 in
set_option maxHeartbeats 8000000 in
theorem rrot_in {W : World} {p : Nat} {s : DS} {B : Nat → Prop} (h : RefAt W p s B) (hBs : ∀ k, B k → k < W.heap.size) (k q : Nat) (b : Int) (hk : k < s.n) (hq : q < 64) :
    Calls Try.prog 39 #[dptr p, .int .i64 k, .int .i64 q, .int .u8 b] W fun e w' => e = .returned (.int .i64 0) ∧ RefAt w' p (s.rot k q b) (New W B) ∧ Tn W w' B := by
  obtain ⟨cb, G, vl, vw, hH⟩ := h
  have c0 := (blk_cell hH.cell 0).trans rfl
  have hG := hH.hG
  have n2 := hH.n2
  obtain ⟨k0, k1, k2⟩ := hH.cs hk
  have hkn : (k : Int) < (s.n : Int) := by omega
  have hqn : (q : Int) < 64 := by omega
  obtain ⟨g0, G0, hv0⟩ : ∃ g0 G0, vl k = .slice (some ⟨g0, 0, none⟩) 64 G0 := by
    obtain ⟨g, G', cur, e, _⟩ := hH.la k hk
    exact ⟨g, G', e⟩
  obtain ⟨A1, m1, C1, hv1⟩ := hH.sw k hk
  rw [hv0] at k0
  rw [hv1] at k1
  have HHr := Aside0.mk hH
  clear hH
  go_enter Try.func39, Try.ntmps39
  go_upto_region 6 with (fail)
  obtain ⟨W1, hW1⟩ : ∃ W1, W1 = W.alloc (.cells #[.slice (some ⟨g0, 0, none⟩) 64 G0, .slice A1 m1 C1, .bool (s.wt k).isSome] 70) := ⟨_, rfl⟩
  rw [← hW1]
  have hbx : W1.heap[W.heap.size]? = some (.cells #[.slice (some ⟨g0, 0, none⟩) 64 G0, .slice A1 m1 C1, .bool (s.wt k).isSome] 70 (0, 0)) := by rw [hW1]; exact blk_new _ _
  have HB1 := Aside0.mk (show Below W.heap.size W W1 by rw [hW1]; exact (Below.refl _ _).alloc (Nat.le_refl _) _)
  clear hW1
  have hbxl := blk_lt hbx
  have hl0 : RowIn W1 B (.slice (some ⟨g0, 0, none⟩) 64 G0) (fun i => s.la (64 * k + i)) := (show RowIn W (fun k => B k ∧ k < W.heap.size) _ _ from by have := (HHr.out.la k hk).bound; rwa [hv0] at this).step (fun j hj _ _ => HB1.out.block j hj.2) (fun j hj => hj.1)
  obtain ⟨hG0, hG0m, curl, hl1, hl2⟩ := hl0.by_
  obtain ⟨ls, hls⟩ : ∃ ls, ls = (List.range 64).map fun i => s.la (64 * k + i) := ⟨_, rfl⟩
  have hll : ([] ++ ls).length = 64 := by rw [hls, List.nil_append, List.length_map, List.length_range]
  have HC0 := Aside0.mk (show (Kd.int .u8).C W1 (some ⟨g0, 0, none⟩) 64 ls by
    rw [hls]
    exact By.reads (.inr ⟨_, rfl, fun j hj => by rw [Addr.add_lit, Nat.zero_add]; exact (blk_cell hl1 j).trans (hl2 j hj)⟩) (by decide))
  have HLS := Aside0.mk (show ∀ i, i < 64 → ([] ++ ls).getD i 0 = s.la (64 * k + i) from fun i hi => by rw [hls, List.nil_append, List.getD_eq_getElem?_getD, List.getElem?_map, List.getElem?_range hi]; rfl)
  have HLL := Aside0.mk hll
  have hl64 : ([] : List Int).length + 64 ≤ 140737488355328 := by decide
  have HA0 := Aside0.mk ((Below.refl W1.heap.size W1).alloc (Nat.le_refl _) (.cells #[] 5))
  have HR0 := Aside0.mk (r_empty W1 W1.heap.size (fun k => W1.heap.size ≤ k) (Nat.le_refl _) (Nat.le_refl _))
  have b0 := (blk_cell (blk_alloc hbx (.cells #[] 5)) 0).trans rfl
  have HBX := Aside0.mk hbx
  clear hbx hl0 hl1 hl2 hls hll c0 k0 k1 k2
  go_wp2_with (refine Kd.R_append_rows (Kd.int .u8) (w0 := W1) W1.heap.size rfl (.tmp 38) (.tmp 40) 30 5 (.int .u8 0) 1 rfl Try.underlying30 (by kernel_rfl) rfl (by decide) (by decide) (.slice (some ⟨W1.heap.size, 0, none⟩) 0 0) [] ls (some ⟨g0, 0, none⟩) 64 G0 (fun k => W1.heap.size ≤ k) (fun _ => False) rfl rfl HR0.out (Kd.C_below HC0.out HA0.out) (fun _ _ h => h) (fun _ h => h.elim) (fun k h => Nat.le_trans HA0.out.size h) HA0.out HA0.out.size (by rw [Nat.mul_one]; exact hl64) ?_)
  intro v1 w2 hR2 hB2 hg2 hat2
  have hrow := RowIn.of_r hR2 HLL.out (fun k => W1.heap.size ≤ k) (fun k hk => hk)
  obtain ⟨gn, Gn, cur, hv, h1, h2, h3, h4, h5⟩ := hrow
  subst hv
  have h5' : ∀ i, i < 64 → cur[i]? = some (.int .u8 (s.la (64 * k + i))) := fun i hi => by rw [h5 i hi]; exact congrArg (fun z => some (Value.int .u8 z)) (HLS.out i hi)
  have hbx2 := (hB2.block W.heap.size hbxl).trans HBX.out
  have b2 := (blk_cell hbx2 0).trans rfl
  have d2 := blk_frozen hbx2 0
  have HBX2 := Aside0.mk hbx2
  have HB2 := Aside0.mk (HB1.out.trans (hB2.mono HB1.out.size))
  have H4 := Aside0.mk h4
  have H5 := Aside0.mk h5'
  clear hR2 hB2 hg2 hat2 h5 h5' hbx2 b0 h4 HR0 HA0 HC0 HLS HLL
  go_upto_region 7 with (fail)
  obtain ⟨w3, hw3⟩ : ∃ w3, w3 = w2.setCell ⟨W.heap.size, 0, none⟩ (.slice (some ⟨gn, 0, none⟩) 64 Gn) := ⟨_, rfl⟩
  rw [← hw3]
  have hgx : gn ≠ W.heap.size := by omega
  have hbx3 : w3.heap[W.heap.size]? = some (.cells #[.slice (some ⟨gn, 0, none⟩) 64 Gn, .slice A1 m1 C1, .bool (s.wt k).isSome] 70 (0, 0)) := by rw [hw3]; exact blk_put HBX2.out 0 _ rfl
  have hrow3 : w3.heap[gn]? = some (.cells cur 5 (0, 0)) := by rw [hw3]; exact (Below.heap_setCell _ ⟨W.heap.size, 0, none⟩ _ gn hgx).trans H4.out
  have HB3 := Aside0.mk (show Below W.heap.size W w3 by rw [hw3]; exact HB2.out.setCell (p := ⟨W.heap.size, 0, none⟩) (Nat.le_refl _) _)
  clear hw3
  have b3 := (blk_cell hbx3 0).trans rfl
  have r3 := (blk_cell hrow3 q).trans (H5.out q hq)
  have rf3 := blk_frozen hrow3 q
  obtain ⟨x, hx⟩ : ∃ x, x = s.la (64 * k + q) := ⟨_, rfl⟩
  rw [← hx] at r3
  have HX := Lib.hid hx
  have HBX3 := Aside0.mk hbx3
  have HRW3 := Aside0.mk hrow3
  clear hx hbx3 hrow3 b2 d2
  go_region
  obtain ⟨w4, hw4⟩ : ∃ w4, w4 = (w3.setCell ⟨gn, q, none⟩ (.int .u8 (bits BinOp.xor IntKind.u8 x b))).drew := ⟨_, rfl⟩
  rw [← hw4]
  have HR4 := Aside0.mk (show RowIn w4 (New W B) (.slice (some ⟨gn, 0, none⟩) 64 Gn) (fun i => if i = q then bits .xor .u8 (s.la (64 * k + i)) b else s.la (64 * k + i)) by
    rw [hw4]
    obtain ⟨g, G', c, e, z1, z2, z3, z4, z5⟩ := row_put (B := New W B) h1 h2 (.inr (Nat.le_trans HB1.out.size h3)) HRW3.out H5.out hq (bits .xor .u8 x b)
    exact ⟨g, G', c, e, z1, z2, z3, z4, fun i hi => by
      rw [z5 i hi]
      by_cases e : i = q
      · simp only [if_pos e]; rw [HX.out, e]
      · simp only [if_neg e]⟩)
  have hbx4 : w4.heap[W.heap.size]? = some (.cells #[.slice (some ⟨gn, 0, none⟩) 64 Gn, .slice A1 m1 C1, .bool (s.wt k).isSome] 70 (0, 0)) := by rw [hw4]; exact (Below.heap_setCell _ ⟨gn, q, none⟩ _ _ hgx.symm).trans HBX3.out
  have HB4 := Aside0.mk (show Below W.heap.size W w4 by rw [hw4]; exact (HB3.out.setCell (p := ⟨gn, q, none⟩) (by show W.heap.size ≤ gn; exact Nat.le_trans HB1.out.size h3) _).drew)
  clear hw4 b3 r3 rf3 HRW3 HBX3 HX H5 H4 HBX2 HB2 HB3 HBX
  have c4 := (blk_cell hbx4 0).trans rfl
  have c5 := (blk_cell hbx4 1).trans rfl
  have c6 := (blk_cell hbx4 2).trans rfl
  have HK4 := Aside0.mk (show ∀ w', Below W.heap.size W w' → w'.cell? ⟨p, 0, none⟩ = some (.slice (some ⟨cb, 0, none⟩) s.n G) ∧ (∃ a b c, w'.cell? ⟨cb, k * 3, none⟩ = some a ∧ w'.cell? ⟨cb, k * 3 + 1, none⟩ = some b ∧ w'.cell? ⟨cb, k * 3 + 2, none⟩ = some c) ∧ w'.frozen? ⟨cb, k * 3, none⟩ = false ∧ w'.frozen? ⟨cb, k * 3 + 1, none⟩ = false ∧ w'.frozen? ⟨cb, k * 3 + 2, none⟩ = false from fun w' hb => by
    have hh := HHr.out.bnd.step (W1 := w') (fun j _ hj => hb.block j hj)
    obtain ⟨a, b', c⟩ := hh.cs hk
    obtain ⟨cur, e, _⟩ := hh.row
    exact ⟨(blk_cell hh.cell 0).trans rfl, ⟨_, _, _, a, b', c⟩, blk_frozen e _, blk_frozen e _, blk_frozen e _⟩)
  cases hs : s.wt k with
  | none =>
    rw [hs] at c6
    have hf := rot_fin HHr.out HB4.out k q b hk hq (.slice (some ⟨gn, 0, none⟩) 64 Gn) (.slice A1 m1 C1) false (by rw [hs]; rfl) HR4.out (fun f hf => by rw [hs] at hf; cases hf) ⟨_, _, _, rfl⟩
    have HF := Aside0.mk hf
    obtain ⟨k0, ⟨ka, kb, kc, k1, k2, k3⟩, f1, f2, f3⟩ := HK4.out _ HB4.out
    clear hf hbx4 HK4
    go_upto_region 11 with (fail)
    go_region
    all_goals
      go_wp2
      go_ret
      exact ⟨rfl, HF.out.1.step (fun _ _ _ => rfl), HF.out.2.below (Below.refl _ _).drew⟩
  | some f =>
    rw [hs] at c6
    have hw0 := HHr.out.wt k f hk hs
    rw [hv1] at hw0
    obtain ⟨g1, G1, e1, e2, e3⟩ : ∃ g1 G1, A1 = some ⟨g1, 0, none⟩ ∧ m1 = 64 ∧ C1 = G1 := by
      obtain ⟨g, G', c, e, _⟩ := hw0
      injection e with z1 z2 z3
      exact ⟨g, G', z1, z2, z3⟩
    subst e1
    subst e2
    subst e3
    have hw4 : RowIn w4 B (.slice (some ⟨g1, 0, none⟩) 64 C1) f := hw0.bound.step (fun j hj _ _ => HB4.out.block j hj.2) (fun j hj => hj.1)
    obtain ⟨hG1, hG1m, curw, hw1, hw2⟩ := hw4.by_
    obtain ⟨ws, hws⟩ : ∃ ws, ws = (List.range 64).map f := ⟨_, rfl⟩
    have hwl : ([] ++ ws).length = 64 := by rw [hws, List.nil_append, List.length_map, List.length_range]
    have HC0 := Aside0.mk (show (Kd.int .u8).C w4 (some ⟨g1, 0, none⟩) 64 ws by
      rw [hws]
      exact By.reads (.inr ⟨_, rfl, fun j hj => by rw [Addr.add_lit, Nat.zero_add]; exact (blk_cell hw1 j).trans (hw2 j hj)⟩) (by decide))
    have HWS := Aside0.mk (show ∀ i, i < 64 → ([] ++ ws).getD i 0 = f i from fun i hi => by rw [hws, List.nil_append, List.getD_eq_getElem?_getD, List.getElem?_map, List.getElem?_range hi]; rfl)
    have HWL := Aside0.mk hwl
    have HA0 := Aside0.mk ((Below.refl w4.heap.size w4).alloc (Nat.le_refl _) (.cells #[] 5))
    have HR0 := Aside0.mk (r_empty w4 w4.heap.size (fun k => w4.heap.size ≤ k) (Nat.le_refl _) (Nat.le_refl _))
    have b0 := (blk_cell (blk_alloc hbx4 (.cells #[] 5)) 1).trans rfl
    have hbx4l := blk_lt hbx4
    have HBX4 := Aside0.mk hbx4
    have HS := Lib.hid hs
    clear hbx4 hw0 hw4 hw1 hw2 hws hwl hs
    go_wp2_with (refine Kd.R_append_rows (Kd.int .u8) (w0 := w4) w4.heap.size rfl (.tmp 56) (.tmp 58) 30 5 (.int .u8 0) 1 rfl Try.underlying30 (by kernel_rfl) rfl (by decide) (by decide) (.slice (some ⟨w4.heap.size, 0, none⟩) 0 0) [] ws (some ⟨g1, 0, none⟩) 64 C1 (fun k => w4.heap.size ≤ k) (fun _ => False) rfl rfl HR0.out (Kd.C_below HC0.out HA0.out) (fun _ _ h => h) (fun _ h => h.elim) (fun k h => Nat.le_trans HA0.out.size h) HA0.out HA0.out.size (by rw [Nat.mul_one]; exact hl64) ?_)
    intro v1 w5 hR5 hB5 hg5 hat5
    have hrow := RowIn.of_r hR5 HWL.out (fun k => w4.heap.size ≤ k) (fun k hk => hk)
    obtain ⟨gm, Gm, curm, hv, m1, m2, m3, m4, m5⟩ := hrow
    subst hv
    have m5' : ∀ i, i < 64 → curm[i]? = some (.int .u8 (f i)) := fun i hi => by rw [m5 i hi]; exact congrArg (fun z => some (Value.int .u8 z)) (HWS.out i hi)
    have hbx5 := (hB5.block W.heap.size hbx4l).trans HBX4.out
    have b2 := (blk_cell hbx5 1).trans rfl
    have d2 := blk_frozen hbx5 1
    have HBX5 := Aside0.mk hbx5
    have HB5 := Aside0.mk (HB4.out.trans (hB5.mono HB4.out.size))
    have HR5 := Aside0.mk (show RowIn w5 (New W B) (.slice (some ⟨gn, 0, none⟩) 64 Gn) _ from HR4.out.bound.step (fun j hj _ _ => hB5.block j hj.2) (fun j hj => hj.1))
    have M4 := Aside0.mk m4
    have M5 := Aside0.mk m5'
    clear hR5 hB5 hg5 hat5 m5 m5' hbx5 b0 m4 HR0 HA0 HC0 HWS HWL
    go_upto_region 10 with (fail)
    obtain ⟨w6, hw6⟩ : ∃ w6, w6 = w5.setCell ⟨W.heap.size, 1, none⟩ (.slice (some ⟨gm, 0, none⟩) 64 Gm) := ⟨_, rfl⟩
    rw [← hw6]
    have hgx6 : gm ≠ W.heap.size := by omega
    have hbx6 : w6.heap[W.heap.size]? = some (.cells #[.slice (some ⟨gn, 0, none⟩) 64 Gn, .slice (some ⟨gm, 0, none⟩) 64 Gm, .bool true] 70 (0, 0)) := by
      rw [hw6]
      refine blk_put HBX5.out 1 _ ?_
      rw [HS.out]
      rfl
    have hrow6 : w6.heap[gm]? = some (.cells curm 5 (0, 0)) := by rw [hw6]; exact (Below.heap_setCell _ ⟨W.heap.size, 1, none⟩ _ gm hgx6).trans M4.out
    have HR6 := Aside0.mk (show RowIn w6 (New W B) (.slice (some ⟨gn, 0, none⟩) 64 Gn) _ from HR5.out.step (fun j _ _ hc => by
      obtain ⟨c, hc⟩ := hc
      rw [hw6]
      exact Below.heap_setCell _ ⟨W.heap.size, 1, none⟩ _ j (blk_ne hc HBX5.out (by decide))) (fun _ h => h))
    have HB6 := Aside0.mk (show Below W.heap.size W w6 by rw [hw6]; exact HB5.out.setCell (p := ⟨W.heap.size, 1, none⟩) (Nat.le_refl _) _)
    clear hw6
    have b3 := (blk_cell hbx6 1).trans rfl
    have r3 := (blk_cell hrow6 q).trans (M5.out q hq)
    have rf3 := blk_frozen hrow6 q
    obtain ⟨x, hx⟩ : ∃ x, x = f q := ⟨_, rfl⟩
    rw [← hx] at r3
    have HX := Lib.hid hx
    have HBX6 := Aside0.mk hbx6
    have HRW6 := Aside0.mk hrow6
    have hgnm : gn ≠ gm := by
      intro e
      have h1 := HR4.out.bound
      obtain ⟨g', _, _, e1, _, _, h2, _⟩ := h1
      injection e1 with e1
      injection e1 with e1
      injection e1 with e1
      have := h2.2
      omega
    clear hx hbx6 hrow6 b2 d2
    go_region
    obtain ⟨w7, hw7⟩ : ∃ w7, w7 = (w6.setCell ⟨gm, q, none⟩ (.int .u8 (bits BinOp.xor IntKind.u8 x b))).drew := ⟨_, rfl⟩
    rw [← hw7]
    have hm3 : W.heap.size ≤ gm := Nat.le_trans HB4.out.size m3
    have HR7 := Aside0.mk (show RowIn w7 (New W B) (.slice (some ⟨gm, 0, none⟩) 64 Gm) (fun i => if i = q then bits .xor .u8 (f i) b else f i) by
      rw [hw7]
      obtain ⟨g, G', c, e, z1, z2, z3, z4, z5⟩ := row_put (B := New W B) m1 m2 (.inr hm3) HRW6.out M5.out hq (bits .xor .u8 x b)
      exact ⟨g, G', c, e, z1, z2, z3, z4, fun i hi => by
        rw [z5 i hi]
        by_cases e : i = q
        · simp only [if_pos e]; rw [HX.out, e]
        · simp only [if_neg e]⟩)
    have HQ7 := Aside0.mk (show RowIn w7 (New W B) (.slice (some ⟨gn, 0, none⟩) 64 Gn) (fun i => if i = q then bits .xor .u8 (s.la (64 * k + i)) b else s.la (64 * k + i)) by
      rw [hw7]
      obtain ⟨g, G', c, e, z1, z2, z3, z4, z5⟩ := HR6.out
      have eg : gn = g := by injection e with e; injection e with e; injection e with e
      exact ⟨g, G', c, e, z1, z2, z3, (Below.heap_setCell _ ⟨gm, q, none⟩ _ g (by rw [← eg]; exact hgnm)).trans z4, z5⟩)
    have hbx7 : w7.heap[W.heap.size]? = some (.cells #[.slice (some ⟨gn, 0, none⟩) 64 Gn, .slice (some ⟨gm, 0, none⟩) 64 Gm, .bool true] 70 (0, 0)) := by rw [hw7]; exact (Below.heap_setCell _ ⟨gm, q, none⟩ _ _ hgx6.symm).trans HBX6.out
    have HB7 := Aside0.mk (show Below W.heap.size W w7 by rw [hw7]; exact (HB6.out.setCell (p := ⟨gm, q, none⟩) hm3 _).drew)
    clear hw7 b3 r3 rf3 c4 c5 c6
    have e4 := (blk_cell hbx7 0).trans rfl
    have e5 := (blk_cell hbx7 1).trans rfl
    have e6 := (blk_cell hbx7 2).trans rfl
    have hf := rot_fin HHr.out HB7.out k q b hk hq (.slice (some ⟨gn, 0, none⟩) 64 Gn) (.slice (some ⟨gm, 0, none⟩) 64 Gm) true (by rw [HS.out]; rfl) HQ7.out (fun f' hf => by
      rw [HS.out] at hf
      obtain rfl := Option.some.inj hf
      exact HR7.out) ⟨_, _, _, rfl⟩
    have HF := Aside0.mk hf
    obtain ⟨k0, ⟨ka, kb, kc, k1, k2, k3⟩, f1, f2, f3⟩ := HK4.out _ HB7.out
    clear hf hbx7 HK4
    go_upto_region 11 with (fail)
    go_region
    all_goals
      go_wp2
      go_ret
      exact ⟨rfl, HF.out.1.step (fun _ _ _ => rfl), HF.out.2.below (Below.refl _ _).drew⟩
theorem rrot_at {W : World} {p : Nat} {s : DS} {B : Nat → Prop} (h : RefAt W p s B) (hBs : ∀ k, B k → k < W.heap.size) (a q b : Int) :
    Calls Try.prog 39 #[dptr p, .int .i64 a, .int .i64 q, .int .u8 b] W fun e w' => e = .returned (.int .i64 (if Inside s.n a q then 0 else 1)) ∧ RefAt w' p (s.rotted a q b) (New W B) ∧ Tn W w' B := by
  unfold DS.rotted
  by_cases hi : Inside s.n a q
  · rw [if_pos hi, if_pos hi]
    obtain ⟨h1, h2, h3, h4⟩ := hi
    obtain ⟨k, rfl⟩ := Int.eq_ofNat_of_zero_le h1
    obtain ⟨r, rfl⟩ := Int.eq_ofNat_of_zero_le h3
    exact rrot_in h hBs k r b (by omega) (by omega)
  · rw [if_neg hi, if_neg hi]
    refine (rrot_out h a q b hi).mono ?_
    rintro e w' ⟨rfl, rfl⟩
    exact ⟨rfl, h.mono (fun _ h => .inl h), Tn.refl _ _⟩
end Go.Proofs.Ytojpmihgpjmobaa.X
