/- The reference's disk: Write. -/
import Derived.Test.YtojpmihgpjmobaaRdE
namespace Go.Proofs.Ytojpmihgpjmobaa.X
open Go Go.RowKit Go.Maps Go.Shelf Go.Proofs.Ytojpmihgpjmobaa Go.Proofs.YtojpmihgpjmobaaW.PrintWords Go.Proofs.YtojpmihgpjmobaaW.PrintLast Go.Proofs.YtojpmihgpjmobaaW.PrintMore
set_option linter.unusedVariables false
set_option linter.unusedSimpArgs false

theorem slice_mid (ad : Addr) (n c i : Nat) (h : 64 * i + 64 ≤ n) (hc : n ≤ c) (W : World) : (Instr.slice 30 (.slice (some ad) n c) (some (.int .i64 ((i : Int) * 64))) (some (.int .i64 (((i : Int) + 1) * 64))) none).run Try.prog W = .ok (.slice (some (ad.add (64 * i))) 64 (c - 64 * i)) W := by
  have e := run_slice_lh (P := Try.prog) (w := W) 30 (some ad) n c Try.underlying30 .i64 .i64 ((i : Int) * 64) (((i : Int) + 1) * 64) (by omega) (by omega) (by omega)
  rw [e]
  have e2 : Try.prog.elem 30 = 5 := by kernel_rfl
  rw [e2, size_u8r]
  simp only [Result.andThen, sliced]
  rw [if_neg (by omega), show ((i : Int) * 64).toNat = 64 * i by omega, show (((i : Int) + 1) * 64).toNat = 64 * i + 64 by omega, show 64 * i + 64 - 64 * i = 64 by omega, Nat.mul_one]
  rfl
/-- The first i sectors of a write put. -/
def DS.putTo (s : DS) (k i : Nat) (f : Nat → Int) : DS := { s with wt := fun j => if k ≤ j ∧ j < k + i then some (fun c => f (64 * (j - k) + c)) else s.wt j }
theorem RHold.put2c {W : World} {B : Nat → Prop} {q cb G : Nat} {vl vw : Nat → Value} {s : DS} (h : RHold W B q cb G vl vw s) {k : Nat} (hk : k < s.n) (v1 : Value) (f : Nat → Int) (hw : RowIn W B v1 f) :
    (∃ vl vw, RHold ((W.setCell ⟨cb, k * 3 + 1, none⟩ v1).setCell ⟨cb, k * 3 + 2, none⟩ (.bool true)) B q cb G vl vw { s with wt := fun j => if j = k then some f else s.wt j }) ∧ Tn W ((W.setCell ⟨cb, k * 3 + 1, none⟩ v1).setCell ⟨cb, k * 3 + 2, none⟩ (.bool true)) B := by
  have hG := h.hG
  have ho : ∀ j, j ≠ cb → ((W.setCell ⟨cb, k * 3 + 1, none⟩ v1).setCell ⟨cb, k * 3 + 2, none⟩ (.bool true)).heap[j]? = W.heap[j]? := fun j hj => by
    rw [Below.heap_setCell _ ⟨cb, _, none⟩ _ j hj, Below.heap_setCell _ ⟨cb, _, none⟩ _ j hj]
  have hrow : ∀ {v : Value} {f : Nat → Int}, RowIn W B v f → RowIn ((W.setCell ⟨cb, k * 3 + 1, none⟩ v1).setCell ⟨cb, k * 3 + 2, none⟩ (.bool true)) B v f := fun hr => hr.step (fun j _ _ ⟨c, hcc⟩ => by
    obtain ⟨cur, e, _⟩ := h.row
    exact ho j (blk_ne hcc e (by decide))) (fun _ h => h)
  have hsl : ∃ A m c, v1 = .slice A m c := by obtain ⟨g, G', c, e, _⟩ := hw; exact ⟨_, _, _, e⟩
  refine ⟨?_, ((Tn.refl W B).setCell (p := ⟨cb, k * 3 + 1, none⟩) (.inl h.bc) _).setCell (p := ⟨cb, k * 3 + 2, none⟩) (.inl h.bc) _⟩
  have hp := h.put hk (vl k) v1 (some f) (fun c => s.la (64 * k + c)) (fun _ h => h) (fun j _ hj => ho j hj) (fun cur e => ?_) (hrow (h.la k hk)) (fun f' hf => by obtain rfl := Option.some.inj hf; exact hrow hw) hsl
  · exact ⟨_, _, hp.congr rfl rfl rfl (fun j hj => by
      show s.la j = if j / 64 = k then s.la (64 * k + j % 64) else s.la j
      by_cases e : j / 64 = k
      · rw [if_pos e, show 64 * k + j % 64 = j by omega]
      · rw [if_neg e]) (fun j hj => rfl)⟩
  · obtain ⟨c2, e2, r1, r2⟩ := h.row
    rw [e] at e2
    have e3 := (Obj.cells.inj (Option.some.inj e2)).1
    subst e3
    refine ⟨_, blk_set (blk_set e _ _) _ _, by simp, ?_, ?_, ?_, fun j z1 z2 z3 => ?_⟩
    · rw [Array.getElem?_setIfInBounds_ne (by omega), Array.getElem?_setIfInBounds_ne (by omega)]
      exact (r2 k hk).1
    · rw [Array.getElem?_setIfInBounds_ne (by omega), Array.getElem?_setIfInBounds_self_of_lt (by omega)]
    · rw [Array.getElem?_setIfInBounds_self_of_lt (by simp; omega)]
      rfl
    · rw [Array.getElem?_setIfInBounds_ne (by omega), Array.getElem?_setIfInBounds_ne (by omega)]
theorem putTo_next {s : DS} {k i : Nat} {f : Nat → Int} (j : Nat) : (s.putTo k (i + 1) f).wt j = if j = k + i then some (fun c => f (64 * i + c)) else (s.putTo k i f).wt j := by
  show (if k ≤ j ∧ j < k + (i + 1) then some (fun c => f (64 * (j - k) + c)) else s.wt j) = if j = k + i then _ else if k ≤ j ∧ j < k + i then some (fun c => f (64 * (j - k) + c)) else s.wt j
  by_cases e : j = k + i
  · rw [if_pos (by omega), if_pos e, show j - k = i by omega]
  · rw [if_neg e]
    by_cases e2 : k ≤ j ∧ j < k + i
    · rw [if_pos (by omega), if_pos e2]
    · rw [if_neg (by omega), if_neg e2]
theorem putTo_all {s : DS} {k m : Nat} {f : Nat → Int} (j : Nat) : (s.putL k ((List.finRange m).map fun x i => f (64 * x.val + i))).wt j = (s.putTo k m f).wt j := by
  show (if k ≤ j ∧ j < k + ((List.finRange m).map fun (x : Fin m) i => f (64 * x.val + i)).length then ((List.finRange m).map fun (x : Fin m) i => f (64 * x.val + i))[j - k]? else s.wt j) = if k ≤ j ∧ j < k + m then some (fun c => f (64 * (j - k) + c)) else s.wt j
  rw [List.length_map, List.length_finRange]
  by_cases e : k ≤ j ∧ j < k + m
  · rw [if_pos e, if_pos e, List.getElem?_map, List.getElem?_eq_getElem (by rw [List.length_finRange]; omega), List.getElem_finRange]
    rfl
  · rw [if_neg e, if_neg e]
theorem put_mid {w2 : World} {B : Nat → Prop} {p cb G : Nat} {vl vw : Nat → Value} {s : DS} (hh : RHold w2 B p cb G vl vw s) (j : Nat) (hj : j < s.n) (v : Value) :
    (w2.setCell ⟨cb, j * 3 + 1, none⟩ v).cell? ⟨p, 0, none⟩ = some (.slice (some ⟨cb, 0, none⟩) s.n G) ∧ (w2.setCell ⟨cb, j * 3 + 1, none⟩ v).cell? ⟨cb, j * 3 + 2, none⟩ = some (.bool (s.wt j).isSome) ∧ (w2.setCell ⟨cb, j * 3 + 1, none⟩ v).frozen? ⟨cb, j * 3 + 2, none⟩ = false := by
  obtain ⟨cur, e, r1, r2⟩ := hh.row
  refine ⟨?_, ?_, blk_frozen (blk_set e _ _) _⟩
  · exact (cell_heap (Below.heap_setCell _ ⟨cb, _, none⟩ _ p (blk_ne hh.cell e (by decide))) 0).trans ((blk_cell hh.cell 0).trans rfl)
  · rw [blk_cell (blk_set e _ _), Array.getElem?_setIfInBounds_ne (by omega)]
    exact (r2 j hj).2.2
set_option maxRecDepth 100000 in
set_option maxHeartbeats 8000000 in
theorem rwrite_in {W : World} {p : Nat} {s : DS} {B : Nat → Prop} (h : RefAt W p s B) (hBs : ∀ k, B k → k < W.heap.size) (hd : s.dead = false) (hf0 : s.fuse ≠ 0) (hf : s.fuse ≤ 9223372036854775807) (k m c : Nat) (A : Option Addr) (f : Nat → Int)
    (hkm : k + m ≤ s.n) (hAB : ∀ ad, A = some ad → 0 < m → ¬ B ad.block) (hby : By W A (64 * m) f) (hc : 64 * m ≤ c) :
    Calls Try.prog 34 #[dptr p, .int .i64 k, .slice A (64 * m) c] W fun e w' => e = .returned (.int .i64 0) ∧ RefAt w' p (s.burnt.putL k ((List.finRange m).map fun x i => f (64 * x.val + i))) (New W B) ∧ Tn W w' B := by
  obtain ⟨_, _, hcs, n1, n2, _⟩ := h.cells
  have c1 := (blk_cell hcs 1).trans rfl
  rw [hd] at c1
  have ht : thereB s.n k m = true := by unfold thereB; simp; omega
  have H := Aside0.mk h
  have HBY := Aside0.mk hby
  have HAB := Aside0.mk hAB
  have HBS := Aside0.mk hBs
  have hq64 : (64 * (m : Int)).tdiv 64 = (m : Int) := by rw [Int.tdiv_eq_ediv_of_nonneg (by omega)]; omega
  have hr64 : (64 * (m : Int)).tmod 64 = 0 := by rw [Int.tmod_eq_emod_of_nonneg (by omega)]; omega
  clear h hcs hby hAB hBs
  go_enter Try.func34, Try.ntmps34
  go_wp2_with fail
  refine (rthere_any H.out k m).mono ?_
  rw [ht]
  rintro e w2' ⟨rfl, hq⟩
  obtain rfl := hq.symm
  go_wp2_with fail
  refine (rburn_any H.out hf).mono ?_
  rw [if_neg hf0]
  rintro e w1 ⟨rfl, hR, hT⟩
  obtain ⟨s1, hs1⟩ : ∃ s1, s1 = s.burnt := ⟨_, rfl⟩
  have hn1 : s1.n = s.n := by rw [hs1]; exact burnt_n s
  rw [← hs1] at hR
  have HS1 := Lib.hid hs1
  have n2' : s1.n ≤ 65536 := by rw [hn1]; exact n2
  have hkm1 : k + m ≤ s1.n := by rw [hn1]; exact hkm
  obtain ⟨cb, G, vl, vw, hH⟩ := hR
  have hG := hH.hG
  have HH := Aside0.mk (show ∃ vl vw, RHold w1 (New W B) p cb G vl vw (s1.putTo k 0 f) from ⟨vl, vw, (hH.mono (fun k h => .inl h)).congr rfl rfl rfl (fun j _ => rfl) (fun j _ => by show (if k ≤ j ∧ j < k + 0 then some _ else s1.wt j) = _; rw [if_neg (by omega)])⟩)
  have HT := Aside0.mk hT
  clear hH hT hs1 hn1 ht
  go_wp2
  go_loopw [8] (fun ii wr => ∃ i : Nat, i ≤ m ∧ ii = .int .i64 i ∧ Aside0 (∃ vl vw, RHold wr (New W B) p cb G vl vw (s1.putTo k i f)) ∧ Aside0 (Tn W wr B)) (fun ii _ => m - (intOf ii).toNat)
  case atStart => exact ⟨0, Nat.zero_le _, rfl, HH, HT⟩
  case round =>
    obtain ⟨i, hi, rfl, hS, hT⟩ := hrel
    obtain ⟨vl, vw, hH⟩ := hS.out
    by_cases hlt : i < m
    · have c0 : wr.cell? ⟨p, 0, none⟩ = some (.slice (some ⟨cb, 0, none⟩) s1.n G) := (blk_cell hH.cell 0).trans rfl
      have hki : k + i < s1.n := by omega
      obtain ⟨ad, hA, hrd⟩ : ∃ ad, A = some ad ∧ ∀ j, j < 64 * m → W.cell? (ad.add j) = some (.int .u8 (f j)) := by
        rcases HBY.out with h0 | h0
        · omega
        · exact h0
      have hnB := HAB.out ad hA (by omega)
      subst hA
      have j1 := slice_mid ad (64 * m) c i (by omega) hc
      obtain ⟨zs, hzs⟩ : ∃ zs, zs = (List.range 64).map fun j => f (64 * i + j) := ⟨_, rfl⟩
      have hzl : ([] ++ zs).length = 64 := by rw [hzs, List.nil_append, List.length_map, List.length_range]
      have hadW : ad.block < W.heap.size := by have := World.block_lt_of_cell? W _ (hrd 0 (by omega)); rwa [add_block] at this
      have HC0 := Aside0.mk (show (Kd.int .u8).C wr (some (ad.add (64 * i))) 64 zs by
        rw [hzs]
        refine By.reads (.inr ⟨_, rfl, fun j hj => ?_⟩) (by decide)
        rw [Addr.add_add]
        have h1 := hrd (64 * i + j) (by omega)
        rw [← h1]
        simp only [World.cell?, add_block]
        rw [hT.out.block _ hadW hnB])
      have HZS := Aside0.mk (show ∀ j, j < 64 → ([] ++ zs).getD j 0 = f (64 * i + j) from fun j hj => by rw [hzs, List.nil_append, List.getD_eq_getElem?_getD, List.getElem?_map, List.getElem?_range hj]; rfl)
      have HZL := Aside0.mk hzl
      have hl64 : ([] : List Int).length + 64 ≤ 140737488355328 := by decide
      have HA0 := Aside0.mk ((Below.refl wr.heap.size wr).alloc (Nat.le_refl _) (.cells #[] 5))
      have HR0 := Aside0.mk (r_empty wr wr.heap.size (fun k => wr.heap.size ≤ k) (Nat.le_refl _) (Nat.le_refl _))
      have HHr := Aside0.mk hH
      have HK := Aside0.mk (show ∀ w', Below wr.heap.size wr w' → w'.cell? ⟨p, 0, none⟩ = some (.slice (some ⟨cb, 0, none⟩) s1.n G) ∧ (∃ b c, w'.cell? ⟨cb, (k + i) * 3 + 1, none⟩ = some b ∧ w'.cell? ⟨cb, (k + i) * 3 + 2, none⟩ = some c) ∧ w'.frozen? ⟨cb, (k + i) * 3 + 1, none⟩ = false ∧ w'.frozen? ⟨cb, (k + i) * 3 + 2, none⟩ = false from fun w' hb => by
        have hh := HHr.out.bnd.step (W1 := w') (fun j _ hj => hb.block j hj)
        obtain ⟨a, b', c⟩ := hh.cs (k := k + i) hki
        obtain ⟨cur, e, _⟩ := hh.row
        exact ⟨(blk_cell hh.cell 0).trans rfl, ⟨_, _, b', c⟩, blk_frozen e _, blk_frozen e _⟩)
      obtain ⟨a0, _⟩ := HK.out _ HA0.out
      have w1' : IntKind.i64.wrap ((k : Int) + (i : Int)) = (k : Int) + (i : Int) := by rw [IntKind.wrap_i64]; omega
      have w2 : IntKind.i64.wrap ((i : Int) * 64) = (i : Int) * 64 := by rw [IntKind.wrap_i64]; omega
      have w3 : IntKind.i64.wrap ((i : Int) + 1) = (i : Int) + 1 := by rw [IntKind.wrap_i64]; omega
      have w4 : IntKind.i64.wrap (((i : Int) + 1) * 64) = ((i : Int) + 1) * 64 := by rw [IntKind.wrap_i64]; omega
      have z1 : (0 : Int) ≤ (k : Int) + (i : Int) := by omega
      have z2 : (k : Int) + (i : Int) < (s1.n : Int) := by omega
      have z3 : ((k : Int) + (i : Int)).toNat = k + i := by omega
      have z4 : k + i < s1.n := hki
      clear hH hrd hzs hzl
      go_upto_region 15 with (fail)
      go_region_law (first | (refine Kd.R_append_rows_step (Kd.int .u8) (w0 := wr) wr.heap.size rfl (.tmp 42) (.tmp 49) 30 5 (.int .u8 0) 1 rfl Try.underlying30 (by kernel_rfl) rfl (by decide) (by decide) (.slice (some ⟨wr.heap.size, 0, none⟩) 0 0) [] zs (some (ad.add (64 * i))) 64 (c - 64 * i) (fun k => wr.heap.size ≤ k) (fun _ => False) rfl rfl (Kd.R_drew HR0.out) (Kd.C_below HC0.out HA0.out.drew) (fun _ _ h => h) (fun _ h => h.elim) (fun k h => Nat.le_trans HA0.out.size h) HA0.out.drew HA0.out.size (by rw [Nat.mul_one]; exact hl64) ?_; intro v2 w2 hR2 hB2 hg2 hat2; obtain ⟨A2, C2, hv2, _, _⟩ := Kd.R_reads hR2; rw [HZL.out] at hv2; have HR2 := Aside0.mk hR2; have HB2 := Aside0.mk hB2; clear hR2; subst hv2; obtain ⟨c02, ⟨ka, kb, k12, k22⟩, f12, f22⟩ := HK.out _ hB2))
      all_goals
        have hrow : RowIn w2 (New W B) (.slice A2 64 C2) (fun j => f (64 * i + j)) := by
          obtain ⟨g, G', cur, e, h1, h2, h3, h4, h5⟩ := RowIn.of_r HR2.out HZL.out (New W B) (fun k hk => .inr (Nat.le_trans hT.out.size hk))
          exact ⟨g, G', cur, e, h1, h2, h3, h4, fun j hj => by rw [h5 j hj]; exact congrArg (fun z => some (Value.int .u8 z)) (HZS.out j hj)⟩
        have hh2 := ((HHr.out.bnd.step (fun j hj1 hj2 => HB2.out.block j hj2)).mono (B1 := New W B) (fun j hj => hj.1))
        obtain ⟨p1, p2, p3⟩ := put_mid hh2 (k + i) hki (.slice A2 64 C2)
        have hput := hh2.put2c (k := k + i) hki (.slice A2 64 C2) (fun j => f (64 * i + j)) hrow
        obtain ⟨w3, hw3⟩ : ∃ w3, w3 = w2.setCell ⟨cb, (k + i) * 3 + 1, none⟩ (.slice A2 64 C2) := ⟨_, rfl⟩
        rw [← hw3] at p1 p2 p3 hput ⊢
        have HP := Aside0.mk (show ∃ vl vw, RHold _ (New W B) p cb G vl vw (s1.putTo k (i + 1) f) from by
          obtain ⟨vl', vw', hq⟩ := hput.1
          exact ⟨vl', vw', hq.congr rfl rfl rfl (fun j _ => rfl) (fun j _ => putTo_next j)⟩)
        have HPT := Aside0.mk ((hT.out.below HB2.out).trans hput.2 (fun k hk => hk))
        clear hput hrow hh2 hw3 c02 k12 k22 f12 f22 a0
        go_wp2
        go_roundw
        case rel => exact ⟨i + 1, by omega, by go_num, HP, HPT⟩
        case measure => simp [intOf]; omega
    · obtain rfl : i = m := by omega
      go_wp2
      go_ret
      refine ⟨rfl, ?_, hT.out⟩
      rw [← HS1.out]
      exact ⟨cb, G, vl, vw, hH.congr rfl rfl rfl (fun j hj => rfl) (fun j hj => putTo_all j)⟩
end Go.Proofs.Ytojpmihgpjmobaa.X
