/- The reference's disk: Restart. -/
import Derived.Test.YtojpmihgpjmobaaRdD
namespace Go.Proofs.Ytojpmihgpjmobaa.X
open Go Go.RowKit Go.Maps Go.Shelf Go.Proofs.Ytojpmihgpjmobaa Go.Proofs.YtojpmihgpjmobaaW.PrintWords Go.Proofs.YtojpmihgpjmobaaW.PrintLast Go.Proofs.YtojpmihgpjmobaaW.PrintMore
set_option linter.unusedVariables false
set_option linter.unusedSimpArgs false

theorem back_same {s : DS} {fates : List Int} {i : Nat} (h : s.wt i = none) : (∀ j, (s.backTo fates (i + 1)).la j = (s.backTo fates i).la j) ∧ ∀ k, (s.backTo fates (i + 1)).wt k = (s.backTo fates i).wt k := by
  refine ⟨fun j => ?_, fun k => ?_⟩
  · show (if j / 64 < i + 1 then s.left fates j else s.la j) = if j / 64 < i then s.left fates j else s.la j
    by_cases e : j / 64 = i
    · rw [if_pos (by omega), if_neg (by omega), DS.left_none (by rw [e]; exact h)]
    · by_cases e2 : j / 64 < i
      · rw [if_pos (by omega), if_pos e2]
      · rw [if_neg (by omega), if_neg e2]
  · show (if k < i + 1 then none else s.wt k) = if k < i then none else s.wt k
    by_cases e : k = i
    · rw [if_pos (by omega), if_neg (by omega), e, h]
    · by_cases e2 : k < i
      · rw [if_pos (by omega), if_pos e2]
      · rw [if_neg (by omega), if_neg e2]
theorem back_next {s : DS} {fates : List Int} {i : Nat} {g : Nat → Int} (h : ∀ c, c < 64 → g c = s.left fates (64 * i + c)) : (∀ j, (s.backTo fates (i + 1)).la j = if j / 64 = i then g (j % 64) else (s.backTo fates i).la j) ∧ ∀ k, (s.backTo fates (i + 1)).wt k = if k = i then none else (s.backTo fates i).wt k := by
  refine ⟨fun j => ?_, fun k => ?_⟩
  · show (if j / 64 < i + 1 then s.left fates j else s.la j) = if j / 64 = i then g (j % 64) else if j / 64 < i then s.left fates j else s.la j
    by_cases e : j / 64 = i
    · rw [if_pos (by omega), if_pos e, h _ (by omega), show 64 * i + j % 64 = j by omega]
    · by_cases e2 : j / 64 < i
      · rw [if_pos (by omega), if_neg e, if_pos e2]
      · rw [if_neg (by omega), if_neg e, if_neg e2]
  · show (if k < i + 1 then none else s.wt k) = if k = i then none else if k < i then none else s.wt k
    by_cases e : k = i
    · rw [if_pos (by omega), if_pos e]
    · by_cases e2 : k < i
      · rw [if_pos (by omega), if_neg e, if_pos e2]
      · rw [if_neg (by omega), if_neg e, if_neg e2]
theorem RowIn.by_ {W : World} {B : Nat → Prop} {g G : Nat} {f : Nat → Int} (h : RowIn W B (.slice (some ⟨g, 0, none⟩) 64 G) f) : 64 ≤ G ∧ G ≤ 9223372036854775807 ∧ ∃ cur, W.heap[g]? = some (.cells cur 5 (0, 0)) ∧ ∀ i, i < 64 → cur[i]? = some (.int .u8 (f i)) := by
  obtain ⟨g', G', cur, e, h1, h2, h3, h4, h5⟩ := h
  injection e with e1 e2 e3
  injection e1 with e1
  injection e1 with e1
  subst e1
  subst e3
  exact ⟨h1, h2, cur, h4, h5⟩
theorem RHold.bnd {W : World} {B : Nat → Prop} {q cb G : Nat} {vl vw : Nat → Value} {s : DS} (hH : RHold W B q cb G vl vw s) : RHold W (fun k => B k ∧ k < W.heap.size) q cb G vl vw s :=
  { cell := hH.cell, row := hH.row, la := fun k hk => (hH.la k hk).bound, wt := fun k f hk hf => (hH.wt k f hk hf).bound, sw := hH.sw, bq := ⟨hH.bq, blk_lt hH.cell⟩, bc := ⟨hH.bc, by obtain ⟨cur, e, _⟩ := hH.row; exact blk_lt e⟩, hG := hH.hG, hG2 := hH.hG2, n1 := hH.n1, n2 := hH.n2 }
set_option maxRecDepth 100000 in
set_option maxHeartbeats 8000000 in
theorem rrestart_in {W : World} {p : Nat} {s : DS} {B : Nat → Prop} (h : RefAt W p s B) (hBs : ∀ k, B k → k < W.heap.size) (A : Option Addr) (cf : Nat) (fates : List Int) (hf : FaAt W A fates) (hfl : fates.length ≤ 140737488355328) (hAB : ∀ ad, A = some ad → 0 < fates.length → ¬ B ad.block) (hfr : ∀ x ∈ fates, -9223372036854775808 ≤ x ∧ x ≤ 9223372036854775807) :
    Calls Try.prog 25 #[dptr p, .slice A fates.length cf] W fun e w' => e = .returned (.tuple #[]) ∧ RefAt w' p (s.restart fates) (New W B) ∧ Tn W w' B := by
  obtain ⟨cb, G, vl, vw, hH⟩ := h
  have c0 := (blk_cell hH.cell 0).trans rfl
  have hG := hH.hG
  have n2 := hH.n2
  have HH := Aside0.mk (show ∃ vl vw, RHold W (New W B) p cb G vl vw (s.backTo fates 0) from ⟨vl, vw, (hH.mono (fun k h => .inl h)).congr rfl rfl rfl (fun j _ => by show (if j / 64 < 0 then s.left fates j else s.la j) = _; rw [if_neg (by omega)]) (fun k _ => by show (if k < 0 then none else s.wt k) = _; rw [if_neg (by omega)])⟩)
  have HF := Aside0.mk hf
  have HFR := Aside0.mk hfr
  have HAB := Aside0.mk hAB
  have HBS := Aside0.mk hBs
  clear hH hf hfr hAB hBs
  go_enter Try.func25, Try.ntmps25
  go_wp2
  go_loopw [4, 5] (fun kk ii wr => ∃ i : Nat, i ≤ s.n ∧ ii = .int .i64 i ∧ kk = .int .i64 ((s.cntTo i : Nat) : Int) ∧ Aside0 (∃ vl vw, RHold wr (New W B) p cb G vl vw (s.backTo fates i)) ∧ Aside0 (Tn W wr B)) (fun _ ii _ => s.n - (intOf ii).toNat)
  case atStart => exact ⟨0, Nat.zero_le _, rfl, rfl, HH, ⟨Tn.refl _ _⟩⟩
  case round =>
    clear c0
    obtain ⟨i, hi, rfl, rfl, hS, hT⟩ := hrel
    obtain ⟨vl, vw, hH⟩ := hS.out
    have c0 : wr.cell? ⟨p, 0, none⟩ = some (.slice (some ⟨cb, 0, none⟩) s.n G) := (blk_cell hH.cell 0).trans rfl
    have f0 : ∀ j, wr.frozen? ⟨cb, j, none⟩ = false := by obtain ⟨cur, e, _⟩ := hH.row; exact fun j => blk_frozen e j
    have hcl := cntTo_le s i
    have hcs := cntTo_succ s i
    by_cases hlt : i < s.n
    · have hlt2 : (i : Int) < (s.n : Int) := by omega
      obtain ⟨k0, k1, k2⟩ := hH.cs (k := i) hlt
      have hwt : (s.backTo fates i).wt i = s.wt i := by show (if i < i then none else s.wt i) = _; rw [if_neg (by omega)]
      rw [hwt] at k2
      cases hs : s.wt i with
      | none =>
        rw [hs] at k2 hcs
        have HCS := Lib.hid hcs
        have HH2 := Aside0.mk (show ∃ vl vw, RHold wr (New W B) p cb G vl vw (s.backTo fates (i + 1)) from ⟨vl, vw, hH.congr rfl rfl rfl (fun j _ => (back_same hs).1 j) (fun k _ => (back_same hs).2 k)⟩)
        clear hH hs hwt hcs
        go_wp2
        go_roundw
        case rel => exact ⟨i + 1, by omega, by go_num, by rw [HCS.out]; rfl, HH2, hT⟩
        case measure => simp [intOf]; omega
      | some f =>
        rw [hs] at k2 hcs
        have HCS := Lib.hid hcs
        have HW := Aside0.mk (hH.wt i f hlt (by rw [hwt]; exact hs))
        have HL := Aside0.mk (hH.la i hlt)
        have HHr := Aside0.mk hH
        have HS := Lib.hid hs
        have F0 := Aside0.mk f0
        clear hH hs hwt f0 hcs
        go_upto_if 31 with (fail)
        go_cut [6] (fun v wc => v = .int .i64 ((takes s fates i : Nat) : Int) ∧ wr = wc)
        case first =>
          by_cases hif : s.cntTo i < fates.length
          · obtain ⟨x, hx⟩ : ∃ x, fates[s.cntTo i]? = some x := ⟨_, List.getElem?_eq_getElem hif⟩
            have hxg : fates.getD (s.cntTo i) 0 = x := by rw [List.getD_eq_getElem?_getD, hx]; rfl
            have hxr := HFR.out x (List.mem_of_getElem? hx)
            obtain ⟨adf, hAf, hcf⟩ := HF.out (s.cntTo i) x hx
            have hnB := HAB.out adf hAf (by omega)
            have hfW : adf.block < W.heap.size := by have := World.block_lt_of_cell? W _ hcf; rwa [add_block] at this
            subst hAf
            have cfa : wr.cell? (adf.add (s.cntTo i)) = some (.int .i64 x) := by rw [← hcf]; simp only [World.cell?, add_block]; rw [hT.out.block _ hfW hnB]
            have r1 : -65 < x.tmod 65 := by have := Int.tmod_lt_of_pos (-x) (show (0 : Int) < 65 by decide); rw [Int.neg_tmod] at this; omega
            have r2 : x.tmod 65 < 65 := Int.tmod_lt_of_pos x (by decide)
            have w1 : IntKind.i64.wrap (x.tmod 65 + 65) = x.tmod 65 + 65 := by rw [IntKind.wrap_i64]; omega
            have hcx : (x.tmod 65 + 65).tmod 65 = ((takes s fates i : Nat) : Int) := by
              unfold takes
              rw [if_pos hif, hxg]
              unfold cut
              rw [Int.tmod_eq_emod_of_nonneg (by omega)]
              omega
            clear hcf hnB hx hxg
            generalize s.cntTo i = kk at *
            go_wp2
            go_meet
            exact ⟨rfl, rfl⟩
          · have ht : takes s fates i = 0 := by unfold takes; rw [if_neg hif]
            have HT0 := Lib.hid ht
            clear ht
            go_wp2
            go_meet
            exact ⟨by rw [HT0.out]; rfl, rfl⟩
        case rest =>
          obtain ⟨rfl, hwc⟩ := hcut
          subst hwc
          obtain ⟨g0, G0, hv0⟩ : ∃ g0 G0, vl i = .slice (some ⟨g0, 0, none⟩) 64 G0 := by
            obtain ⟨g, G', cur, e, _⟩ := HL.out
            exact ⟨g, G', e⟩
          obtain ⟨g1, G1, hv1⟩ : ∃ g1 G1, vw i = .slice (some ⟨g1, 0, none⟩) 64 G1 := by
            obtain ⟨g, G', cur, e, _⟩ := HW.out
            exact ⟨g, G', e⟩
          rw [hv0] at k0
          rw [hv0] at HL
          rw [hv1] at k1
          rw [hv1] at HW
          obtain ⟨hG0, hG0m, curl, hl1, hl2⟩ := HL.out.by_
          obtain ⟨hG1, hG1m, curw, hw1, hw2⟩ := HW.out.by_
          have hc64 := takes_le s fates i
          have HBK := Aside0.mk (backs s fates i HS.out _ rfl)
          obtain ⟨c, hc⟩ : ∃ c, c = takes s fates i := ⟨_, rfl⟩
          rw [← hc] at hc64 HBK ⊢
          obtain ⟨Af, Cf, hsl, hby⟩ := slice_from g0 G0 c hc64 hG0
          have HLa := Aside0.mk ((hby wr curl _ hl1 hl2).reads (by omega))
          have HWa := Aside0.mk ((show By wr (some ⟨g1, 0, none⟩) c f from .inr ⟨_, rfl, fun j hj => by rw [Addr.add_lit, Nat.zero_add]; exact (blk_cell hw1 j).trans (hw2 j (by omega))⟩).reads (by omega))
          have hG1c : (c : Int) ≤ (G1 : Int) := by omega
          have hG1p : ¬ G1 = 0 := by omega
          obtain ⟨ws, hws⟩ : ∃ ws, ws = (List.range c).map f := ⟨_, rfl⟩
          obtain ⟨ls, hls⟩ : ∃ ls, ls = (List.range (64 - c)).map fun j => s.la (64 * i + (c + j)) := ⟨_, rfl⟩
          have hls2 : ((List.range (64 - c)).map fun j => (s.backTo fates i).la (64 * i + (c + j))) = ls := by
            rw [hls]
            refine List.map_congr_left fun j hj => ?_
            have hj' := List.mem_range.1 hj
            show (if (64 * i + (c + j)) / 64 < i then s.left fates (64 * i + (c + j)) else s.la (64 * i + (c + j))) = _
            rw [if_neg (by omega)]
          have HLb := Aside0.mk (show (Kd.int .u8).C wr Af (64 - c) ls by rw [← hls2]; exact HLa.out)
          rw [← hws] at HWa
          rw [← hws, ← hls] at HBK
          have hwl : ws.length = c := by rw [hws, List.length_map, List.length_range]
          have hcb : cb < wr.heap.size := World.block_lt_of_cell? _ _ k0
          have hKp : ∀ W' : World, Below wr.heap.size wr W' → W'.cell? ⟨p, 0, none⟩ = some (.slice (some ⟨cb, 0, none⟩) s.n G) ∧ (W'.cell? ⟨cb, i * 3, none⟩ = some (.slice (some ⟨g0, 0, none⟩) 64 G0) ∧ W'.cell? ⟨cb, i * 3 + 1, none⟩ = some (.slice (some ⟨g1, 0, none⟩) 64 G1) ∧ W'.cell? ⟨cb, i * 3 + 2, none⟩ = some (.bool (some f).isSome)) ∧ ∀ j, W'.frozen? ⟨cb, j, none⟩ = false := fun W' hb =>
            ⟨(hb.cell (World.block_lt_of_cell? _ _ c0)).trans c0, ⟨(hb.cell (World.block_lt_of_cell? _ _ k0)).trans k0, (hb.cell (World.block_lt_of_cell? _ _ k1)).trans k1, (hb.cell (World.block_lt_of_cell? _ _ k2)).trans k2⟩, fun j => (hb.frozen (p := ⟨cb, j, none⟩) hcb).trans (F0.out j)⟩
          have HKP := Aside0.mk hKp
          have HB0 := Aside0.mk ((Below.refl wr.heap.size wr).alloc (Nat.le_refl _) (.cells #[] 5))
          have HR0 := Aside0.mk (r_empty wr wr.heap.size (fun k => wr.heap.size ≤ k) (Nat.le_refl _) (Nat.le_refl _))
          have hl1' : ([] : List Int).length + c ≤ 140737488355328 := by show 0 + c ≤ _; omega
          have hrl : ([] ++ ws).length + (64 - c) ≤ 140737488355328 := by rw [List.nil_append, hwl]; omega
          have HLEN := Aside0.mk (show (([] ++ ws) ++ ls).length = 64 from HBK.out.1)
          have HC := Lib.hid hc
          obtain ⟨a0, ⟨a1, a2, a3⟩, _⟩ := HKP.out _ HB0.out
          clear hw1 hw2 hl2 hby hls hls2 hwl hKp hws hl1 HLa hv0 hv1 hc
          go_wp2_with (refine Kd.R_append_rows (Kd.int .u8) (w0 := wr) wr.heap.size rfl (.tmp 41) (.tmp 51) 30 5 (.int .u8 0) 1 rfl Try.underlying30 (by kernel_rfl) rfl (by decide) (by decide) (.slice (some ⟨wr.heap.size, 0, none⟩) 0 0) [] ws (some ⟨g1, 0, none⟩) c G1 (fun k => wr.heap.size ≤ k) (fun _ => False) rfl rfl HR0.out (Kd.C_below HWa.out HB0.out) (fun _ _ h => h) (fun _ h => h.elim) (fun k h => Nat.le_trans HB0.out.size h) HB0.out HB0.out.size (by rw [Nat.mul_one]; exact hl1') ?_)
          intro v1 w1 hR1 hB1 hg1 hat1
          obtain ⟨c0', ⟨k0', k1', k2'⟩, _⟩ := HKP.out _ hB1
          have HR1 := Aside0.mk hR1
          have HB1 := Aside0.mk hB1
          clear hR1 hB1 hg1 hat1 c0 k0 k1 k2 a0 a1 a2 a3
          go_upto_region 11 with (fail)
          go_region_law (first | (refine Kd.R_append_rows_step (Kd.int .u8) (w0 := wr) wr.heap.size rfl (.tmp 58) (.tmp 68) 30 5 (.int .u8 0) 1 rfl Try.underlying30 (by kernel_rfl) rfl (by decide) (by decide) v1 ([] ++ ws) ls Af (64 - c) Cf (fun k => wr.heap.size ≤ k) (fun _ => False) rfl rfl (Kd.R_drew HR1.out) (Kd.C_below HLb.out HB1.out.drew) (fun _ _ h => h) (fun _ h => h.elim) (fun k h => Nat.le_trans HB1.out.size h) HB1.out.drew HB1.out.size (by rw [Nat.mul_one]; exact hrl) ?_; intro v2 w2 hR2 hB2 hg2 hat2; obtain ⟨A2, C2, hv2, _, _⟩ := Kd.R_reads hR2; rw [HLEN.out] at hv2; have HR2 := Aside0.mk hR2; have HB2 := Aside0.mk hB2; clear hR2; subst hv2; obtain ⟨c02, ⟨k02, k12, k22⟩, f02⟩ := HKP.out _ hB2; have f02a := f02 (i * 3); have f02b := f02 (i * 3 + 1); have f02c := f02 (i * 3 + 2); clear f02))
          all_goals
            have hrow := RowIn.of_r HR2.out HLEN.out (New W B) (fun k hk => .inr (Nat.le_trans hT.out.size hk))
            have hrow2 : RowIn w2 (New W B) (.slice A2 64 C2) (fun c => s.left fates (64 * i + c)) := by
              obtain ⟨g, G', cur, e, h1, h2, h3, h4, h5⟩ := hrow
              exact ⟨g, G', cur, e, h1, h2, h3, h4, fun j hj => by rw [h5 j hj]; exact congrArg (fun z => some (Value.int .u8 z)) (HBK.out.2 j hj)⟩
            have hput := ((HHr.out.bnd.step (fun k hk1 hk2 => HB2.out.block k hk2)).mono (fun k hk => hk.1)).put3 hlt (.slice A2 64 C2) (.slice none 0 0) none false rfl (fun c => s.left fates (64 * i + c)) hrow2 (fun _ h => by cases h) ⟨_, _, _, rfl⟩
            have HP := Aside0.mk (show ∃ vl vw, RHold _ (New W B) p cb G vl vw (s.backTo fates (i + 1)) from by
              obtain ⟨vl', vw', hq⟩ := hput.1
              have hn := back_next (s := s) (fates := fates) (i := i) (g := fun c => s.left fates (64 * i + c)) (fun _ _ => rfl)
              exact ⟨vl', vw', hq.congr rfl rfl rfl (fun j _ => hn.1 j) (fun k _ => hn.2 k)⟩)
            have HPT := Aside0.mk ((hT.out.below HB2.out).trans hput.2 (fun k hk => hk))
            clear hput hrow hrow2
            go_wp2
            go_roundw
            case rel => exact ⟨i + 1, by omega, by go_num, by rw [HCS.out]; go_num, HP, HPT⟩
            case measure => simp [intOf]; omega
    · obtain rfl : i = s.n := by omega
      have HP := Aside0.mk ((show RefAt wr p (s.backTo fates s.n) (New W B) from ⟨cb, G, vl, vw, hH⟩).put2 false (-1))
      have c1 := (blk_cell hH.cell 1).trans rfl
      have c2 := (blk_cell hH.cell 2).trans rfl
      have f1 := blk_frozen hH.cell 1
      have f2 := blk_frozen hH.cell 2
      clear hcs hH f0
      go_wp2
      go_end0
      refine ⟨rfl, ?_, hT.out.trans HP.out.2 (fun k hk => hk)⟩
      obtain ⟨cb', G', vl', vw', hq⟩ := HP.out.1
      exact ⟨cb', G', vl', vw', hq.congr rfl rfl rfl (fun j hj => by
        have hj' : j < 64 * s.n := hj
        show s.left fates j = if j / 64 < s.n then s.left fates j else s.la j
        rw [if_pos (by omega)]) (fun k hk => by
        have hk' : k < s.n := hk
        show none = if k < s.n then none else s.wt k
        rw [if_pos hk'])⟩
end Go.Proofs.Ytojpmihgpjmobaa.X
