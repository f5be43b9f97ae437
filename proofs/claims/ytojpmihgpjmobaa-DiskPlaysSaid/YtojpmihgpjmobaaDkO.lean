/- The disk: Restart, the walk. -/
import Derived.Test.YtojpmihgpjmobaaDkN
import Derived.Test.YtojpmihgpjmobaaDkK
namespace Go.Proofs.Ytojpmihgpjmobaa.X
open Go Go.RowKit Go.Maps Go.Shelf Go.Proofs.Ytojpmihgpjmobaa Go.Proofs.YtojpmihgpjmobaaW.PrintWords Go.Proofs.YtojpmihgpjmobaaW.PrintLast Go.Proofs.YtojpmihgpjmobaaW.PrintMore
set_option linter.unusedVariables false
set_option linter.unusedSimpArgs false

/-- Ints that are read. -/
def FaAt (W : World) (A : Option Addr) (xs : List Int) : Prop := ∀ (i : Nat) (x : Int), xs[i]? = some x → ∃ ad : Addr, A = some ad ∧ W.cell? (ad.add i) = some (.int .i64 x)
theorem FaAt.of_reads {W : World} {A : Option Addr} {xs : List Int} (h : (Kd.int .i64).C W A xs.length xs) : FaAt W A xs := fun i x hx => by
  have hi := (List.getElem?_eq_some_iff.1 hx).1
  obtain ⟨ad, c, e, _, hK, hcell⟩ := Kd.C_get h 0 (i : Int) (by omega) (by omega)
  refine ⟨ad, e, ?_⟩
  rw [show c = _ from hK] at hcell
  have := hcell 0 _ rfl
  rw [Int.toNat_natCast, show i * (Kd.int .i64).sz + 0 = i by show i * 1 + 0 = i; omega, List.getD_eq_getElem?_getD, hx] at this
  exact this
set_option maxRecDepth 100000 in
set_option maxHeartbeats 4000000 in
theorem restart_in (HS : SortTells) {W : World} {p : Nat} {s : DS} {B : Nat → Prop} (h : DiskAt W p s B) (hBs : ∀ k, B k → k < W.heap.size) (A : Option Addr) (cf : Nat) (fates : List Int) (hf : FaAt W A fates) (hfl : fates.length ≤ 140737488355328) (hAB : ∀ ad, A = some ad → 0 < fates.length → ¬ B ad.block) (hfr : ∀ x ∈ fates, -9223372036854775808 ≤ x ∧ x ≤ 9223372036854775807) :
    Calls Try.prog 16 #[dptr p, .slice A fates.length cf] W fun e w' => e = .returned (.tuple #[]) ∧ DiskAt w' p (s.restart fates) B ∧ Tn W w' B := by
  have mixed : Try.prog.follows Departure.mixedOrders = true := by kernel_rfl
  obtain ⟨lb, mb, D, wb, hH, hBp, hBl, hBm, hBw⟩ := h
  have c1 := (blk_cell hH.cell 1).trans rfl
  have hlts := hH.lts
  have n2 := hH.n2
  have hkl : s.keys.length ≤ 65536 := Nat.le_trans (cnt_le s) n2
  have HH := Aside0.mk hH
  have HF := Aside0.mk hf
  have HBs := Aside0.mk hBs
  have HBW := Aside0.mk hBw
  have HFR := Aside0.mk hfr
  clear hH hf hBs hBw hfr
  go_enter Try.func16, Try.ntmps16
  go_wp2_with fail
  refine (keys_any (some mb) _).mono ?_
  rintro e w1 ⟨rfl, hw1⟩
  subst hw1
  go_wp2_with fail
  refine (HS W p lb mb D wb s HH.out).mono ?_
  rintro e w2 ⟨⟨v, rfl, hK⟩, hb⟩
  obtain ⟨A', G', rfl, hKc⟩ : ∃ A' G', v = .slice A' s.keys.length G' ∧ ∀ (i k : Nat), s.keys[i]? = some k → ∃ g, A' = some ⟨g, 0, none⟩ ∧ (∃ cur, w2.heap[g]? = some (.cells cur 3 (0, 0))) ∧ w2.cell? ⟨g, i, none⟩ = some (.int .i64 (k : Int)) := by
    rcases hK with ⟨h0, A', G, rfl⟩ | ⟨g, G, cur, rfl, q1, q2⟩
    · exact ⟨A', G, by rw [h0]; rfl, fun i k hk => by rw [h0] at hk; simp at hk⟩
    · exact ⟨_, G, rfl, fun i k hk => ⟨g, rfl, ⟨cur, q1⟩, (blk_cell q1 i).trans (q2 i k hk)⟩⟩
  have hB2 : Below W.heap.size W w2 := hb
  have HKC := Aside0.mk hKc
  have HB2 := Aside0.mk hB2
  have HM0 := Aside0.mk (show ∃ D', Hold w2 p lb mb D' wb (s.rest fates 0) from ⟨D, by rw [DS.rest_zero]; exact HH.out.step (hB2.block p hlts.1) (hB2.block lb hlts.2.1) (hB2.block mb hlts.2.2.1) (fun k hk => hB2.block _ (hlts.2.2.2 k hk))⟩)
  clear hb hB2 hK hKc c1
  go_wp2
  go_loopw [15] (fun ii wr => ∃ i : Nat, i ≤ s.keys.length ∧ ii = .int .i64 i ∧ Aside0 (∃ D', Hold wr p lb mb D' wb (s.rest fates i)) ∧ Aside0 (Tn w2 wr (fun k => k = lb ∨ k = mb))) (fun ii _ => s.keys.length - (intOf ii).toNat)
  case atStart => exact ⟨0, Nat.zero_le _, rfl, HM0, ⟨Tn.refl _ _⟩⟩
  case round =>
    obtain ⟨i, hi, rfl, hM, hT⟩ := hrel
    clear HM0
    by_cases hlt : i < s.keys.length
    · obtain ⟨k, hk⟩ : ∃ k, s.keys[i]? = some k := ⟨_, List.getElem?_eq_getElem hlt⟩
      obtain ⟨hks, hidx, hkn⟩ := DS.keys_at hk
      obtain ⟨g, hg1, ⟨curg, hgb⟩, hg2⟩ := HKC.out i k hk
      subst hg1
      obtain ⟨D', hHr⟩ := hM.out
      have hglb : g ≠ lb ∧ g ≠ mb := by
        constructor
        · have q := hHr.last
          obtain ⟨curl, q1, _⟩ := HH.out.last
          exact blk_ne hgb ((HB2.out.block lb hlts.2.1).trans q1) (by decide)
        · obtain ⟨es, clock, q', _⟩ := HH.out.map
          have q2 := (HB2.out.block mb hlts.2.2.1).trans q'
          intro e
          rw [e, q2] at hgb
          cases hgb
      have cg : wr.cell? ⟨g, i, none⟩ = some (.int .i64 (k : Int)) := (cell_heap (hT.out.block g (blk_lt hgb) (fun e => e.elim hglb.1 hglb.2)) i).trans hg2
      have c1 := (blk_cell hHr.cell 1).trans rfl
      obtain ⟨f, hf⟩ := Option.isSome_iff_exists.1 hks
      have hfr : (s.rest fates i).wt k = some f := by show (if s.idx k < i then none else s.wt k) = some f; rw [if_neg (by omega)]; exact hf
      have hfrs : ((s.rest fates i).wt k).isSome = true := by rw [hfr]; rfl
      by_cases hif : i < fates.length
      · have hd : decide ((i : Int) < (fates.length : Int)) = true := decide_eq_true (by omega)
        obtain ⟨x, hx⟩ : ∃ x, fates[i]? = some x := ⟨_, List.getElem?_eq_getElem hif⟩
        have hxg : fates.getD i 0 = x := by rw [List.getD_eq_getElem?_getD, hx]; rfl
        have hxr := HFR.out x (List.mem_of_getElem? hx)
        obtain ⟨adf, hAf, hcf⟩ := HF.out i x hx
        have hnB := hAB adf hAf (by omega)
        have hfW : adf.block < W.heap.size := by have := World.block_lt_of_cell? W _ hcf; rwa [add_block] at this
        subst hAf
        have hfb : wr.heap[adf.block]? = W.heap[adf.block]? := (hT.out.block _ (Nat.lt_of_lt_of_le hfW HB2.out.size) (fun e => e.elim (fun e => hnB (by rw [e]; exact hBl)) (fun e => hnB (by rw [e]; exact hBm)))).trans (HB2.out.block _ hfW)
        have cfa : wr.cell? (adf.add i) = some (.int .i64 x) := by rw [← hcf]; simp [World.cell?, add_block, hfb]
        have r1 : -65 < x.tmod 65 := by have := Int.tmod_lt_of_pos (-x) (show (0 : Int) < 65 by decide); rw [Int.neg_tmod] at this; omega
        have r2 : x.tmod 65 < 65 := Int.tmod_lt_of_pos x (by decide)
        have w1 : IntKind.i64.wrap (x.tmod 65 + 65) = x.tmod 65 + 65 := by rw [IntKind.wrap_i64]; omega
        have hcx : (x.tmod 65 + 65).tmod 65 = ((cut x : Nat) : Int) := by
          unfold cut
          rw [Int.tmod_eq_emod_of_nonneg (by omega)]
          omega
        have hc64 := cut_le x
        have hHd : Hold wr.drew p lb mb D' wb (s.rest fates i) := hHr.step rfl rfl rfl (fun _ _ => rfl)
        obtain ⟨c', hc', hby, hrun⟩ := look1 hHd k (by omega) hfr
        have b1 : ((cut x : Nat) : Int) ≤ (c' : Int) := by omega
        obtain ⟨curl, hl1, hl2, hl3⟩ := hHd.last
        have hl2' : curl.size = 64 * s.n := hl2
        have hby' : By wr.drew (some ⟨wb k, 0, none⟩) (cut x) f := by
          rcases hby with h0 | ⟨ad, e, hr⟩
          · omega
          · exact .inr ⟨ad, e, fun j hj => hr j (by omega)⟩
        obtain ⟨w4, cur', hcp, hblk', hsz', hin, hout, hT4⟩ := copy_run (W := wr.drew) (g := lb) (o := 64 * k) (dLen := 64) (dCap := 64 * s.n - 64 * k) (sLen := cut x) (sCap := c') (n := cut x) hl1 (by simp only [Nat.min_def]; split <;> omega) hby' (by omega)
        have hHl : Hold w4 p lb mb D' wb { s.rest fates i with la := fun j => if j / 64 = k then s.left fates j else (s.rest fates i).la j } := hHd.relast (fun j hj hne => hT4.block j hj hne) _ hblk' (by rw [hsz']; exact hl2) (fun j hj => by
          have hj' : j < 64 * s.n := hj
          have hold : j / 64 = k → (s.rest fates i).la j = s.la j := fun e => by
            show (if s.idx (j / 64) < i then s.left fates j else s.la j) = s.la j
            rw [e, if_neg (by omega)]
          have hleft : j / 64 = k → s.left fates j = if j % 64 < cut x then f (j % 64) else s.la j := fun e => by
            unfold DS.left
            rw [e, hf]
            show (if s.idx k < fates.length ∧ j % 64 < cut (fates.getD (s.idx k) 0) then f (j % 64) else s.la j) = _
            rw [hidx, hxg]
            by_cases hc : j % 64 < cut x
            · rw [if_pos ⟨hif, hc⟩, if_pos hc]
            · rw [if_neg (fun h => hc h.2), if_neg hc]
          by_cases e : j / 64 = k
          · rw [if_pos e, hleft e]
            by_cases hc : j % 64 < cut x
            · rw [if_pos hc, hin j (by omega) (by omega), show j - 64 * k = j % 64 by omega]
            · rw [if_neg hc, hout j (by omega), hl3 j hj, hold e]
          · rw [if_neg e, hout j (by omega), hl3 j hj])
        have HHL := Aside0.mk hHl
        have HHD := Aside0.mk hHd
        have hpl : p ≠ lb := blk_ne hHd.cell hl1 (by decide)
        have hfl2 : adf.block ≠ lb := fun e => hnB (by rw [e]; exact hBl)
        have c14 : w4.cell? ⟨p, 1, none⟩ = some (.map (some mb)) := (blk_cell hHl.cell 1).trans rfl
        have cf4 : w4.cell? (adf.add i) = some (.int .i64 x) := by
          have hb4 := hT4.block adf.block (show adf.block < wr.drew.heap.size from Nat.lt_of_lt_of_le (Nat.lt_of_lt_of_le hfW HB2.out.size) hT.out.size) hfl2
          rw [← cfa]
          show _ = wr.drew.cell? _
          simp only [World.cell?, add_block]
          rw [hb4]
        have HT4 := Aside0.mk (show Tn wr w4 (fun k => k = lb) from ⟨hT4.os, hT4.tape, hT4.output, hT4.size, hT4.block⟩)
        have hsec := sector_any hHd k hkn
        rw [show (s.rest fates i).n = s.n from rfl] at hsec
        have HSEC := Aside0.mk hsec
        clear hHl hHd hHr hM hblk' hin hout hT4 hl1 hl2 hl3 hl2' hby hby' hsz' hsec hcf hfb
        go_upto_region 5 with (fail)
        go_region_held3 (fun W' => W'.cell? ⟨p, 1, none⟩ = some (.map (some mb)) ∧ W'.cell? (adf.add i) = some (.int .i64 x))
          (first | exact ⟨c1, cfa⟩ | exact ⟨c14, cf4⟩)
          (first
            | (go_at_call 31; refine HSEC.out.mono ?_; rintro e w5' ⟨rfl, hq⟩; obtain rfl := hq.symm)
            | (refine step_copy_runI rfl (.tmp 26) (.tmp 40) 30 30 rfl (.slice (some ⟨lb, 64 * k, none⟩) 64 (64 * s.n - 64 * k)) (.slice (some ⟨wb k, 0, none⟩) (cut x) c') (by simp [Act.eval, Act.put]) (by simp [Act.eval, Act.put]) (hcp _) ?_))
        all_goals
          go_wp2_with (at_delete; refine wpList_delete_own _ rfl _ _ 55 3 rfl 30 (int_keyed Try.underlying3) Try.underlying55 slR mb _ D' rfl HHL.out.map _ (keyL k) rfl (key_at k (by omega)) ?_)
          intro w5 hown5 hturn5
          have HM5 := Aside0.mk (show ∃ D', Hold w5 p lb mb D' wb (s.rest fates (i + 1)) from ⟨_, by rw [DS.rest_next hks hidx]; exact HHL.out.del hfrs hown5 hturn5.grown⟩)
          have HT5 := Aside0.mk ((hT.out.trans HT4.out (fun k hk => .inl (.inl hk))).trans (Tn.of_grown (B := fun k => k = mb) hturn5.grown (fun k hk => (Option.some.inj hk).symm)) (fun k hk => .inl (.inr hk)))
          clear hown5 hturn5 HHL HT4 HSEC
          go_wp2
          go_roundw
          case rel => exact ⟨i + 1, by omega, by go_num, HM5, HT5⟩
          case measure => simp [intOf]; omega
      · have hd : decide ((i : Int) < (fates.length : Int)) = false := decide_eq_false (by omega)
        have hHl : Hold wr p lb mb D' wb { s.rest fates i with la := fun j => if j / 64 = k then s.left fates j else (s.rest fates i).la j } := hHr.la_eq _ (fun j hj => by
          by_cases e : j / 64 = k
          · rw [if_pos e]
            show s.left fates j = if s.idx (j / 64) < i then s.left fates j else s.la j
            rw [e, if_neg (by omega)]
            unfold DS.left
            rw [e, hf]
            show (if s.idx k < fates.length ∧ j % 64 < cut (fates.getD (s.idx k) 0) then f (j % 64) else s.la j) = s.la j
            rw [if_neg (fun h => hif (by omega))]
          · rw [if_neg e])
        have HHL := Aside0.mk hHl
        clear hHl hHr hM
        go_wp2_with (at_delete; refine wpList_delete_own _ rfl _ _ 55 3 rfl 30 (int_keyed Try.underlying3) Try.underlying55 slR mb _ D' rfl HHL.out.map _ (keyL k) rfl (key_at k (by omega)) ?_)
        intro w5 hown5 hturn5
        have HM5 := Aside0.mk (show ∃ D', Hold w5 p lb mb D' wb (s.rest fates (i + 1)) from ⟨_, by rw [DS.rest_next hks hidx]; exact HHL.out.del hfrs hown5 hturn5.grown⟩)
        have HT5 := Aside0.mk (hT.out.trans (Tn.of_grown (B := fun k => k = mb) hturn5.grown (fun k hk => (Option.some.inj hk).symm)) (fun k hk => .inl (.inr hk)))
        clear hown5 hturn5 HHL
        go_wp2
        go_roundw
        case rel => exact ⟨i + 1, by omega, by go_num, HM5, HT5⟩
        case measure => simp [intOf]; omega
    · obtain rfl : i = s.keys.length := by omega
      obtain ⟨D', hHr⟩ := hM.out
      have hDA : DiskAt wr p (s.rest fates s.keys.length) B := ⟨lb, mb, D', wb, hHr, hBp, hBl, hBm, fun k hk => HBW.out k (by
        have : (if s.idx k < s.keys.length then none else s.wt k).isSome = true := hk
        split at this
        · cases this
        · exact this)⟩
      have HP := Aside0.mk (hDA.put2 false (-1))
      rw [DS.rest_all (W := W) (p := p) (lb := lb) (mb := mb) (D := D) (wb := wb) s HH.out.lim fates] at HP
      have HTf := Aside0.mk ((Tn.of_below HB2.out B).trans hT.out (fun k hk => .inl (hk.elim (fun e => by rw [e]; exact hBl) (fun e => by rw [e]; exact hBm))))
      have c2 := (blk_cell hHr.cell 2).trans rfl
      have c3 := (blk_cell hHr.cell 3).trans rfl
      have f2 := blk_frozen hHr.cell 2
      have f3 := blk_frozen hHr.cell 3
      clear hHr hDA hM
      go_wp2
      go_end0
      exact ⟨rfl, HP.out.1, HTf.out.then_ HP.out.2⟩
end Go.Proofs.Ytojpmihgpjmobaa.X
