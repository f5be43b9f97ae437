/- TreeOwn: the law's walk. -/
import Derived.Test.YthpecpkncifngaaDoorOwG
import Derived.Deep.RegionHeld3
import Derived.Deep.DeepCutAuto
namespace Go.Proofs.YthpecpkncifngaaDoor.X
open Go Go.RowKit Go.Shelf Go.Proofs.YthpecpkncifngaaDoor Go.Proofs.YthpecpkncifngaaDoorW.PrintWords Go.Proofs.YthpecpkncifngaaDoorW.PrintLast Go.Proofs.YthpecpkncifngaaDoorW.PrintMore Go.Proofs.YthpecpkncifngaaDoor.Pure
set_option linter.unusedVariables false
set_option linter.unusedSimpArgs false

theorem drew_below {w w1 : World} (h : Below w.drew.heap.size w.drew w1) : Below w.heap.size w w1 := (below_drew (Below.refl w.heap.size w)).trans h
set_option maxRecDepth 100000 in
set_option maxHeartbeats 8000000 in
theorem treeOwn_walk (A : Option Addr) (c : Nat) (xs : List S26) (y : S26) (A4 : Option Addr) (c4 : Nat) (root : ByteArray) (w : World) (hr : Kd.C k26 w A xs.length xs) (hc : xs.length ≤ c) (hm : xs.length * 80 ≤ 140737488351232) (hb4 : ∀ x ∈ xs, x.f4.length ≤ 140737488351232) (hb0 : ∀ x ∈ xs, x.f0.size ≤ 140737488351232)
    (hy0 : y.f0.size ≤ 140737488351232) (hl : y.f4.length ≤ c4) (hy4 : y.f4.length ≤ 140737488351232) (hr4 : (Kd.int .u8).C w A4 y.f4.length y.f4) :
    Calls Tryd.prog 10 #[.slice A xs.length c, .agg (cellsIt y A4 c4), .string root] w fun e w' => e = .returned (.bool true) ∧ Below w.heap.size w w' := by
  have HR := Aside0.mk hr
  have HR4 := Aside0.mk hr4
  have H4 := Aside0.mk hb4
  have H5 := Aside0.mk (show ∀ x ∈ xs, x.f4.length ≤ 140737488355328 from fun x hx => Nat.le_trans (hb4 x hx) (by decide))
  have H0 := Aside0.mk (show ∀ x ∈ xs, x.f0.size ≤ 140737488355328 from fun x hx => Nat.le_trans (hb0 x hx) (by decide))
  clear hr hb4 hr4 hb0
  have hB0 : Below w.heap.size w (w.alloc (.cells (cellsIt y A4 c4) 26)) := (Below.refl _ w).alloc (Nat.le_refl _) _
  unfold cellsIt
  go_enter Tryd.func10, Tryd.ntmps10
  go_wp2_with fail
  refine (awake_any _).mono ?_
  rintro e w1 ⟨rfl, hb⟩
  obtain ⟨a0, a1, a2, a3, a4, a5, az⟩ := box_it y A4 c4 hb
  have HB1 := Aside0.mk (hB0.trans (hb.mono hB0.size))
  have HA := Aside0.mk (show ∀ W : World, Below w1.heap.size w1 W → W.cell? ⟨w.heap.size, 0, none⟩ = some (.string y.f0) ∧ W.cell? ⟨w.heap.size, 1, none⟩ = some (.int .u8 y.f1) ∧ W.cell? ⟨w.heap.size, 2, none⟩ = some (.int .i64 y.f2) ∧ W.cell? ⟨w.heap.size, 3, none⟩ = some (.int .i64 y.f3) ∧ W.cell? ⟨w.heap.size, 4, none⟩ = some (.slice A4 y.f4.length c4) ∧ W.cell? ⟨w.heap.size, 5, none⟩ = some (.string y.f5) from fun W hW =>
    ⟨(hW.cell (p := ⟨w.heap.size, 0, none⟩) az).trans a0, (hW.cell (p := ⟨w.heap.size, 1, none⟩) az).trans a1, (hW.cell (p := ⟨w.heap.size, 2, none⟩) az).trans a2, (hW.cell (p := ⟨w.heap.size, 3, none⟩) az).trans a3, (hW.cell (p := ⟨w.heap.size, 4, none⟩) az).trans a4, (hW.cell (p := ⟨w.heap.size, 5, none⟩) az).trans a5⟩)
  clear hb hB0 a0 a1 a2 a3 a4 a5
  go_wp2_with fail
  refine (lent_w A c xs _ (Kd.C_below HR.out HB1.out) hm H4.out).mono ?_
  rintro e w2 ⟨⟨Ai, ci, rfl, hci, hcim, hL⟩, hb⟩
  have HL := Aside0.mk (Kd.F_bound hL)
  have K2 := Aside0.mk hb
  clear hb hL
  -- Sort, twice
  go_wp2_with fail
  refine (sort_h Ai ci xs _ (lent_reads (Kd.F_now HL.out)) hm H5.out H0.out).mono ?_
  rintro e w3 ⟨⟨A0, c0, rfl, hN⟩, hb⟩
  have L0 := Aside0.mk (Li.mk_ hN (sort_len xs hm H4.out).1 (sort_len xs hm H4.out).2 hb)
  have K3 := Aside0.mk hb
  clear hb hN
  go_wp2_with fail
  refine (sort_h Ai ci xs _ (lent_reads (Kd.C_below (Kd.F_now HL.out) K3.out)) hm H5.out H0.out).mono ?_
  rintro e w4 ⟨⟨A1, c1, rfl, hN⟩, hb⟩
  have L1 := Aside0.mk (Li.mk_ hN (sort_len xs hm H4.out).1 (sort_len xs hm H4.out).2 hb)
  have L0 := Aside0.mk (L0.out.below hb)
  have K4 := Aside0.mk (K3.out.trans (hb.mono K3.out.size))
  clear hb hN K3
  generalize hl0 : So.isort ltI xs = l0 at L0 L1 ⊢
  clear hl0
  -- Beneath, twice
  go_wp2_with fail
  refine (beneath_w Ai ci xs root _ (lent_reads (Kd.C_below (Kd.F_now HL.out) K4.out)) hm H5.out).mono ?_
  rintro e w5 ⟨⟨A2, c2, rfl, hc2, hN⟩, hb⟩
  have L2 := Aside0.mk (Li.mk_ hN (keep_len _ xs hm H4.out).1 (keep_len _ xs hm H4.out).2 hb)
  have L0 := Aside0.mk (L0.out.below hb)
  have L1 := Aside0.mk (L1.out.below hb)
  have K5 := Aside0.mk (K4.out.trans (hb.mono K4.out.size))
  clear hb hN K4 hc2
  go_wp2_with fail
  refine (beneath_w Ai ci xs root _ (lent_reads (Kd.C_below (Kd.F_now HL.out) K5.out)) hm H5.out).mono ?_
  rintro e w6 ⟨⟨A3, c3, rfl, hc3, hN⟩, hb⟩
  have L3 := Aside0.mk (Li.mk_ hN (keep_len _ xs hm H4.out).1 (keep_len _ xs hm H4.out).2 hb)
  have L0 := Aside0.mk (L0.out.below hb)
  have L1 := Aside0.mk (L1.out.below hb)
  have L2 := Aside0.mk (L2.out.below hb)
  have K6 := Aside0.mk (K5.out.trans (hb.mono K5.out.size))
  clear hb hN K5 hc3
  generalize hl2 : beneathP xs root = l2 at L2 L3 ⊢
  clear hl2
  -- the row of four
  obtain ⟨wa, hwa⟩ : ∃ wa, wa = w6.alloc (.cells #[.slice A0 l0.length l0.length, .slice A1 l0.length l0.length, .slice A2 l2.length l2.length, .slice A3 l2.length l2.length] 22) := ⟨_, rfl⟩
  have hba : Below w6.heap.size w6 wa := by rw [hwa]; exact (Below.refl _ _).alloc (Nat.le_refl _) _
  have Ka := Aside0.mk (K6.out.trans (hba.mono K6.out.size))
  have HBLK := Aside0.mk (show ∀ W : World, Below wa.heap.size wa W → W.heap[w6.heap.size]? = some (.cells #[.slice A0 l0.length l0.length, .slice A1 l0.length l0.length, .slice A2 l2.length l2.length, .slice A3 l2.length l2.length] 22 (0, 0)) from fun W hW => blk_below (by rw [hwa]; exact blk_new _ _) hW)
  have L0 := Aside0.mk (L0.out.below hba)
  have L1 := Aside0.mk (L1.out.below hba)
  have L2 := Aside0.mk (L2.out.below hba)
  have L3 := Aside0.mk ((L3.out.below hba).mono hba.size)
  obtain ⟨b0, b1, b2, b3, b4, b5⟩ := HA.out wa (K2.out.trans (Ka.out.mono K2.out.size))
  rw [hwa] at b0 b1 b2 b3 b4 b5
  clear hba K6
  go_wp2_with fail
  rw [← hwa]
  have HWA := Lib.hid hwa
  clear hwa
  -- With, twice
  refine (with_w Ai ci xs y A4 c4 _ (lent_reads (Kd.C_below (Kd.F_now HL.out) Ka.out)) hm H5.out (by omega) hl (by omega) (Kd.C_below HR4.out (HB1.out.trans ((K2.out.trans (Ka.out.mono K2.out.size)).mono HB1.out.size)))).mono ?_
  rintro e w7 ⟨⟨B4, c7, rfl, hc7, hN⟩, hb⟩
  have L4 := Aside0.mk (Li.mk_ hN (with_len xs y H4.out hy4).1 (with_len xs y H4.out hy4).2 hb)
  have L0 := Aside0.mk (L0.out.below hb)
  have L1 := Aside0.mk (L1.out.below hb)
  have L2 := Aside0.mk (L2.out.below hb)
  have L3 := Aside0.mk (L3.out.below hb)
  have Kc := Aside0.mk hb
  have K7 := Aside0.mk (Ka.out.trans (hb.mono Ka.out.size))
  clear hb hN hc7 b0 b1 b2 b3 b4 b5
  obtain ⟨b0, b1, b2, b3, b4, b5⟩ := HA.out w7 (K2.out.trans (K7.out.mono K2.out.size))
  go_wp2_with fail
  refine (with_w Ai ci xs y A4 c4 _ (lent_reads (Kd.C_below (Kd.F_now HL.out) K7.out)) hm H5.out (by omega) hl (by omega) (Kd.C_below HR4.out (HB1.out.trans ((K2.out.trans (K7.out.mono K2.out.size)).mono HB1.out.size)))).mono ?_
  rintro e w8 ⟨⟨B5, c8, rfl, hc8, hN⟩, hb⟩
  have L5 := Aside0.mk (Li.mk_ hN (with_len xs y H4.out hy4).1 (with_len xs y H4.out hy4).2 hb)
  have L0 := Aside0.mk (L0.out.below hb)
  have L1 := Aside0.mk (L1.out.below hb)
  have L2 := Aside0.mk (L2.out.below hb)
  have L3 := Aside0.mk (L3.out.below hb)
  have L4 := Aside0.mk (L4.out.below hb)
  have Kc := Aside0.mk (Kc.out.trans (hb.mono Kc.out.size))
  have K8 := Aside0.mk (K7.out.trans (hb.mono K7.out.size))
  clear hb hN hc8 b0 b1 b2 b3 b4 b5 K7
  generalize hr1 : withP xs y = r at L4 L5 ⊢
  clear hr1
  -- Without, twice
  go_wp2_with fail
  refine (without_w Ai ci xs root _ (lent_reads (Kd.C_below (Kd.F_now HL.out) K8.out)) hm H5.out).mono ?_
  rintro e w9 ⟨⟨B6, c9, rfl, hc9, hN⟩, hb⟩
  have L6 := Aside0.mk (Li.mk_ hN (without_len xs root hm H4.out).1 (without_len xs root hm H4.out).2 hb)
  have L0 := Aside0.mk (L0.out.below hb)
  have L1 := Aside0.mk (L1.out.below hb)
  have L2 := Aside0.mk (L2.out.below hb)
  have L3 := Aside0.mk (L3.out.below hb)
  have L4 := Aside0.mk (L4.out.below hb)
  have L5 := Aside0.mk (L5.out.below hb)
  have Kc := Aside0.mk (Kc.out.trans (hb.mono Kc.out.size))
  have K9 := Aside0.mk (K8.out.trans (hb.mono K8.out.size))
  clear hb hN hc9 K8
  go_wp2_with fail
  refine (without_w Ai ci xs root _ (lent_reads (Kd.C_below (Kd.F_now HL.out) K9.out)) hm H5.out).mono ?_
  rintro e w10 ⟨⟨B7, c10, rfl, hc10, hN⟩, hb⟩
  have L7 := Aside0.mk (Li.mk_ hN (without_len xs root hm H4.out).1 (without_len xs root hm H4.out).2 hb)
  have L0 := Aside0.mk (L0.out.below hb)
  have L1 := Aside0.mk (L1.out.below hb)
  have L2 := Aside0.mk (L2.out.below hb)
  have L3 := Aside0.mk (L3.out.below hb)
  have L4 := Aside0.mk (L4.out.below hb)
  have L5 := Aside0.mk (L5.out.below hb)
  have L6 := Aside0.mk (L6.out.below hb)
  have Kc := Aside0.mk (Kc.out.trans (hb.mono Kc.out.size))
  have K10 := Aside0.mk (K9.out.trans (hb.mono K9.out.size))
  clear hb hN hc10 K9
  generalize hr2 : withoutP xs root = q at L6 L7 ⊢
  clear hr2
  have e1 : (r.2 != r.2) = false := bne_self_eq_false _
  have e2 : (q.2 != q.2) = false := bne_self_eq_false _
  -- the row of eight
  obtain ⟨G, cura, w11, hG1, hG2, hblk, hcur, hb11, hrun⟩ := run_append_grown (P := Tryd.prog) (W := w10) 56 22 (.slice none 0 0) 1 24 4 (by kernel_rfl) (by kernel_rfl) (by decide) (by decide) (some ⟨w6.heap.size, 0, none⟩) 4
    [.slice A0 l0.length l0.length, .slice A1 l0.length l0.length, .slice A2 l2.length l2.length, .slice A3 l2.length l2.length] [.slice B4 r.1.length r.1.length, .slice B5 r.1.length r.1.length, .slice B6 q.1.length q.1.length, .slice B7 q.1.length q.1.length] rfl
    (fun _ => ⟨_, rfl, fun j u hj => by rw [Addr.add_lit, Nat.zero_add]; exact (blk_cell (HBLK.out w10 Kc.out) j).trans (by simpa using hj)⟩) rfl (by intro v hv; simp only [List.mem_cons, List.not_mem_nil, or_false] at hv; rcases hv with rfl | rfl | rfl | rfl <;> rfl) (by decide) 56
  obtain ⟨As, Ls, s, hLs, hs0, hs8, hhd⟩ := pack L0.out L1.out L2.out L3.out L4.out L5.out L6.out L7.out
  have HLs := Aside0.mk (show ∀ j, j < 8 → Li (s j) (s (j + 1)) w11 (As j) (Ls j) from fun j hj => (hLs j hj).below hb11)
  obtain ⟨ga, hga⟩ : ∃ ga, ga = w10.heap.size + 1 := ⟨_, rfl⟩
  rw [← hga] at hblk hrun
  have SM := Aside0.mk (show ∀ j, j < 8 → s j ≤ s (j + 1) from fun j hj => (hLs j hj).le)
  have hg8 : s 8 ≤ ga := by omega
  have hgl : ga < w11.heap.size := blk_lt hblk
  have HALL := Aside0.mk (show AllAt w11 ga s As Ls 0 from ⟨⟨cura, hblk, fun j hj _ => hcur j _ (hhd j hj)⟩, fun j hj _ _ => (HLs.out j hj).wl⟩)
  have KB0 := K2.out.trans (K10.out.mono K2.out.size)
  have KB1 := HB1.out.trans (KB0.mono HB1.out.size)
  have KB := Aside0.mk (KB1.trans (hb11.mono KB1.size))
  have hws : w.heap.size ≤ s 0 := by have := (HB1.out.trans (K2.out.mono HB1.out.size)).size; omega
  have HS0 := Lib.hid hs0
  have HGA := Lib.hid hga
  have HL11 := Aside0.mk (Kd.F_below HL.out (K10.out.trans (hb11.mono K10.out.size)))
  clear hLs hhd hcur hblk hb11 hs0 hs8 hga KB0 KB1 HBLK Kc L0 L1 L2 L3 L4 L5 L6 L7 HL K10 Ka HWA
  go_wp2_with (at_builtin; refine Lib.wpList_append_run _ rfl _ _ _ _ rfl _ _ rfl rfl _ _ hrun ?_)
  clear hrun e1 e2
  go_wp2
  go_loopw [17, 18] (fun v ii wr => ∃ i : Nat, i ≤ 8 ∧ ii = .int .i64 i ∧ Aside0 (Below w11.heap.size w11 wr) ∧ Aside0 (Kd.N (Kd.slice 26 k26) 22 wr w11.heap.size (fun k_ => w11.heap.size ≤ k_) v ((List.range i).map Ls))) (fun _ ii _ => 8 - (intOf ii).toNat)
  case atStart => exact ⟨0, Nat.zero_le _, rfl, ⟨Below.refl _ _⟩, ⟨Kd.N_nil _ _ _ _ _⟩⟩
  case round =>
    obtain ⟨i, hi, rfl, hB, hN⟩ := hrel
    by_cases hlt : i < 8
    · have c1 := (HALL.out.cell (Kept.of_below hB.out (fun _ => False)) id hlt (.inr (Nat.zero_le _))).1
      unfold hdr at c1
      have HLi := Aside0.mk ((HLs.out i hlt).below hB.out)
      go_wp2_with fail
      refine (lent_w (As i) (Ls i).length (Ls i) _ HLi.out.read HLi.out.len HLi.out.body).mono ?_
      rintro e wl ⟨⟨Al, cl, rfl, hcl, hclm, hF⟩, hb⟩
      have HFK := Aside0.mk (show Kd.FK (Kd.slice 26 k26) wl (fun k_ => wr.heap.size ≤ k_) (Ls i) [.slice Al (Ls i).length cl] from fun W' hW => ⟨Al, cl, rfl, by omega, lent_reads (hF W' hW)⟩)
      have HNs := Aside0.mk (Kd.N_below hN.out hb)
      have HBw := Aside0.mk (hB.out.trans (hb.mono hB.out.size))
      clear hF hb c1
      go_wp2_with ((with_reducible refine gate_builtin (b := .append) (xs := #[.tmp 84, .tmp 90]) rfl ?_); at_builtin; refine Kd.N_append (Kd.slice 26 k26) (w0 := w11) w11.heap.size rfl (.tmp 84) (.tmp 90) 56 22 (.slice none 0 0) 24 rfl (by kernel_rfl) (by kernel_rfl) rfl (by decide) (by decide) _ ((List.range i).map Ls) (Ls i) [.slice Al (Ls i).length cl] (fun k_ => w11.heap.size ≤ k_) (fun k_ => wr.heap.size ≤ k_) rfl rfl HFK.out (fun k_ h => ⟨Nat.le_trans hB.out.size h, fun e => by have := Kd.N_lt hN.out k_ e.symm; omega⟩) (fun k_ h => Nat.le_trans HBw.out.size h) HNs.out HBw.out HBw.out.size (by rw [List.length_map, List.length_range]; omega) ?_)
      intro v1 w3 hN3 hB3 hg3 hat3
      have hs : (List.range i).map Ls ++ [Ls i] = (List.range (i + 1)).map Ls := by rw [List.range_succ, List.map_append]; rfl
      rw [hs] at hN3
      have HN3 := Aside0.mk hN3
      have HB3 := Aside0.mk hB3
      clear hN3 hB3 hg3 hat3 hs
      go_wp2
      go_roundw
      case rel => exact ⟨i + 1, by omega, by go_num, HB3, HN3⟩
      case measure => simp [intOf]; omega
    · obtain rfl : i = 8 := by omega
      rw [show ((8 : Nat) : Int) = 8 from rfl]
      obtain ⟨w12, hz_⟩ : ∃ z, z = wr := ⟨_, rfl⟩
      subst hz_
      obtain ⟨gw, cw, rfl, hgw, hgwl, _⟩ := Kd.N_form hN.out (by simp)
      have HN := Aside0.mk hN.out
      have HB := Aside0.mk (KB.out.trans (hB.out.mono KB.out.size))
      have HALL2 := Aside0.mk (show AllAt w12 ga s As Ls 0 from ⟨by obtain ⟨cur, q1, q2⟩ := HALL.out.row; exact ⟨cur, blk_below q1 hB.out, q2⟩, fun j hj hj2 hji => WL_step (HALL.out.lists j hj hj2 hji) (fun k _ hk => hB.out.block k hk)⟩)
      have HLr := Aside0.mk (show ∀ j, j < 8 → Li (s j) (s (j + 1)) w12 (As j) (Ls j) from fun j hj => (HLs.out j hj).below hB.out)
      have HLi := Aside0.mk (Kd.F_below HL11.out hB.out)
      have hwr := hB.out.size
      have HLEN := Aside0.mk (show ∀ j, j < 8 → (Ls j).length ≤ 140737488355328 from fun j hj => by have := (HLr.out j hj).len; omega)
      rw [List.length_map, List.length_range] at *
      clear hlt hi hN hB HALL HLs HL11
      go_wp2
      go_loopw [19] (fun ii wr => ∃ i : Nat, i ≤ 8 ∧ i % 2 = 0 ∧ ii = .int .i64 i ∧ Aside0 (Below w.heap.size w wr) ∧ Aside0 (Kept w12 wr (Sw ga s)) ∧ Aside0 (AllAt wr ga s As Ls i)) (fun ii _ => 8 - (intOf ii).toNat)
      case atStart => exact ⟨0, Nat.zero_le _, rfl, rfl, HB, ⟨Kept.refl _ _⟩, HALL2⟩
      case round =>
        obtain ⟨i, hi, hi2, rfl, hB, hK, hA⟩ := hrel
        obtain ⟨wo, hz_⟩ : ∃ z, z = wr := ⟨_, rfl⟩
        subst hz_
        clear HALL2 HB
        by_cases hlt : i < 8
        · have hng : ¬ okS s i ga := fun hk => by have := (okS_lt SM.out hlt hk).2; omega
          have hlen := (HLr.out i hlt).len
          go_wp2
          rw [show decide ((i : Int) < 8) = true from decide_eq_true (by omega)]
          go_loopw [20] (fun kk wr => ∃ k : Nat, k ≤ (Ls i).length ∧ kk = .int .i64 k ∧ Aside0 (Below w.heap.size w wr) ∧ Aside0 (Kept wo wr (okS s i)) ∧ Aside0 (WL wr (okS s i) (As i) (Ls i).length k)) (fun kk _ => (Ls i).length - (intOf kk).toNat)
          case atStart => exact ⟨0, Nat.zero_le _, rfl, hB, ⟨Kept.refl _ _⟩, ⟨hA.out.lists i hlt hi2 (Nat.le_refl i)⟩⟩
          case round =>
            obtain ⟨k, hk, rfl, hB1, hK1, hW1⟩ := hrel
            obtain ⟨wm, hz_⟩ : ∃ z, z = wr := ⟨_, rfl⟩
            subst hz_
            obtain ⟨c1, z1⟩ := hA.out.cell hK1.out hng hlt (.inr (Nat.le_refl i))
            unfold hdr at c1
            by_cases hkn : k < (Ls i).length
            · obtain ⟨g, cur, B, l, hAi, hokg, hblk, q4, _, _, _, hl4, hBody⟩ := WL_at hW1.out hkn
              have HW1 := Aside0.mk (show WL wm (okS s i) (some ⟨g, 0, none⟩) (Ls i).length k by rw [← hAi]; exact hW1.out)
              have HBo := Aside0.mk hBody
              have hgw : w.heap.size ≤ g := by have := (okS_lt SM.out hlt hokg).1; omega
              have HC1 := Aside0.mk (show ∀ W : World, Kept wo W (okS s i) → W.cell? ⟨ga, i, none⟩ = some (.slice (some ⟨g, 0, none⟩) (Ls i).length (Ls i).length) from fun W hW => by have := (hA.out.cell hW hng hlt (.inr (Nat.le_refl i))).1; unfold hdr at this; rw [this, hAi])
              have HAI := Lib.hid hAi
              rw [hAi] at c1
              clear hBody hblk hW1 hAi
              go_wp2
              go_loopw [22] (fun jj wr => ∃ j : Nat, j ≤ l ∧ jj = .int .i64 j ∧ Aside0 (Below w.heap.size w wr) ∧ Aside0 (Kept wo wr (okS s i)) ∧ Aside0 (WL wr (okS s i) (some ⟨g, 0, none⟩) (Ls i).length k) ∧ Aside0 (BodyOk wr (okS s i) B l)) (fun jj _ => l - (intOf jj).toNat)
              case atStart => exact ⟨0, Nat.zero_le _, rfl, hB1, hK1, HW1, HBo⟩
              case round =>
                obtain ⟨j, hj, rfl, hB2, hK2, hW2, hBo2⟩ := hrel
                obtain ⟨wj, hz_⟩ : ∃ z, z = wr := ⟨_, rfl⟩
                subst hz_
                clear HBo HW1 c1 z1 q4
                by_cases hjl : j < l
                · obtain ⟨h, curh, v, hBh, hokh, hblkh, qh, fh⟩ := body_at hBo2.out hjl
                  have hhw : w.heap.size ≤ h := by have := (okS_lt SM.out hlt hokh).1; omega
                  have HBLK := Aside0.mk hblkh
                  subst hBh
                  clear hblkh
                  go_wp2
                  go_roundw
                  case rel => exact ⟨j + 1, by omega, by go_num, ⟨hB2.out.setCell (p := ⟨h, j, none⟩) hhw _⟩, ⟨hK2.out.setCell (p := ⟨h, j, none⟩) (.inl hokh) _⟩, ⟨WL_byte hW2.out HBLK.out _⟩, ⟨body_byte hBo2.out HBLK.out _⟩⟩
                  case measure => simp [intOf]; omega
                · obtain rfl : l = j := by omega
                  have c1 := HC1.out _ hK2.out
                  obtain ⟨olds, ho1, ho2⟩ := body_olds hBo2.out
                  have HO2 := Aside0.mk ho2
                  have HC2 := Aside0.mk (show ∀ W : World, Below wj.drew.heap.size wj.drew W → W.cell? ⟨ga, i, none⟩ = some (.slice (some ⟨g, 0, none⟩) (Ls i).length (Ls i).length) from fun W hW => HC1.out W (hK2.out.below (drew_below hW)))
                  have HC3 := Aside0.mk (show ∀ (W : World) (v : Value), Below wj.drew.heap.size wj.drew W → (W.setCell ⟨g, k * 6 + 4, none⟩ v).cell? ⟨ga, i, none⟩ = some (.slice (some ⟨g, 0, none⟩) (Ls i).length (Ls i).length) from fun W v hW => HC1.out _ ((hK2.out.below (drew_below hW)).setCell (p := ⟨g, k * 6 + 4, none⟩) (.inl hokg) v))
                  clear ho2 c1
                  go_upto_region 28 with (fail)
                  go_region_held3 (fun W => W.cell? ⟨ga, i, none⟩ = some (.slice (some ⟨g, 0, none⟩) (Ls i).length (Ls i).length))
                    (first | exact HC2.out _ (Below.refl _ _) | exact HC2.out _ (below_alloc (Below.refl _ _) _) | exact HC2.out _ hb13 | exact HC3.out _ _ hb13)
                    (first
                      | (refine step_append_full (W := wj.drew) (by rfl) (.tmp 134) (.tmp 135) 24 5 (.int .u8 0) 1 1 rfl Tryd.underlying24 info5 (by decide) B l olds [.int .u8 7] rfl rfl ho1 HO2.out rfl (by intro v hv; simp only [List.mem_cons, List.not_mem_nil, or_false] at hv; rw [hv]; rfl) (by omega) ?_; intro g2 c2 w13 hb13; obtain ⟨⟨u4, x4⟩, y4⟩ := WL_cell (WL_step hW2.out (fun k_ _ hk_ => hb13.block k_ hk_)) hkn (show 4 < 6 by decide)))
                  have HWx := Aside0.mk (WL_field (WL_next (WL_step hW2.out (fun k_ _ hk_ => hb13.block k_ hk_)) (Nat.le_succ k)) (Nat.lt_succ_self k) (show 4 < 6 by decide) (.slice (some ⟨g2, 0, none⟩) (l + 1) c2))
                  have HKx := Aside0.mk ((hK2.out.below (drew_below hb13)).setCell (p := ⟨g, k * 6 + 4, none⟩) (.inl hokg) (.slice (some ⟨g2, 0, none⟩) (l + 1) c2))
                  have HBx := Aside0.mk (((hB2.out.trans ((drew_below hb13).mono hB2.out.size)).setCell (p := ⟨g, k * 6 + 4, none⟩) hgw (.slice (some ⟨g2, 0, none⟩) (l + 1) c2)))
                  have c1 := HC1.out _ HKx.out
                  obtain ⟨⟨u0, x0'⟩, y0'⟩ := WL_cell (WL_step hW2.out (fun k_ _ hk_ => hb13.block k_ hk_)) hkn (show 0 < 6 by decide)
                  have x0 : w13.cell? ⟨g, k * 6, none⟩ = some u0 := x0'
                  have y0 : w13.frozen? ⟨g, k * 6, none⟩ = false := y0'
                  clear x0' y0'
                  clear HC2 HC3 HO2 hb13 x4 y4 hW2 hK2 hB2 hBo2
                  go_wp2
                  go_roundw
                  case rel => exact ⟨k + 1, by omega, by go_num, ⟨HBx.out.setCell (p := ⟨g, k * 6, none⟩) hgw _⟩, ⟨HKx.out.setCell (p := ⟨g, k * 6, none⟩) (.inl hokg) _⟩, ⟨by rw [HAI.out]; exact WL_field (f := 0) HWx.out (Nat.lt_succ_self k) (by decide) _⟩⟩
                  case measure => simp [intOf]; omega
            · obtain rfl : k = (Ls i).length := by omega
              obtain ⟨olds, ho1, ho2⟩ := WL_olds hW1.out
              have HO2 := Aside0.mk ho2
              have hgw : w.heap.size ≤ ga := by have := s_mono SM.out (Nat.zero_le 8) (Nat.le_refl 8); omega
              have c1' := c1
              clear ho2
              go_wp2_with ((with_reducible refine gate_builtin (b := .append) (xs := #[.tmp 151, .tmp 153]) rfl ?_); at_builtin; refine append_full rfl (.tmp 151) (.tmp 153) 22 26 (.agg #[.string ⟨#[]⟩, .int .u8 0, .int .i64 0, .int .i64 0, .slice none 0 0, .string ⟨#[]⟩]) 6 80 rfl Tryd.underlying22 info26 (by decide) (As i) (Ls i).length olds [.string ⟨#[109, 111, 114, 101]⟩, .int .u8 0, .int .i64 0, .int .i64 0, .slice none 0 0, .string ⟨#[]⟩] rfl rfl ho1 HO2.out rfl (by intro v hv; simp only [List.mem_cons, List.not_mem_nil, or_false] at hv; rcases hv with rfl | rfl | rfl | rfl | rfl | rfl <;> rfl) (by omega) ?_)
              intro g2 c2 w13 hb13
              obtain ⟨c3, z3⟩ := hA.out.cell (hK1.out.below hb13) hng hlt (.inr (Nat.le_refl i))
              have HAn := Aside0.mk (hA.out.next SM.out hg8 hlt hi2 hK1.out hb13 (.slice (some ⟨g2, 0, none⟩) ((Ls i).length + 1) c2))
              have HKn := Aside0.mk ((hK.out.then_ (hK1.out.below hb13) (fun k_ h_ => .inl (Sw_of hlt hi2 h_))).setCell (p := ⟨ga, i, none⟩) (.inl (.inl rfl)) (.slice (some ⟨g2, 0, none⟩) ((Ls i).length + 1) c2))
              have HBn := Aside0.mk ((hB1.out.trans (hb13.mono hB1.out.size)).setCell (p := ⟨ga, i, none⟩) hgw (.slice (some ⟨g2, 0, none⟩) ((Ls i).length + 1) c2))
              clear hb13 c1 c1' z1 hW1 hK1 hB1 hA hK hB HO2
              go_wp2
              go_roundw
              case rel => exact ⟨i + 2, by omega, by omega, by go_num, HBn, HKn, HAn⟩
              case measure => simp [intOf]; omega
        · obtain rfl : i = 8 := by omega
          rw [show ((8 : Nat) : Int) = 8 from rfl]
          have NW := Aside0.mk (Kd.N_kept HN.out hK.out (fun k_ hk_ => new_free SM.out hg8 (Nat.lt_of_lt_of_le hgl hk_)))
          have HLo := Aside0.mk (show ∀ j, j < 8 → j % 2 = 1 → k26.C wo (As j) (Ls j).length (Ls j) from fun j hj hj2 => ((HLr.out j hj).step (fun k_ hk_ hlt_ => hK.out.2 k_ hlt_ (odd_free SM.out hg8 hj hj2 hk_))).read)
          have HIn := Aside0.mk (Kd.F_now (Kd.F_kept HLi.out hK.out (fun k_ hk_ => old_free SM.out hg8 (by have := hk_.2; have := HS0.out; omega))))
          clear HN HLi HLr
          go_wp2
          go_loopw [23] (fun ii wr => ∃ i : Nat, i ≤ 9 ∧ i % 2 = 1 ∧ ii = .int .i64 i ∧ Aside0 (Below wo.heap.size wo wr)) (fun ii _ => 9 - (intOf ii).toNat)
          case atStart => exact ⟨1, by omega, by omega, rfl, ⟨Below.refl _ _⟩⟩
          case round =>
            obtain ⟨i, hi, hi2, rfl, hB2⟩ := hrel
            obtain ⟨wx, hz_⟩ : ∃ z, z = wr := ⟨_, rfl⟩
            subst hz_
            by_cases hlt : i < 8
            · have c1 := (hA.out.cell (Kept.of_below hB2.out (fun _ => False)) id hlt (.inl hi2)).1
              unfold hdr at c1
              obtain ⟨cs, hcl, hFK, hcc, _⟩ := Kd.N_elem (Kd.N_below NW.out hB2.out) [] (i : Int) (by omega) (by omega)
              obtain ⟨Aq, cq, rfl, hcq, hCq⟩ := Kd.FK_now hFK
              have c2 := hcc 0 _ rfl
              have hLi : ((List.range 8).map Ls).getD ((i : Int)).toNat [] = Ls i := by
                rw [Int.toNat_natCast, List.getD_eq_getElem?_getD, List.getElem?_map, List.getElem?_range hlt]; rfl
              rw [hLi] at c2 hcq hCq
              rw [Int.toNat_natCast, show i * (Kd.slice 26 k26).sz + 0 = i by show i * 1 + 0 = i; omega] at c2
              have HCq := Aside0.mk hCq
              have HCo := Aside0.mk (Kd.C_below (HLo.out i hlt hi2) hB2.out)
              have KEEP := Aside0.mk (fun (W : World) (hW : Below wx.heap.size wx W) => (⟨hW, (hW.cell (World.block_lt_of_cell? wx _ c1)).trans c1, (hW.cell (World.block_lt_of_cell? wx _ c2)).trans c2⟩ : Below wx.heap.size wx W ∧ W.cell? ⟨ga, i, none⟩ = some (.slice (As i) (Ls i).length (Ls i).length) ∧ W.cell? ⟨gw, i, none⟩ = some (.slice Aq (Ls i).length cq)))
              have hBn : Below wx.heap.size wx wx.drew := below_drew (Below.refl _ _)
              have hlen := (show (Ls i).length ≤ 140737488355328 from HLEN.out i hlt)
              clear hcc hFK hcl hLi c1 c2 hCq
              go_upto_region 34 with (fail)
              go_region_held3 (fun W => Below wx.heap.size wx W ∧ W.cell? ⟨ga, i, none⟩ = some (.slice (As i) (Ls i).length (Ls i).length) ∧ W.cell? ⟨gw, i, none⟩ = some (.slice Aq (Ls i).length cq))
                (first | exact KEEP.out _ (by assumption))
                (first
                  | (go_at_call 20; refine (same_any (As i) (Ls i).length Aq cq (Ls i) _ (Kd.C_below HCo.out hBn) (Nat.le_refl _) (Kd.C_below HCq.out hBn) hcq hlen).mono ?_; rintro e W1 ⟨rfl, hb1⟩; replace hBn := hBn.trans (hb1.mono hBn.size); clear hb1))
              have HBn := Aside0.mk (hB2.out.trans (hBn.mono hB2.out.size))
              clear KEEP hBn HCq HCo
              go_wp2
              go_roundw
              case rel => exact ⟨i + 2, by omega, by omega, by go_num, HBn⟩
              case measure => simp [intOf]; omega
            · obtain rfl : i = 9 := by omega
              rw [show ((9 : Nat) : Int) = 9 from rfl]
              go_wp2_with fail
              refine (kept_any Ai ci A c xs _ (Kd.C_below HIn.out hB2.out) hci hcim (Kd.C_below (Kd.C_below HR.out hB.out) hB2.out) hc (by omega)).mono ?_
              rintro e wz ⟨rfl, hb⟩
              go_wp2
              go_ret
              exact ⟨rfl, (hB.out.trans (hB2.out.mono hB.out.size)).trans (hb.mono (hB.out.trans (hB2.out.mono hB.out.size)).size)⟩
end Go.Proofs.YthpecpkncifngaaDoor.X
