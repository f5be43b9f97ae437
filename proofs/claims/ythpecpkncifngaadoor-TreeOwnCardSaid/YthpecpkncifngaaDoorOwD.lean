/- With leaves a row that may be written. -/
import Derived.Test.YthpecpkncifngaaDoorOwC
namespace Go.Proofs.YthpecpkncifngaaDoor.X
open Go Go.RowKit Go.Shelf Go.Proofs.YthpecpkncifngaaDoor Go.Proofs.YthpecpkncifngaaDoorW.PrintWords Go.Proofs.YthpecpkncifngaaDoorW.PrintLast Go.Proofs.YthpecpkncifngaaDoorW.PrintMore Go.Proofs.YthpecpkncifngaaDoor.Pure
set_option linter.unusedVariables false
set_option linter.unusedSimpArgs false

set_option maxRecDepth 100000 in
set_option maxHeartbeats 4000000 in
theorem with_w (A : Option Addr) (c : Nat) (xs : List S26) (y : S26) (A4 : Option Addr) (c4 : Nat) (w : World) (hr : Kd.C k26 w A xs.length xs) (hm : xs.length * 80 ≤ 140737488351232) (hb4 : ∀ x ∈ xs, x.f4.length ≤ 140737488355328)
    (hy0 : y.f0.size ≤ 140737488355328) (hl : y.f4.length ≤ c4) (hy4 : y.f4.length ≤ 140737488355328) (hr4 : (Kd.int .u8).C w A4 y.f4.length y.f4) :
    Calls Tryd.prog 21 #[.slice A xs.length c, .agg (cellsIt y A4 c4)] w fun e w' => (∃ A' c', e = .returned (.tuple #[.slice A' (withP xs y).1.length (withP xs y).1.length, .int .i64 (withP xs y).2]) ∧ (withP xs y).1.length ≤ c' ∧ Kd.N kW 26 w' w.heap.size (fun k => w.heap.size ≤ k) (.slice A' (withP xs y).1.length c') (withP xs y).1) ∧ Below w.heap.size w w' := by
  have HR := Aside0.mk hr
  have HR4 := Aside0.mk hr4
  have H4 := Aside0.mk hb4
  clear hr hr4 hb4
  have hB0 : Below w.heap.size w (w.alloc (.cells (cellsIt y A4 c4) 26)) := (Below.refl _ w).alloc (Nat.le_refl _) _
  by_cases h1 : (checkP xs).2 = 0
  case neg =>
    have H := Lib.hid (show withP xs y = ([], (checkP xs).2) by unfold withP; rw [if_pos h1])
    have hd : ((checkP xs).2 != 0) = true := by simpa using h1
    rw [H.out]
    clear h1
    unfold cellsIt
    go_enter Tryd.func21, Tryd.ntmps21
    go_wp2_with fail
    refine (check_tree A c xs _ (Kd.C_below HR.out hB0)).mono ?_
    rintro e w1 ⟨rfl, hb⟩
    go_wp2
    go_ret2
    exact ⟨⟨none, 0, rfl, Nat.le_refl _, Kd.N_nil _ _ _ _ _⟩, hB0.trans (hb.mono hB0.size)⟩
  have hd : ((checkP xs).2 != 0) = false := by simpa using h1
  obtain ⟨hlen, _⟩ := chk_ok h1
  obtain ⟨hrise, hmay⟩ := chk_rise h1
  have hkeep := keepP_all (neP y) xs
  have hkr : (keepP (neP y) xs xs.length).Pairwise (fun a b => cmpI a b = -1) := by rw [hkeep]; exact hrise.filter _
  have hkm : ∀ x ∈ keepP (neP y) xs xs.length, x.f0.size ≤ 140737488355328 := by
    rw [hkeep]
    intro x hx
    have := may_size (hmay x (List.mem_filter.1 hx).1)
    omega
  have hkl : (keepP (neP y) xs xs.length).length ≤ 256 := Nat.le_trans (keepP_len _ _ _) hlen
  have H := Lib.hid (show withP xs y = if (checkP (insP (keepP (neP y) xs xs.length) y)).2 = 0 then (insP (keepP (neP y) xs xs.length) y, 0) else ([], (checkP (insP (keepP (neP y) xs xs.length) y)).2) by unfold withP; rw [if_neg (by simpa using h1)])
  clear h1 hlen hrise hmay hkeep
  generalize hks : keepP (neP y) xs xs.length = ks at *
  have HKS := Lib.hid hks
  have HKR := Aside0.mk hkr
  have HKM := Aside0.mk hkm
  clear hkr hkm hks
  unfold cellsIt
  go_enter Tryd.func21, Tryd.ntmps21
  go_wp2_with fail
  refine (check_tree A c xs _ (Kd.C_below HR.out hB0)).mono ?_
  rintro e w1 ⟨rfl, hb⟩
  obtain ⟨a0, a1, a2, a3, a4, a5, az⟩ := box_it y A4 c4 hb
  have HB1 := Aside0.mk (hB0.trans (hb.mono hB0.size))
  clear hb
  have HT := Aside0.mk (with1_tells y w.heap.size w1 a0)
  go_wp2_with fail
  refine (some_w 51 _ _ A c xs _ (Kd.C_below HR.out HB1.out) hm H4.out (fun args W => by kernel_rfl) HT.out).mono ?_
  rw [HKS.out]
  rintro e w2 ⟨⟨A', c', rfl, hcc, hV0⟩, hb⟩
  have hV : Kd.V kW 26 w2 w1.heap.size (fun k => w1.heap.size ≤ k) (.slice A' ks.length ks.length) ks := Kd.V_mk (Nat.le_refl _) (Kd.N_F hV0)
  have st : ∀ {j : Nat} {v : Value}, w1.cell? ⟨w.heap.size, j, none⟩ = some v → w2.cell? ⟨w.heap.size, j, none⟩ = some v := fun {j v} hv => (hb.cell (p := ⟨w.heap.size, j, none⟩) az).trans hv
  have b0 := st a0
  have b1 := st a1
  have b2 := st a2
  have b3 := st a3
  have b4 := st a4
  have b5 := st a5
  have bz := Nat.lt_of_lt_of_le az hb.size
  have HB2 := Aside0.mk (HB1.out.trans (hb.mono HB1.out.size))
  have HV2 := Aside0.mk (Kd.V_mono hV (fun k hk => Nat.le_trans HB1.out.size hk))
  have HT := ()
  clear hb hV hV0 hcc st a0 a1 a2 a3 a4 a5 az HT
  go_wp2_with fail
  refine (bsearch_any A' ks.length ks y A4 c4 _ (C_kW (Kd.V_reads' HV2.out).2.2) (by omega) (fun k hk => HKM.out _ (by rw [rd_get _ _ hk]; exact List.getElem_mem hk)) hy0 (rise_mono HKR.out y)).mono ?_
  rintro e w3 ⟨⟨bb, rfl⟩, hb⟩
  have st : ∀ {j : Nat} {v : Value}, w2.cell? ⟨w.heap.size, j, none⟩ = some v → w3.cell? ⟨w.heap.size, j, none⟩ = some v := fun {j v} hv => (hb.cell (p := ⟨w.heap.size, j, none⟩) bz).trans hv
  replace b0 := st b0
  replace b1 := st b1
  replace b2 := st b2
  replace b3 := st b3
  replace b4 := st b4
  replace b5 := st b5
  have HB3 := Aside0.mk (HB2.out.trans (hb.mono HB2.out.size))
  have HV3 := Aside0.mk (Kd.V_below HV2.out hb)
  clear hb st HB1 HB2 HV2 bz
  go_wp2_with fail
  refine (own_w y A4 c4 _ hl hy4 (Kd.C_below HR4.out HB3.out)).mono ?_
  rintro e w4 ⟨⟨A5, rfl, hF⟩, hb⟩
  unfold cellsIt
  have HB4 := Aside0.mk (HB3.out.trans (hb.mono HB3.out.size))
  have HV4 := Aside0.mk (Kd.V_below HV3.out hb)
  have HF4 := Aside0.mk (Kd.FK_mono hF (fun k hk => Nat.le_trans HB3.out.size hk))
  clear hb hF
  go_wp2_with fail
  have hBa : Below w4.heap.size w4 (w4.alloc (.cells (cellsIt y A5 y.f4.length) 26)) := (Below.refl _ w4).alloc (Nat.le_refl _) _
  have hpl : posP ks y ≤ ks.length := List.countP_le_length
  refine (insert_w A' (posP ks y) ⟨w4.heap.size, 0, none⟩ ks y (cellsIt y A5 y.f4.length).toList w.heap.size (fun k => w.heap.size ≤ k) _ (Kd.V_below HV4.out hBa) (Kd.FK_below HF4.out hBa) (fun j u hj => ?_) hpl (by omega)).mono ?_
  · rw [Addr.add_lit, Nat.zero_add]
    refine (blk_cell (blk_new w4 _) j).trans ?_
    simpa using hj
  rintro e w5 ⟨⟨g, G, rfl, hG1, hG2, hF5⟩, hb⟩
  have HB5 := Aside0.mk (HB4.out.trans ((hBa.trans (hb.mono hBa.size)).mono HB4.out.size))
  have HF5 := Aside0.mk (show Kd.N kW 26 w5 w.heap.size (fun k => w.heap.size ≤ k) (.slice (some ⟨g, 0, none⟩) (insP ks y).length G) (insP ks y) by
    have hl5 : (insP ks y).length = ks.length + 1 := by unfold insP; simp; omega
    rw [hl5]
    exact Kd.N_lower (Kd.N_mono hF5 (fun k hk => hk.elim id (fun h => Nat.le_trans HB4.out.size (Nat.le_trans hBa.size h)))) (Nat.le_trans HB4.out.size hBa.size))
  have hl5 : ks.length + 1 = (insP ks y).length := by unfold insP; simp; omega
  clear hF5 hb hBa HV4 HV3 HF4 b0 b1 b2 b3 b4 b5 hpl
  rw [hl5] at hG1 ⊢
  generalize hins : insP ks y = r at *
  go_wp2_with fail
  refine (clip_items (some ⟨g, 0, none⟩) r.length G _ hG1 hG2).mono ?_
  rintro e w6 ⟨rfl, rfl⟩
  go_wp2_with fail
  refine (checked_any (some ⟨g, 0, none⟩) r.length r _ (C_kW (Kd.N_reads' HF5.out).2.2)).mono ?_
  by_cases h3 : (checkP r).2 = 0
  · rw [if_pos h3]
    rw [if_pos h3] at H
    clear h3
    rintro e w7 ⟨rfl, hb⟩
    go_wp2
    go_ret2
    exact ⟨by rw [H.out]; exact ⟨_, _, rfl, hG1, Kd.N_below HF5.out hb⟩, HB5.out.trans (hb.mono HB5.out.size)⟩
  · rw [if_neg h3]
    rw [if_neg h3] at H
    clear h3
    rintro e w7 ⟨rfl, hb⟩
    go_wp2
    go_ret2
    exact ⟨by rw [H.out]; exact ⟨none, 0, rfl, Nat.le_refl _, Kd.N_nil _ _ _ _ _⟩, HB5.out.trans (hb.mono HB5.out.size)⟩

end Go.Proofs.YthpecpkncifngaaDoor.X
