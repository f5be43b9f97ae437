/- slices.Insert leaves a row that may be written. -/
import Derived.Test.YthpecpkncifngaaDoorOwA
import Derived.Test.YthpecpkncifngaaDoorZTreeKnown1
namespace Go.Proofs.YthpecpkncifngaaDoor.X
open Go Go.RowKit Go.Shelf Go.Proofs.YthpecpkncifngaaDoor Go.Proofs.YthpecpkncifngaaDoorW.PrintWords Go.Proofs.YthpecpkncifngaaDoorW.PrintLast Go.Proofs.YthpecpkncifngaaDoorW.PrintMore Go.Proofs.YthpecpkncifngaaDoor.Pure
set_option linter.unusedVariables false
set_option linter.unusedSimpArgs false

/-- A row in a new block: of one's own. -/
theorem N_block {α : Type} {d : Kd α} {W : World} {ok : Nat → Prop} {g t base cap : Nat} {cur : Array Value} {inner pad : List Value} {xs : List α} (hb : W.heap[g]? = some (.cells cur t (0, 0))) (hcur : cur.toList = inner ++ pad)
    (hR : Reps (Kd.FK d W (fun k => ok k ∧ k ≠ g)) d.sz xs inner) (hg : ok g) (hbase : base ≤ g) (hn : xs.length ≤ cap) (hm : cap ≤ maxLen) (hsz : cur.size = cap * d.sz) : Kd.N d t W base ok (.slice (some ⟨g, 0, none⟩) xs.length cap) xs := by
  have ob : ∀ k, (Value.slice (some ⟨g, 0, none⟩) xs.length cap).ownBlock = some k → g = k := fun k hk => by simpa [Value.ownBlock] using hk
  refine ⟨fun k hk => ob k hk ▸ hg, Kd.chunks d.sz xs.length inner, Kd.chunks_length _ _ _, ⟨fun k hk => hk.symm, inner, ?_, Kd.reps_raw hR (fun x c hp => ⟨d.K_len (Kd.FK_now hp), d.K_one (Kd.FK_now hp)⟩)⟩, fun j x c hx hc => ?_⟩
  · rw [Kd.chunks_length]
    refine ⟨hR.1, .inr ⟨g, cap, cur, rfl, hbase, hb, hn, hm, hsz, ?_⟩⟩
    have hl : xs.length * (Kd.raw d.sz).sz = inner.length := hR.1.symm
    rw [hcur, hl, List.take_left]
  · rw [Kd.chunks_get hc]
    exact Kd.FK_mono (hR.2 j x hx) (fun k hk => ⟨hk.1, fun he => hk.2 (ob k he.symm).symm⟩)

set_option maxRecDepth 100000 in
set_option maxHeartbeats 4000000 in
theorem insert_w (A : Option Addr) (i : Nat) (vd : Addr) (xs : List S26) (x : S26) (c : List Value) (base : Nat) (ok : Nat → Prop) (w : World)
    (hV : Kd.V kW 26 w base ok (.slice A xs.length xs.length) xs) (hx : Kd.FK kW w ok x c) (hcv : ∀ j u, c[j]? = some u → w.cell? (vd.add j) = some u)
    (hi : i ≤ xs.length) (hm : (xs.length + 1) * 80 ≤ 140737488355328) :
    Calls Tryd.prog 55 #[.slice A xs.length xs.length, .int .i64 i, .slice (some vd) 1 1] w fun e w' => (∃ g G, e = .returned (.slice (some ⟨g, 0, none⟩) (xs.length + 1) G) ∧ xs.length + 1 ≤ G ∧ G ≤ 9223372036854775807 ∧ Kd.N kW 26 w' w.heap.size (fun k => ok k ∨ w.heap.size ≤ k) (.slice (some ⟨g, 0, none⟩) (xs.length + 1) G) (xs.take i ++ [x] ++ xs.drop i)) ∧ Below w.heap.size w w' := by
  obtain ⟨i0, hi0, hz0, hzs, hzb⟩ := info_parts info26
  have hsz : (Tryd.prog.info? 26).map (·.size) = some 6 := by rw [hi0]; simp [hzs]
  have hcl : c.length = 6 := kW.K_len (Kd.FK_now hx)
  have hc1 : ∀ v ∈ c, v.oneCell' = true := kW.K_one (Kd.FK_now hx)
  have hvw : vd.block < w.heap.size := World.block_lt_of_cell? w _ (by have := hcv 0 _ (List.getElem?_eq_getElem (by omega)); exact this)
  obtain ⟨inner, hR, hrd⟩ : ∃ inner, Reps (Kd.FK kW w ok) 6 xs inner ∧ (0 < inner.length → ∃ ad, A = some ad ∧ ∀ j u, inner[j]? = some u → w.cell? (ad.add j) = some u) := by
    cases A with
    | none =>
      have h0 : xs.length = 0 := by
        rcases Nat.eq_zero_or_pos xs.length with h | h
        · exact h
        · obtain ⟨ad, e, _⟩ := (Kd.V_reads' hV).2.2.2.2 h; cases e
      obtain rfl : xs = [] := List.eq_nil_of_length_eq_zero h0
      exact ⟨[], Reps.none _ _, fun h => by simp at h⟩
    | some ad =>
      obtain ⟨inner, hR, hc⟩ := F_inner (⟨⟨#[]⟩, 0, 0, 0, [], ⟨#[]⟩⟩ : S26) hV
      exact ⟨inner, hR, fun _ => ⟨ad, rfl, hc⟩⟩
  have hil : inner.length = xs.length * 6 := hR.1
  have h1i : ∀ v ∈ inner, v.oneCell' = true := Reps.one_ (d := kW) hR
  have hold : ∀ m, m ≤ xs.length → (Builtin.firstCells i0.size m (.slice A m xs.length)).run Tryd.prog w.drew = .ok (inner.take (m * 6)).toArray w.drew := fun m hm => by
    rw [hzs]
    rcases Nat.eq_zero_or_pos m with h0 | h0
    · subst h0
      cases A with
      | none => rw [run_firstCells_none]; simp
      | some ad => exact run_firstCells_some w.drew 6 0 ad 0 _ (inner.take (0 * 6)) (by simp) (fun j v hj => by simp at hj)
    · obtain ⟨ad, rfl, hc⟩ := hrd (by omega)
      exact run_firstCells_some w.drew 6 m ad m _ (inner.take (m * 6)) (by rw [List.length_take]; omega) (fun j v hj => by
        rw [List.getElem?_take] at hj
        split at hj
        · exact hc j v hj
        · cases hj)
  obtain ⟨G, hG⟩ : ∃ G, G = grownCap w (xs.length + 1) xs.length 26 := ⟨_, rfl⟩
  have hGn : xs.length + 1 ≤ G := by rw [hG]; exact grownCap_ge w _ _ _
  have hG63 : G ≤ 9223372036854775807 := by
    have := grownCap_le_maxLen w (xs.length + 1) xs.length 26 (by unfold maxLen; omega)
    rw [← hG] at this
    unfold maxLen at this
    omega
  have hfr : w.heap.size < (w.drew.alloc (.cells #[] 0)).heap.size := by simp
  by_cases hin : i = xs.length
  · subst hin
    obtain ⟨W1, cur, pad, hW1, hB1, hcur, hsz6, hrz⟩ : ∃ W1 cur pad, W1.heap[w.heap.size]? = some (.cells cur 26 (0, 0)) ∧ Below w.heap.size w W1 ∧ cur.toList = (inner ++ c) ++ pad ∧ cur.size = G * 6 ∧ ∀ ty, (Builtin.append_ #[22, 22] ty #[.slice A xs.length xs.length, .slice (some vd) 1 1]).run Tryd.prog w = .ok (.slice (some ⟨w.heap.size, 0, none⟩) (xs.length + 1) G) W1 := by
      refine ⟨w.drew.alloc (.cells ((inner ++ c).toArray ++ Builtin.zeroCells zIt.cells (G - (xs.length + 1))) 26), _, (Builtin.zeroCells zIt.cells (G - (xs.length + 1))).toList, blk_new w.drew _, (below_drew (Below.refl _ _)).alloc (by simp) _, by simp, by have z1 := zero_size (G - (xs.length + 1)); rw [Array.size_append, z1, List.size_toArray, List.length_append]; omega, fun ty => ?_⟩
      rw [hG]
      have hs : Src Tryd.prog i0.size 22 (.slice (some vd) 1 1) 1 c w := Src.ofSlice w Tryd.underlying22 vd 1 1 c (by rw [hzs]; omega) hcv hc1
      have := run_append_grow_src w 22 22 ty 26 i0 _ Tryd.underlying22 hi0 hz0 A xs.length xs.length inner (by have := hold xs.length (Nat.le_refl _); rwa [List.take_of_length_le (by omega)] at this) (.slice (some vd) 1 1) 1 c hs (by omega) (by omega) (by rw [hzb]; exact growslice_fits (by omega) hm)
      exact this
    have HF := Aside0.mk (show Kd.N kW 26 W1 w.heap.size (fun k => ok k ∨ w.heap.size ≤ k) (.slice (some ⟨w.heap.size, 0, none⟩) (xs ++ [x]).length G) (xs ++ [x]) from N_block hW1 hcur (Reps.append_ (hR.imp_ (fun p c hp => Kd.FK_mono (Kd.FK_below (Kd.FK_bound hp) hB1) (fun k hk => ⟨.inl hk.1, Nat.ne_of_lt hk.2⟩))) (Reps.single_ (Kd.FK_mono (Kd.FK_below (Kd.FK_bound hx) hB1) (fun k hk => ⟨.inl hk.1, Nat.ne_of_lt hk.2⟩)) hcl)) (.inr (Nat.le_refl _)) (Nat.le_refl _) (by rw [List.length_append, List.length_singleton]; exact hGn) (by unfold maxLen; omega) hsz6)
    have HB := Aside0.mk hB1
    clear hold hrd hR h1i hcv hx hV hcur hW1 hB1 hG hfr
    go_enter Tryd.func55, Tryd.ntmps55
    go_wp2_with (at_builtin; refine Lib.wpList_append_run _ rfl _ _ _ _ rfl _ _ rfl rfl _ _ (hrz _) ?_)
    go_ret
    refine ⟨⟨w.heap.size, G, rfl, hGn, hG63, ?_⟩, HB.out⟩
    have := HF.out
    rw [List.length_append, List.length_singleton] at this
    rw [List.take_length, List.drop_length, List.append_nil]
    exact this
  · have hlt : i < xs.length := by omega
    obtain ⟨ad, rfl, hc⟩ := hrd (by omega)
    have hbw : ad.block < w.heap.size := World.block_lt_of_cell? w _ (hc 0 _ (List.getElem?_eq_getElem (by omega)))
    obtain ⟨W1, cur1, Z, hW1, hB1, hcur1, hs1, hZ, hrz⟩ : ∃ W1 cur1 Z, W1.heap[w.heap.size]? = some (.cells cur1 26 (0, 0)) ∧ Below w.heap.size w W1 ∧ cur1.toList = inner.take (i * 6) ++ Z ∧ cur1.size = G * 6 ∧ (xs.length + 1 - i) * 6 ≤ Z.length ∧ ∀ ty, (Builtin.append_ #[22, 3] ty #[.slice (some ad) i xs.length, .int .i64 ((xs.length : Int) + 1 - (i : Int))]).run Tryd.prog w = .ok (.slice (some ⟨w.heap.size, 0, none⟩) (xs.length + 1) G) W1 := by
      refine ⟨w.drew.alloc (.cells ((inner.take (i * 6)).toArray ++ Builtin.zeroCells zIt.cells (xs.length + 1 - i) ++ Builtin.zeroCells zIt.cells (G - (xs.length + 1))) 26), _, (Builtin.zeroCells zIt.cells (xs.length + 1 - i)).toList ++ (Builtin.zeroCells zIt.cells (G - (xs.length + 1))).toList, blk_new w.drew _, (below_drew (Below.refl _ _)).alloc (by simp) _, by simp, by (have z1 := zero_size (xs.length + 1 - i); have z2 := zero_size (G - (xs.length + 1)); rw [Array.size_append, Array.size_append, z1, z2, List.size_toArray, List.length_take]; omega), by have z1 := zero_size (xs.length + 1 - i); rw [← Array.length_toList] at z1; rw [List.length_append]; omega, fun ty => ?_⟩
      rw [hG]
      have hik : i + (xs.length + 1 - i) = xs.length + 1 := by omega
      have h := Lib.run_append_grow_zeros w 22 3 ty 26 i0 _ .i64 .i64 Tryd.underlying22 Tryd.underlying3 hi0 hz0 (some ad) i xs.length (inner.take (i * 6)) (by
        rw [hzs]
        exact run_firstCells_some w.drew 6 i ad i _ (inner.take (i * 6)) (by rw [List.length_take]; omega) (fun j v hj => by
          rw [List.getElem?_take] at hj
          split at hj
          · exact hc j v hj
          · cases hj)) (xs.length + 1 - i) (by omega) (by omega) (by omega) (by omega) (by rw [hzb]; omega) (by rw [hzb, hik]; exact growslice_fits (by omega) hm)
      rw [hik] at h
      rw [show (xs.length : Int) + 1 - (i : Int) = ((xs.length + 1 - i : Nat) : Int) by omega]
      exact h
    have hil2 : (inner.take (i * 6)).length = i * 6 := by rw [List.length_take]; omega
    -- the one copied
    obtain ⟨W2, cur2, hW2, hB2, hcur2, hs2, hcpA⟩ : ∃ W2 cur2, W2.heap[w.heap.size]? = some (.cells cur2 26 (0, 0)) ∧ Below w.heap.size w W2 ∧ cur2.toList = inner.take (i * 6) ++ c ++ Z.drop 6 ∧ cur2.size = G * 6 ∧ ∀ ty dc, (Builtin.copy_ #[22, 22] ty #[.slice (some ⟨w.heap.size, i * 6, none⟩) (xs.length + 1 - i) dc, .slice (some vd) 1 1]).run Tryd.prog W1 = .ok (.int .i64 1) W2 := by
      have hmin : Nat.min 1 (xs.length + 1 - i) = 1 := by simp only [Nat.min_def]; split <;> omega
      have hfit : i * 6 + c.length ≤ cur1.size := by rw [← Array.length_toList, hcur1, List.length_append]; omega
      refine ⟨W1.setRow w.heap.size (cur1.toList.take (i * 6) ++ c ++ cur1.toList.drop (i * 6 + c.length)).toArray, _, setRow_heap W1 w.heap.size cur1 _ _ _ hW1, below_setRow hB1 (Nat.le_refl _) _, ?_, by (simp only [List.size_toArray, List.length_append, List.length_take, List.length_drop, Array.length_toList]; omega), fun ty dc => ?_⟩
      · rw [hcur1, List.take_append_of_le_length (by omega), List.take_of_length_le (by omega), List.drop_append, List.drop_eq_nil_of_le (by omega), List.nil_append, hil2, hcl]
        simp
      · have := run_copy_wide W1 22 22 ty 26 6 w.heap.size (i * 6) (xs.length + 1 - i) dc (some vd) 1 1 cur1 26 c Tryd.underlying22 hsz hW1 (by rw [hmin]; omega) (fun _ => ⟨vd, rfl, fun j v hj => (hB1.cell (World.block_lt_of_cell? w _ (hcv j v hj))).trans (hcv j v hj)⟩) hfit hc1
        rw [hmin] at this
        exact this
    obtain ⟨W3, cur3, pad, hW3, hB3, hcur3, hs3, hcpB⟩ : ∃ W3 cur3 pad, W3.heap[w.heap.size]? = some (.cells cur3 26 (0, 0)) ∧ Below w.heap.size w W3 ∧ cur3.toList = (inner.take (i * 6) ++ c ++ inner.drop (i * 6)) ++ pad ∧ cur3.size = G * 6 ∧ ∀ ty dc sc, (Builtin.copy_ #[22, 22] ty #[.slice (some ⟨w.heap.size, (i + 1) * 6, none⟩) (xs.length + 1 - (i + 1)) dc, .slice (some (ad.add (i * 6))) (xs.length - i) sc]).run Tryd.prog W2.drew = .ok (.int .i64 ((xs.length - i : Nat) : Int)) W3 := by
      have hmin : Nat.min (xs.length - i) (xs.length + 1 - (i + 1)) = xs.length - i := by simp only [Nat.min_def]; split <;> omega
      have hdl : (inner.drop (i * 6)).length = (xs.length - i) * 6 := by rw [List.length_drop]; omega
      have hfit : (i + 1) * 6 + (inner.drop (i * 6)).length ≤ cur2.size := by rw [← Array.length_toList, hcur2]; simp only [List.length_append, List.length_drop]; omega
      refine ⟨W2.drew.setRow w.heap.size (cur2.toList.take ((i + 1) * 6) ++ inner.drop (i * 6) ++ cur2.toList.drop ((i + 1) * 6 + (inner.drop (i * 6)).length)).toArray, _, cur2.toList.drop ((i + 1) * 6 + (inner.drop (i * 6)).length), setRow_heap W2.drew w.heap.size cur2 _ _ _ hW2, below_setRow (below_drew hB2) (Nat.le_refl _) _, ?_, by (simp only [List.size_toArray, List.length_append, List.length_take, List.length_drop, Array.length_toList]; omega), fun ty dc sc => ?_⟩
      · rw [show cur2.toList.take ((i + 1) * 6) = inner.take (i * 6) ++ c by rw [hcur2, List.take_append_of_le_length (by rw [List.length_append]; omega), List.take_of_length_le (by rw [List.length_append]; omega)]]
      · have := run_copy_wide W2.drew 22 22 ty 26 6 w.heap.size ((i + 1) * 6) (xs.length + 1 - (i + 1)) dc (some (ad.add (i * 6))) (xs.length - i) sc cur2 26 (inner.drop (i * 6)) Tryd.underlying22 hsz hW2 (by rw [hmin]; exact hdl) (fun _ => ⟨_, rfl, fun j v hj => by
          rw [List.getElem?_drop] at hj
          have h := hc _ v hj
          rw [Addr.add_add]
          refine ((below_drew hB2).cell ?_).trans h
          exact World.block_lt_of_cell? w _ h⟩) hfit (fun v hv => h1i v (List.mem_of_mem_drop hv))
        rw [hmin] at this
        exact this
    have mv : ∀ {p : S26} {c : List Value}, Kd.FK kW w ok p c → Kd.FK kW W3 (fun k => (ok k ∨ w.heap.size ≤ k) ∧ k ≠ w.heap.size) p c := fun h => Kd.FK_mono (Kd.FK_below (Kd.FK_bound h) hB3) (fun k hk => ⟨.inl hk.1, Nat.ne_of_lt hk.2⟩)
    have HF := Aside0.mk (show Kd.N kW 26 W3 w.heap.size (fun k => ok k ∨ w.heap.size ≤ k) (.slice (some ⟨w.heap.size, 0, none⟩) (xs.take i ++ [x] ++ xs.drop i).length G) (xs.take i ++ [x] ++ xs.drop i) from N_block hW3 hcur3 (Reps.append_ (Reps.append_ (Reps.take_ (hR.imp_ (fun p c hp => mv hp)) i hi) (Reps.single_ (mv hx) hcl)) (Reps.drop_ (hR.imp_ (fun p c hp => mv hp)) i hi)) (.inr (Nat.le_refl _)) (Nat.le_refl _) (by simp; omega) (by unfold maxLen; omega) hs3)
    have HB := Aside0.mk hB3
    clear hold hR h1i hcv hx hV hcur1 hW1 hB1 hG hfr hcur2 hW2 hB2 hcur3 hW3 hB3 mv hrd hc hZ
    go_enter Tryd.func55, Tryd.ntmps55
    go_wp2_with (first
      | (at_builtin; refine Lib.wpList_append_run _ rfl _ _ _ _ rfl _ _ rfl rfl _ _ (hrz _) ?_)
      | (at_builtin; refine wpList_copy_runI _ rfl _ _ 22 22 rfl _ _ rfl rfl (hcpA _ _) ?_))
    have hw1 : IntKind.i64.wrap ((i : Int) + 1) = (i : Int) + 1 := by rw [IntKind.wrap_i64]; omega
    have hb1 : (0 : Int) ≤ (i : Int) + 1 := by omega
    have htn : ((i : Int) + 1).toNat = i + 1 := by omega
    have hb2 : (i : Int) + 1 ≤ (xs.length : Int) + 1 := by omega
    have hb3 : (i : Int) ≤ (xs.length : Int) := by omega
    have hci : ¬ (xs.length = i) := by omega
    have hGim : ¬ (G = i + 1) := by omega
    have mixed : Tryd.prog.follows Departure.mixedOrders = true := by kernel_rfl
    go_region_law_o (refine step_copy_runI rfl _ _ 22 22 rfl (.slice (some ⟨w.heap.size, (i + 1) * 6, none⟩) (xs.length + 1 - (i + 1)) (G - (i + 1))) (.slice (some (ad.add (i * 6))) (xs.length - i) (xs.length - i)) (by simp [Act.eval, Act.put]) (by simp [Act.eval, Act.put]) (hcpB 3 (G - (i + 1)) (xs.length - i)) ?_)
    go_wp2
    go_ret
    refine ⟨⟨w.heap.size, G, rfl, hGn, hG63, ?_⟩, HB.out⟩
    have := HF.out
    rw [show (xs.take i ++ [x] ++ xs.drop i).length = xs.length + 1 by simp; omega] at this
    exact this

end Go.Proofs.YthpecpkncifngaaDoor.X
