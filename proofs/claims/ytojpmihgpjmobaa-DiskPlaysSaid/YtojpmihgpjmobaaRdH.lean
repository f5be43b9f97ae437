/- The reference's disk: Write at any state; New. -/
import Derived.Test.YtojpmihgpjmobaaRdG
namespace Go.Proofs.Ytojpmihgpjmobaa.X
open Go Go.RowKit Go.Maps Go.Shelf Go.Proofs.Ytojpmihgpjmobaa Go.Proofs.YtojpmihgpjmobaaW.PrintWords Go.Proofs.YtojpmihgpjmobaaW.PrintLast Go.Proofs.YtojpmihgpjmobaaW.PrintMore
set_option linter.unusedVariables false
set_option linter.unusedSimpArgs false

theorem rwrite_all {W : World} {p : Nat} {s : DS} {B : Nat → Prop} (h : RefAt W p s B) (hBs : ∀ k, B k → k < W.heap.size) (hf : s.fuse ≤ 9223372036854775807) (a : Int) (n c : Nat) (A : Option Addr) (f : Nat → Int)
    (hAB : ∀ ad, A = some ad → 0 < n → ¬ B ad.block) (hby : By W A n f) (hc : n ≤ c) (hn : n ≤ 9223372036854775807) :
    Calls Try.prog 34 #[dptr p, .int .i64 a, .slice A n c] W fun e w' => e = .returned (.int .i64 (s.writeE a n)) ∧ RefAt w' p (s.written a n f) (New W B) ∧ Tn W w' B := by
  obtain ⟨_, _, hcs, n1, n2, _⟩ := h.cells
  have c1 := (blk_cell hcs 1).trans rfl
  clear hcs
  have hq64 : (n : Int).tdiv 64 = ((n / 64 : Nat) : Int) := by rw [Int.tdiv_eq_ediv_of_nonneg (by omega)]; omega
  have hr64 : (n : Int).tmod 64 = ((n % 64 : Nat) : Int) := by rw [Int.tmod_eq_emod_of_nonneg (by omega)]; omega
  have HX := Aside0.mk (show ∀ (s' : DS) (w' : World), RefAt w' p s' B → RefAt w' p s' (New W B) from fun s' w' hd => hd.mono (fun k hk => .inl hk))
  unfold DS.writeE DS.written
  by_cases hd : s.dead = true
  · simp only [if_pos hd]
    rw [hd] at c1
    have H := Aside0.mk (HX.out _ _ h)
    clear h hby
    go_enter Try.func34, Try.ntmps34
    go_wp2
    go_ret
    exact ⟨rfl, H.out, Tn.refl _ _⟩
  · simp only [if_neg hd]
    have hd' : s.dead = false := by cases hs : s.dead with | true => exact absurd hs hd | false => rfl
    by_cases h6 : n % 64 ≠ 0
    · simp only [if_pos h6]
      rw [hd'] at c1
      have H := Aside0.mk (HX.out _ _ h)
      have hr0 : ¬ ((n % 64 : Nat) : Int) = 0 := by omega
      generalize ((n % 64 : Nat) : Int) = r at hr64 hr0
      clear h hby h6
      go_enter Try.func34, Try.ntmps34
      go_wp2
      go_ret
      exact ⟨rfl, H.out, Tn.refl _ _⟩
    · simp only [if_neg h6]
      by_cases ht : thereB s.n a ((n / 64 : Nat) : Int) = false
      · simp only [if_pos ht]
        rw [hd'] at c1
        have H := Aside0.mk h
        have hr0 : (n : Int).tmod 64 = 0 := by rw [hr64]; omega
        clear h hby h6 hr64
        go_enter Try.func34, Try.ntmps34
        go_wp2_with fail
        refine (rthere_any H.out a _).mono ?_
        rw [show (n : Int) / 64 = ((n / 64 : Nat) : Int) by omega, ht]
        rintro e w1 ⟨rfl, hq⟩
        obtain rfl := hq.symm
        go_wp2
        go_ret
        exact ⟨rfl, HX.out _ _ H.out, Tn.refl _ _⟩
      · simp only [if_neg ht]
        by_cases h0 : s.fuse = 0
        · simp only [if_pos h0]
          rw [hd'] at c1
          have ht' : thereB s.n a ((n / 64 : Nat) : Int) = true := by cases hs : thereB s.n a ((n / 64 : Nat) : Int) with | false => exact absurd hs ht | true => rfl
          have H := Aside0.mk h
          have hr0 : (n : Int).tmod 64 = 0 := by rw [hr64]; omega
          clear h hby h6 hr64 ht
          go_enter Try.func34, Try.ntmps34
          go_wp2_with fail
          refine (rthere_any H.out a _).mono ?_
          rw [show (n : Int) / 64 = ((n / 64 : Nat) : Int) by omega, ht']
          rintro e w1 ⟨rfl, hq⟩
          obtain rfl := hq.symm
          go_wp2_with fail
          refine (rburn_any H.out hf).mono ?_
          rw [if_pos h0]
          rintro e w3 ⟨rfl, hD, hT⟩
          have HD := Aside0.mk (HX.out _ _ hD)
          have HT := Aside0.mk hT
          clear hD hT
          go_wp2
          go_ret
          exact ⟨rfl, HD.out, HT.out⟩
        · simp only [if_neg h0]
          have ht' : thereB s.n a ((n / 64 : Nat) : Int) = true := by cases hs : thereB s.n a ((n / 64 : Nat) : Int) with | false => exact absurd hs ht | true => rfl
          unfold thereB at ht'
          simp only [Bool.and_eq_true, decide_eq_true_eq] at ht'
          obtain ⟨⟨⟨q1, q2⟩, q3⟩, q4⟩ := ht'
          obtain ⟨k, rfl⟩ := Int.eq_ofNat_of_zero_le q1
          obtain ⟨m, rfl⟩ : ∃ m, n = 64 * m := ⟨n / 64, by omega⟩
          have hm : 64 * m / 64 = m := by omega
          rw [hm] at q4 ⊢
          rw [Int.toNat_natCast]
          exact rwrite_in h hBs hd' h0 hf k m c A f (by omega) (fun ad e h0 => hAB ad e (by omega)) hby hc
theorem info_cell : (Try.prog.info? 70).map (fun i => (i.zero, i.size, i.bytes)) = some (some (.agg #[.slice none 0 0, .slice none 0 0, .bool false]), 3, 56) := by kernel_rfl
/-- The list of sectors so far. -/
def NewI (w0 : World) (i : Nat) (wr : World) : Prop := ∃ (v : Value) (vl : Nat → Value), wr.heap[w0.heap.size]? = some (.cells #[v, .bool false, .int .i64 (-1)] 51 (0, 0)) ∧ (Kd.raw 3).R 70 wr w0.heap.size (fun k => w0.heap.size < k) v ((List.range i).map fun j => [vl j, .slice none 0 0, .bool false]) ∧ ∀ j, j < i → RowIn wr (fun k => w0.heap.size < k) (vl j) (fun _ => 0)
theorem raw_own {e b : Nat} {w : World} {ok : Nat → Prop} {v : Value} {xs : List (List Value)} (h : (Kd.raw 3).R e w b ok v xs) : ∀ k, v.ownBlock = some k → ok k ∧ k < w.heap.size ∧ ∃ c, w.heap[k]? = some (.cells c e (0, 0)) := fun k hk => by
  obtain ⟨h1, _, h3, q, hq, c, hc⟩ := (Kd.R_bound h).1 k hk
  have : q = e := by simpa [Kd.raw] using hq
  rw [this] at hc
  exact ⟨h1, h3, c, hc⟩
theorem newI_next {w0 wr w2 : World} {i : Nat} {v v2 : Value} {vl : Nat → Value} {wb : World} (h1 : wr.heap[w0.heap.size]? = some (.cells #[v, .bool false, .int .i64 (-1)] 51 (0, 0)))
    (hbw : Below wr.heap.size wr wb) (h2 : (Kd.raw 3).R 70 wb w0.heap.size (fun k => w0.heap.size < k) v ((List.range i).map fun j => [vl j, .slice none 0 0, .bool false])) (h3 : ∀ j, j < i → RowIn wr (fun k => w0.heap.size < k) (vl j) (fun _ => 0)) (hg : wb.grownBy w2 v.ownBlock)
    (h4 : (Kd.raw 3).R 70 w2 w0.heap.size (fun k => w0.heap.size < k) v2 (((List.range i).map fun j => [vl j, .slice none 0 0, .bool false]) ++ [[.slice (some ⟨wr.heap.size, 0, none⟩) 64 64, .slice none 0 0, .bool false]]))
    (h5 : RowIn wb (fun k => w0.heap.size < k) (.slice (some ⟨wr.heap.size, 0, none⟩) 64 64) (fun _ => 0)) :
    (w2.heap[w0.heap.size]? = some (.cells #[v, .bool false, .int .i64 (-1)] 51 (0, 0))) ∧ NewI w0 (i + 1) (w2.setCell ⟨w0.heap.size, 0, none⟩ v2) := by
  have hlt := blk_lt h1
  have hne : ∀ k c, wb.heap[k]? = some (.cells c 5 (0, 0)) → some k ≠ v.ownBlock := fun k c hc he => by
    obtain ⟨_, _, c', hc'⟩ := raw_own h2 k he.symm
    rw [hc'] at hc
    injection hc with hc
    injection hc with _ hc
    exact absurd hc (by decide)
  have hbx : w2.heap[w0.heap.size]? = some (.cells #[v, .bool false, .int .i64 (-1)] 51 (0, 0)) := by
    have e1 := hbw.block _ hlt
    refine (hg.block _ (Nat.lt_of_lt_of_le hlt hbw.size) (fun he => ?_)).trans (e1.trans h1)
    have := (raw_own h2 _ he.symm).1
    omega
  have hmv : ∀ {u : Value} {f : Nat → Int}, RowIn wb (fun k => w0.heap.size < k) u f → RowIn (w2.setCell ⟨w0.heap.size, 0, none⟩ v2) (fun k => w0.heap.size < k) u f := fun hr => hr.step (fun j hj hjl ⟨c, hc⟩ => by
    rw [Below.heap_setCell _ ⟨w0.heap.size, 0, none⟩ _ j (by show j ≠ w0.heap.size; omega)]
    exact hg.block j hjl (hne j c hc)) (fun _ h => h)
  refine ⟨hbx, v2, fun j => if j = i then .slice (some ⟨wr.heap.size, 0, none⟩) 64 64 else vl j, blk_put hbx 0 _ rfl, ?_, fun j hj => ?_⟩
  · refine Kd.R_far (p := ⟨w0.heap.size, 0, none⟩) ?_ (fun k hk => by show k ≠ w0.heap.size; omega) _
    have e : ((List.range (i + 1)).map fun j => [if j = i then Value.slice (some ⟨wr.heap.size, 0, none⟩) 64 64 else vl j, .slice none 0 0, .bool false]) = ((List.range i).map fun j => [vl j, .slice none 0 0, .bool false]) ++ [[.slice (some ⟨wr.heap.size, 0, none⟩) 64 64, .slice none 0 0, .bool false]] := by
      rw [List.range_succ, List.map_append]
      congr 1
      · refine List.map_congr_left fun j hj => ?_
        have := List.mem_range.1 hj
        rw [if_neg (by omega)]
      · simp
    rw [e]
    exact h4
  · by_cases e : j = i
    · simp only [if_pos e]
      exact hmv h5
    · simp only [if_neg e]
      exact hmv ((h3 j (by omega)).bound.step (fun k hk _ _ => hbw.block k hk.2) (fun k hk => hk.1))
theorem newI_end {w0 wr : World} {n : Nat} (h : NewI w0 n wr) (h1 : 1 ≤ n) (h2 : n ≤ 65536) : RefAt wr w0.heap.size (DS.new n) (fun k => w0.heap.size ≤ k) := by
  obtain ⟨v, vl, a1, a2, a3⟩ := h
  have hb := Kd.R_bound a2
  obtain ⟨inner, ho⟩ := Kd.R_own a2
  have hr := a2.2
  obtain ⟨inner, ho, hrep⟩ := hr
  have hlen : ((List.range n).map fun j => [vl j, Value.slice none 0 0, .bool false]).length = n := by simp
  rw [hlen] at ho
  rcases ho.2 with ⟨e, h0⟩ | ⟨g, cap, cur, e, hb2, hh, hnc, hcm, hcs, hin⟩
  · omega
  · subst e
    have hgl := (raw_own a2 g (by simp [Value.ownBlock])).1
    have hsz : (Kd.raw 3).sz = 3 := rfl
    rw [hsz] at hcs ho hrep hin
    refine ⟨g, cap, vl, fun _ => .slice none 0 0, { cell := a1, row := ⟨cur, hh, by omega, fun k hk => ?_⟩, la := fun k hk => ?_, wt := fun k f _ hf => (by cases hf), sw := fun k _ => ⟨_, _, _, rfl⟩, bq := Nat.le_refl _, bc := Nat.le_of_lt hgl, hG := hnc, hG2 := (by unfold maxLen at hcm; exact hcm), n1 := h1, n2 := h2 }⟩
    · have hk' : k < n := hk
      have hq := hrep.2 k [vl k, .slice none 0 0, .bool false] (by rw [List.getElem?_map, List.getElem?_range hk']; rfl)
      have hq1 := hq.1
      have hil : inner.length = n * 3 := by rw [hrep.1, hlen]
      have key : ∀ j, j < 3 → cur[k * 3 + j]? = [vl k, Value.slice none 0 0, .bool false][j]? := fun j hj => by
        rw [← hq1, List.getElem?_take, if_pos hj, List.getElem?_drop, ← hin, List.getElem?_take, if_pos (by omega), Array.getElem?_toList]
      exact ⟨key 0 (by omega), key 1 (by omega), key 2 (by omega)⟩
    · obtain ⟨g', G', c, e, z1, z2, z3, z4, z5⟩ := a3 k hk
      exact ⟨g', G', c, e, z1, z2, Nat.le_of_lt z3, z4, z5⟩
set_option maxRecDepth 100000 in
set_option maxHeartbeats 8000000 in
theorem rnew_in (W : World) (n : Nat) (h1 : 1 ≤ n) (h2 : n ≤ 65536) :
    Calls Try.prog 20 #[.int .i64 n] W fun e w' => (∃ p, e = .returned (.tuple #[dptr p, .int .i64 0]) ∧ RefAt w' p (DS.new n) (fun k => W.heap.size ≤ k)) ∧ Below W.heap.size W w' := by
  have g1 : ¬ (n : Int) < 1 := by omega
  have g2 : ¬ (65536 : Int) < n := by omega
  have hmk : ∀ W : World, (Instr.makeSlice 30 (.int .i64 64) (.int .i64 64)).run Try.prog W = .ok (.slice (some ⟨W.heap.size, 0, none⟩) 64 64) (W.alloc (.cells (madeCells #[.int .u8 0] 64) 5)) := fun W => make_run W 64 (by decide)
  go_enter Try.func20, Try.ntmps20
  go_wp2
  obtain ⟨W1, hW1⟩ : ∃ W1, W1 = W.alloc (.cells #[.slice none 0 0, .bool false, .int .i64 (-1)] 51) := ⟨_, rfl⟩
  rw [← hW1]
  have hbx : W1.heap[W.heap.size]? = some (.cells #[.slice none 0 0, .bool false, .int .i64 (-1)] 51 (0, 0)) := by rw [hW1]; exact blk_new _ _
  have HB1 := Aside0.mk (show Below W.heap.size W W1 by rw [hW1]; exact (Below.refl _ _).alloc (Nat.le_refl _) _)
  have HI1 := Aside0.mk (show NewI W 0 W1 from ⟨.slice none 0 0, fun _ => .slice none 0 0, hbx, Kd.R_nil _ _ _ _ _, fun j hj => by omega⟩)
  clear hW1 hbx
  go_loopw [5] (fun ii wr => ∃ i : Nat, i ≤ n ∧ ii = .int .i64 i ∧ Aside0 (NewI W i wr) ∧ Aside0 (Below W.heap.size W wr)) (fun ii _ => n - (intOf ii).toNat)
  case atStart => exact ⟨0, Nat.zero_le _, rfl, HI1, HB1⟩
  case round =>
    obtain ⟨i, hi, rfl, hI, hB⟩ := hrel
    by_cases hlt : i < n
    · obtain ⟨v, vl, a1, a2, a3⟩ := hI.out
      obtain ⟨A, C, hv, _, _⟩ := Kd.R_reads a2
      have c0 : wr.cell? ⟨W.heap.size, 0, none⟩ = some v := (blk_cell a1 0).trans rfl
      rw [hv] at c0
      have hln : ((List.range i).map fun j => [vl j, Value.slice none 0 0, .bool false]).length = i := by simp
      rw [hln] at c0 hv
      have HAa := Aside0.mk ((Below.refl wr.heap.size wr).alloc (Nat.le_refl _) (.cells (madeCells #[.int .u8 0] 64) 5))
      have HAb := Aside0.mk (HAa.out.alloc HAa.out.size (.cells #[.slice (some ⟨wr.heap.size, 0, none⟩) 64 64, .slice none 0 0, .bool false] 70))
      have hkc : ∀ w', Below wr.heap.size wr w' → w'.cell? ⟨W.heap.size, 0, none⟩ = some (.slice A i C) := fun w' hb => (hb.cell (World.block_lt_of_cell? _ _ c0)).trans c0
      have ca := hkc _ HAa.out
      have cb := hkc _ HAb.out
      have hrb := Kd.R_below a2 HAb.out
      have hxb : RowIn ((wr.alloc (.cells (madeCells #[.int .u8 0] 64) 5)).alloc (.cells #[.slice (some ⟨wr.heap.size, 0, none⟩) 64 64, .slice none 0 0, .bool false] 70)) (fun k => W.heap.size < k) (.slice (some ⟨wr.heap.size, 0, none⟩) 64 64) (fun _ => 0) :=
        ⟨wr.heap.size, 64, _, rfl, Nat.le_refl _, by decide, Nat.lt_of_lt_of_le (blk_lt a1) (Nat.le_refl _), blk_alloc (blk_new wr _) _, fun j hj => made_get 64 j hj⟩
      have hHR : ReadsRow (fun (x cs : List Value) => cs = x ∧ cs.length = 3 ∧ ∀ u ∈ cs, u.oneCell' = true) 3 ((wr.alloc (.cells (madeCells #[.int .u8 0] 64) 5)).alloc (.cells #[.slice (some ⟨wr.heap.size, 0, none⟩) 64 64, .slice none 0 0, .bool false] 70)) (some ⟨wr.heap.size + 1, 0, none⟩) 1 [[.slice (some ⟨wr.heap.size, 0, none⟩) 64 64, .slice none 0 0, .bool false]] := by
        refine ⟨rfl, by decide, fun _ => ⟨_, rfl, fun j p hj => ?_⟩⟩
        have hj0 : j = 0 := by have := (List.getElem?_eq_some_iff.1 hj).1; simpa using this
        subst hj0
        obtain rfl : _ = p := Option.some.inj hj
        refine ⟨_, rfl, ⟨rfl, rfl, by intro u hu; simp at hu; rcases hu with rfl | rfl | rfl <;> rfl⟩, fun q u hu => ?_⟩
        have hb := blk_new (wr.alloc (.cells (madeCells #[.int .u8 0] 64) 5)) (.cells #[.slice (some ⟨wr.heap.size, 0, none⟩) 64 64, .slice none 0 0, .bool false] 70)
        rw [World.size_alloc] at hb
        rw [Addr.add_lit, show 0 + (0 * 3 + q) = q by omega]
        refine (blk_cell hb q).trans ?_
        rw [← hu]
        exact List.getElem?_toArray
      have HN := Aside0.mk (fun w2 v2 hg h4 => newI_next (w0 := W) (wr := wr) (w2 := w2) (v2 := v2) (i := i) (vl := vl) a1 HAb.out.drew (Kd.R_drew hrb) a3 hg h4 (hxb.step (fun _ _ _ _ => rfl) (fun _ h => h)))
      have HRB := Aside0.mk hrb
      have HHR := Aside0.mk hHR
      have HBb := Aside0.mk (hB.out.trans (HAb.out.mono hB.out.size))
      have hln2 : (((List.range i).map fun j => [vl j, Value.slice none 0 0, .bool false]).length + 1) * 56 ≤ 140737488355328 := by rw [hln]; omega
      have hwl : W.heap.size < wr.heap.size := blk_lt a1
      have HL3 := Aside0.mk (show (((List.range i).map fun j => [vl j, Value.slice none 0 0, .bool false]) ++ [[Value.slice (some ⟨wr.heap.size, 0, none⟩) 64 64, Value.slice none 0 0, Value.bool false]]).length = i + 1 by rw [List.length_append, hln]; rfl)
      subst hv
      clear a1 a2 a3 hrb hxb hHR hkc hln
      go_upto_region 9 with (fail)
      go_region_law (first | (refine Kd.R_append_rows_step (Kd.raw 3) (w0 := W) W.heap.size rfl (.tmp 21) (.tmp 24) 49 70 (.agg #[.slice none 0 0, .slice none 0 0, .bool false]) 56 rfl Try.underlying49 info_cell rfl (by decide) (by decide) (.slice A i C) _ _ (some ⟨wr.heap.size + 1, 0, none⟩) 1 1 (fun k => W.heap.size < k) (fun _ => False) rfl rfl (Kd.R_drew HRB.out) HHR.out (fun _ _ h => h) (fun _ h => h.elim) (fun k h => Nat.lt_of_lt_of_le hwl (Nat.le_trans HAb.out.size h)) HBb.out.drew HBb.out.size hln2 ?_; intro v2 w2 hR2 hB2 hg2 hat2; obtain ⟨hbx2, hNI⟩ := HN.out w2 v2 hg2 hR2; have c02 : w2.cell? ⟨W.heap.size, 0, none⟩ = some (.slice A i C) := (blk_cell hbx2 0).trans rfl; have f02 := blk_frozen hbx2 0; obtain ⟨A2, C2, hv2, _, _⟩ := Kd.R_reads hR2; rw [HL3.out] at hv2; have HNI := Aside0.mk hNI; have HB2 := Aside0.mk hB2; clear hR2 hNI hB2 hg2 hat2 hbx2; subst hv2))
      all_goals
        go_wp2
        go_roundw
        case rel => exact ⟨i + 1, by omega, by go_num, HNI, ⟨HB2.out.setCell (p := ⟨W.heap.size, 0, none⟩) (Nat.le_refl _) _⟩⟩
        case measure => simp [intOf]; omega
    · obtain rfl : i = n := by omega
      have HE := Aside0.mk (newI_end hI.out h1 h2)
      go_wp2
      go_ret2
      exact ⟨⟨_, rfl, HE.out⟩, hB.out⟩
end Go.Proofs.Ytojpmihgpjmobaa.X
