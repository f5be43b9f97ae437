/- The disk: Write, the walk. -/
import Derived.Test.YtojpmihgpjmobaaDkK
namespace Go.Proofs.Ytojpmihgpjmobaa.X
open Go Go.RowKit Go.Maps Go.Shelf Go.Proofs.Ytojpmihgpjmobaa Go.Proofs.YtojpmihgpjmobaaW.PrintWords Go.Proofs.YtojpmihgpjmobaaW.PrintLast Go.Proofs.YtojpmihgpjmobaaW.PrintMore
attribute [local go_sem] Oper.semAt_some
set_option linter.unusedVariables false
set_option linter.unusedSimpArgs false

theorem drew_below {w w1 : World} (h : Below w.drew.heap.size w.drew w1) : Below w.heap.size w w1 := (below_drew (Below.refl w.heap.size w)).trans h
set_option maxRecDepth 100000 in
set_option maxHeartbeats 16000000 in
theorem write_in {W : World} {p : Nat} {s : DS} {B : Nat → Prop} (h : DiskAt W p s B) (hBs : ∀ k, B k → k < W.heap.size) (hd : s.dead = false) (hf0 : s.fuse ≠ 0) (hf : s.fuse ≤ 9223372036854775807) (a m c : Nat) (A : Option Addr) (ad : Addr) (f : Nat → Int)
    (ham : a + m ≤ s.n) (hA : 0 < m → A = some ad) (hAB : 0 < m → ¬ B ad.block) (hby : By W A (64 * m) f) (hc : 64 * m ≤ c) :
    Calls Try.prog 11 #[dptr p, .int .i64 a, .slice A (64 * m) c] W fun e w' => e = .returned (.int .i64 0) ∧ DiskAt w' p (s.burnt.putL a ((List.finRange m).map fun x i => f (64 * x.val + i))) (New W B) ∧ Tn W w' B := by
  have mixed : Try.prog.follows Departure.mixedOrders = true := by kernel_rfl
  obtain ⟨_, _, _, n1, n2⟩ := h.cells
  have ht : thereB s.n a m = true := by unfold thereB; simp; omega
  have hadW : 0 < m → ad.block < W.heap.size := fun h0 => by
    rcases hby with hz | ⟨ad', e, hr⟩
    · omega
    · rw [hA h0] at e
      obtain rfl := Option.some.inj e
      have := World.block_lt_of_cell? W _ (hr 0 (by omega))
      rwa [add_block] at this
  obtain ⟨s1, hs1⟩ : ∃ s1, s1 = s.burnt := ⟨_, rfl⟩
  have hsn : s1.n = s.n := by rw [hs1]; unfold DS.burnt; split; · rfl
                              split <;> rfl
  rw [← hs1]
  have hB2 : Below W.heap.size W ((W.alloc (.cells #[dptr p] 26)).alloc (.cells #[.int .i64 (a : Int)] 3)) := ((Below.refl _ W).alloc (Nat.le_refl _) _).alloc (by simp) _
  have H2 := Aside0.mk (h.below hB2)
  have k0 : ((W.alloc (.cells #[dptr p] 26)).alloc (.cells #[.int .i64 (a : Int)] 3)).heap[W.heap.size]? = some (.cells #[dptr p] 26 (0, 0)) := blk_alloc (blk_new W _) _
  have k1 : ((W.alloc (.cells #[dptr p] 26)).alloc (.cells #[.int .i64 (a : Int)] 3)).heap[W.heap.size + 1]? = some (.cells #[.int .i64 (a : Int)] 3 (0, 0)) := by
    have := blk_new (W.alloc (.cells #[dptr p] 26)) (.cells #[.int .i64 (a : Int)] 3)
    rwa [World.size_alloc] at this
  have K0 := Aside0.mk k0
  have K1 := Aside0.mk k1
  have HB2 := Aside0.mk hB2
  have HS1 := Lib.hid hs1
  have HSN := Lib.hid hsn
  have HBy := Aside0.mk hby
  have HBs := Aside0.mk hBs
  have g0 := (blk_cell k0 0).trans rfl
  have g1 := (blk_cell k1 0).trans rfl
  have hq64 : (64 * (m : Int)).tdiv 64 = (m : Int) := by rw [Int.tdiv_eq_ediv_of_nonneg (by omega)]; omega
  have hr64 : (64 * (m : Int)).tmod 64 = 0 := by rw [Int.tmod_eq_emod_of_nonneg (by omega)]; omega
  clear h hs1 hsn hby hBs k0 k1 hB2
  refine (callsIn_wide (n := 3)).1 ?_
  refine callsIn_of_wp_marks Try.func11 rfl trivial ?_ rfl
  simp only [Try.ntmps11, List.size_toArray, List.length_cons, List.length_nil, Nat.reduceAdd, Nat.reduceSub, Array.replicate_succ, Array.replicate_zero, List.push_toArray, List.append_toArray, List.nil_append, List.cons_append]
  gi_wp2_with fail
  refine ⟨trivial, ?_⟩
  refine (callsIn_wide.2 (usable_any H2.out)).mono ?_
  rw [hd]
  rintro e w1 ⟨rfl, hq⟩
  obtain rfl := hq.symm
  gi_wp2_with fail
  refine ⟨trivial, ?_⟩
  refine (callsIn_wide.2 (there_any H2.out a m)).mono ?_
  rw [ht]
  rintro e w1 ⟨rfl, hq⟩
  obtain rfl := hq.symm
  gi_wp2_with fail
  refine ⟨trivial, ?_⟩
  refine (callsIn_wide.2 (burn_any H2.out hf)).mono ?_
  rw [if_neg hf0]
  rintro e w3 ⟨rfl, hD, hT⟩
  rw [← HS1.out] at hD
  have hT0 := (Tn.of_below HB2.out B).then_ hT
  have hnb : ∀ j, W.heap.size ≤ j → ¬ B j := fun j hj hb => by have := HBs.out j hb; omega
  have K0' := (hT.block _ (blk_lt K0.out) (hnb _ (Nat.le_refl _))).trans K0.out
  have K1' := (hT.block _ (blk_lt K1.out) (hnb _ (Nat.le_succ _))).trans K1.out
  clear g0 g1 hT
  have g0 := (blk_cell K0' 0).trans rfl
  have g1 := (blk_cell K1' 0).trans rfl
  have HK0 := Aside0.mk K0'
  have HK1 := Aside0.mk K1'
  have HT0 := Aside0.mk hT0
  have HD := Aside0.mk hD
  have HNB := Aside0.mk hnb
  clear hD hT0 hnb K0' K1'
  gi_wp2_with fail
  refine ⟨trivial, ?_⟩
  refine (callsIn_wide.2 (chunk_any A (64 * m) c _)).mono ?_
  rintro e w5 ⟨rfl, hw5⟩
  have hB5 : Below w3.heap.size w3 w5 := by rw [← hw5]; exact ((Below.refl _ w3).alloc (Nat.le_refl _) _).alloc (by simp) _
  gi_wp2_with fail
  obtain ⟨lb, mb, D, wb, hH, hBp, hBl, hBm, hBw⟩ := HD.out
  have hb5 : w3.heap.size + 1 < w5.heap.size := by rw [← hw5]; simp
  have q0 : w5.heap[w3.heap.size]? = some (.cells #[.slice A (64 * m) c] 30 (0, 0)) := by rw [← hw5]; exact blk_alloc (blk_new w3 _) _
  have q1 : w5.heap[w3.heap.size + 1]? = some (.cells #[.int .i64 64] 3 (0, 0)) := by
    have := blk_new (w3.alloc (.cells #[.slice A (64 * m) c] 30)) (.cells #[.int .i64 64] 3)
    rw [World.size_alloc] at this
    rw [← hw5]
    exact this
  have c5 := (blk_cell q0 0).trans rfl
  have c6 := (blk_cell q1 0).trans rfl
  have hW3 : W.heap.size ≤ w3.heap.size := HT0.out.size
  have hmb : mb < W.heap.size := HBs.out mb hBm
  have ln := hH.lts
  have hI0 : WrI W B p lb mb a w5.heap.size s1 (m := m) f [] w5 := by
    refine ⟨D, wb, ?_, ?_, ?_, ?_, ?_, HT0.out.below hB5⟩
    · rw [List.map_nil, DS.putL_nil]
      exact hH.step (hB5.block p ln.1) (hB5.block lb ln.2.1) (hB5.block mb ln.2.2.1) (fun k hk => hB5.block _ (ln.2.2.2 k hk))
    · rw [List.map_nil, DS.putL_nil]
      exact fun k hk => .inl (hBw k hk)
    · exact blk_below HK0.out hB5
    · rw [List.length_nil, show (a : Int) + ((0 : Nat) : Int) = (a : Int) by omega]
      exact blk_below HK1.out hB5
    · exact Nat.le_refl _
  have HI0 := Aside0.mk hI0
  have HB5 := Aside0.mk hB5
  have hWb : W.heap.size + 1 < w3.heap.size := blk_lt HK1.out
  clear hI0 hB5 hH q0 q1 g0 g1
  refine wpIn_rangeFunc_ownG rfl (by omega) (gf := 40) (lb := #[.pointer (some ⟨w3.heap.size, 0, none⟩), .pointer (some ⟨w3.heap.size + 1, 0, none⟩)]) rfl trivial (enters_of Try.func40 (by kernel_rfl) rfl)
    (chunk_stops (3 - 1) (by omega) w3.heap.size A ad m c (by omega) hc hA w5 hb5 c5 c6) kp2_t (kp2_b hb5) (Below.refl _ _) (fun _ => rfl)
    (WrI W B p lb mb a w5.heap.size s1 (m := m) f) (fun _ _ _ => False) (wrI_own (by omega) (by omega)) (fun _ _ _ _ _ h _ _ => h.elim) HI0.out ?a1 ?assign ?body ?done ?stop
  case assign =>
    intro l x W' K hK
    gi_wp2
    exact hK
  case body =>
    rintro l pre x W' ⟨D', wb', hH', hfo, e1, e2, hz, hT'⟩ hlen
    have c1 := (blk_cell hH'.cell 1).trans rfl
    have d1 := (blk_cell e1 0).trans rfl
    have d2 := (blk_cell e2 0).trans rfl
    have hapl : a + pre.length < 65537 := by omega
    have hap1 : a + pre.length < s1.n := by rw [HSN.out]; omega
    have hwa : IntKind.i64.wrap ((a : Int) + (pre.length : Int) + 1) = (a : Int) + (pre.length : Int) + 1 := by rw [IntKind.wrap_i64]; omega
    have hm0 : 0 < m := by omega
    have hbx : By W'.drew (some (ad.add (64 * x.val))) 64 (fun i => f (64 * x.val + i)) := by
      rcases HBy.out with hz0 | ⟨ad', e, hr⟩
      · omega
      · rw [hA hm0] at e
        obtain rfl := Option.some.inj e
        refine .inr ⟨_, rfl, fun i hi => ?_⟩
        rw [Addr.add_add]
        have hx := x.isLt
        have hb := hT'.block ad.block (hadW hm0) (hAB hm0)
        refine Eq.trans ?_ (hr (64 * x.val + i) (by omega))
        show W'.cell? _ = W.cell? _
        simp [World.cell?, add_block, hb]
    have hms : Maps.size D' < maxLen := by
      have := hH'.size
      have h2 := cnt_le (s1.putL a (pre.map fun x i => f (64 * x.val + i)))
      have h3 : (s1.putL a (pre.map fun x i => f (64 * x.val + i))).n = s.n := HSN.out
      unfold maxLen
      omega
    have HBX := Aside0.mk hbx
    have HH := Aside0.mk hH'
    have HFO := Aside0.mk hfo
    have E1 := Aside0.mk e1
    have E2 := Aside0.mk e2
    have HT' := Aside0.mk hT'
    have hN : 1 ≤ 3 - 1 - 1 := by decide
    have l1 := World.block_lt_of_cell? W' _ d1
    have l2 := World.block_lt_of_cell? W' _ d2
    have l3 := World.block_lt_of_cell? W' _ c1
    clear hbx hH' hfo e1 e2 hT'
    gi_wp2_with fail
    gi_region_with_o (refine ⟨trivial, ?_⟩; gi_at_call 30; refine (CallsIn.inRound l (callsIn_wide.2 (clone_any (some (ad.add (64 * x.val))) 64 64 (fun i => f (64 * x.val + i)) _ HBX.out (by decide) (fun h => by cases h)))).mono ?_; rintro e wc ⟨⟨v, rfl, hF⟩, hbc⟩; obtain ⟨g, G, cur, rfl, hG, hG2, hg, hblk, hsz, hcur⟩ := (hF.resolve_left (fun h => absurd h.1 (by decide))); have d1c : wc.cell? ⟨W.heap.size, 0, none⟩ = some (dptr p) := (hbc.cell (p := ⟨W.heap.size, 0, none⟩) l1).trans d1; have d2c : wc.cell? ⟨W.heap.size + 1, 0, none⟩ = some (.int .i64 ((a : Int) + (pre.length : Int))) := (hbc.cell (p := ⟨W.heap.size + 1, 0, none⟩) l2).trans d2; have c1c : wc.cell? ⟨p, 1, none⟩ = some (.map (some mb)) := (hbc.cell (p := ⟨p, 1, none⟩) l3).trans c1; obtain ⟨w6, hrun6, hown6, hg6⟩ := wr_update (owns_step HH.out.map (hbc.block mb HH.out.lts.2.2.1)) hms a pre.length hapl g G hG)
    all_goals
      have e26 : w6.heap[W.heap.size + 1]? = some (.cells #[.int .i64 ((a : Int) + (pre.length : Int))] 3 (0, 0)) := (hg6.block _ (Nat.lt_of_lt_of_le l2 hbc.size) (fun e => by have := Option.some.inj e; omega)).trans ((hbc.block _ l2).trans E2.out)
      have d26 := (blk_cell e26 0).trans rfl
      have f26 := blk_frozen e26 0
      have NX := Aside0.mk (wr_next HBs.out hBp hBl hBm HH.out HFO.out E1.out E2.out hz HT'.out (drew_below hbc) hg hblk hcur hap1 hown6 hg6 hWb hb5)
      clear hbc hg hblk hsz hcur hown6 hg6 e26 d1c d2c c1c d1 d2 c1 hrun6
      gi_wp2
      exact NX.out
  case done =>
    rintro Dd ys W' hDd rfl ⟨D', wb', hH', hfo, e1, e2, hz, hT'⟩ hK
    have hr : ∀ r, some Dd = some r → w5.heap.size ≤ r ∧ ∃ o : Obj, W'.heap[r]? = some o ∧ o.isCells = false := fun r e => by
      obtain rfl := Option.some.inj e
      exact ⟨hDd, _, hK, rfl⟩
    have hg := grownBy_putObj' W' Dd (.deferred none)
    have hH2 := hH'.own hg (by omega) hr
    have hT2 := hT'.trans (Tn.of_grown (B := fun k => some Dd = some k) hg (fun k hk => hk)) (fun k hk => .inr (by have := (hr k hk).1; omega))
    gi_wp2
    refine ⟨by simp, .inl ⟨_, _, rfl, run_takeDeferred hK, ?_⟩⟩
    refine ⟨.int .i64 0, ?_, rfl, ⟨lb, mb, D', wb', hH2, .inl hBp, .inl hBl, .inl hBm, hfo⟩, hT2⟩
    simp [results, Try.f11, go_sem]
  case stop =>
    rintro Dd c' pre W' hDd hpre hx hK
    exact hx.elim
end Go.Proofs.Ytojpmihgpjmobaa.X
