/- The law DiskFuse. -/
import Derived.Test.YtojpmihgpjmobaaDkV
namespace Go.Proofs.Ytojpmihgpjmobaa.X
open Go Go.RowKit Go.Maps Go.Shelf Go.Proofs.Ytojpmihgpjmobaa Go.Proofs.YtojpmihgpjmobaaW.PrintWords Go.Proofs.YtojpmihgpjmobaaW.PrintLast Go.Proofs.YtojpmihgpjmobaaW.PrintMore
set_option linter.unusedVariables false
set_option linter.unusedSimpArgs false

def Fu (N i : Nat) (s : DS) : Prop := s.n = 3 ∧ s.fuse ≤ 100 ∧ (i ≤ N ∧ s.dead = false ∧ s.fuse = (N : Int) - i ∨ N < i ∧ s.dead = true)
theorem fu_step {N i : Nat} {s : DS} (h : Fu N i s) (hl : i < N) : s.dead = false ∧ s.fuse ≠ 0 ∧ Fu N (i + 1) s.burnt ∧ s.burnt.dead = false := by
  obtain ⟨h1, h2, h3 | h3⟩ := h
  · have hb : s.burnt = { s with fuse := s.fuse - 1 } := by unfold DS.burnt; rw [if_neg (by omega), if_pos (by omega)]
    refine ⟨h3.2.1, by omega, ?_, by rw [hb]; exact h3.2.1⟩
    rw [hb]
    exact ⟨h1, by show s.fuse - 1 ≤ 100; omega, .inl ⟨by omega, h3.2.1, by show s.fuse - 1 = _; omega⟩⟩
  · omega
theorem fu_out {N i : Nat} {s : DS} (h : Fu N i s) (hl : ¬ i < N) : s.dead = true ∧ Fu N (i + 1) s ∨ s.dead = false ∧ s.fuse = 0 ∧ Fu N (i + 1) s.burnt := by
  obtain ⟨h1, h2, h3 | h3⟩ := h
  · refine .inr ⟨h3.2.1, by omega, ?_⟩
    have hb : s.burnt = { s with dead := true, fuse := -1 } := by unfold DS.burnt; rw [if_pos (by omega)]
    rw [hb]
    exact ⟨h1, by show (-1 : Int) ≤ 100; decide, .inr ⟨by omega, rfl⟩⟩
  · exact .inl ⟨h3.2, h1, h2, .inr ⟨by omega, h3.2⟩⟩
theorem fu_dead {N i : Nat} {s : DS} (h : Fu N (i + 1) s) : s.dead = decide (¬ i < N) := by
  obtain ⟨h1, h2, h3 | h3⟩ := h
  · rw [h3.2.1]; simp; omega
  · rw [h3.2]; simp; omega
theorem fu_sync {N i : Nat} {s : DS} (h : Fu N i s) : s.syncE = (if i < N then 0 else 140) ∧ Fu N (i + 1) s.synced := by
  unfold DS.syncE DS.synced
  by_cases hl : i < N
  · obtain ⟨h1, h2, h3, h4⟩ := fu_step h hl
    rw [if_pos hl, h1]
    simp only [Bool.false_eq_true, if_false, if_neg h2]
    exact ⟨trivial, h3⟩
  · rw [if_neg hl]
    rcases fu_out h hl with ⟨h1, h2⟩ | ⟨h1, h2, h3⟩
    · simp only [if_pos h1]
      exact ⟨trivial, h2⟩
    · rw [h1]
      simp only [Bool.false_eq_true, if_false, if_pos h2]
      exact ⟨trivial, h3⟩
theorem fu_write {N i : Nat} {s : DS} (h : Fu N i s) (a : Int) (f : Nat → Int) (ha : thereB 3 a 1 = true) : s.writeE a 64 = (if i < N then 0 else 140) ∧ Fu N (i + 1) (s.written a 64 f) := by
  have ht : ¬ thereB s.n a ((64 / 64 : Nat) : Int) = false := by rw [h.1]; show ¬ thereB 3 a 1 = false; rw [ha]; decide
  have h6 : ¬ (64 % 64 : Nat) ≠ 0 := by decide
  unfold DS.writeE DS.written
  by_cases hl : i < N
  · obtain ⟨h1, h2, h3, h4⟩ := fu_step h hl
    rw [if_pos hl, h1]
    simp only [Bool.false_eq_true, if_false, if_neg h2, if_neg h6, if_neg ht]
    exact ⟨trivial, h3⟩
  · rw [if_neg hl]
    rcases fu_out h hl with ⟨h1, h2⟩ | ⟨h1, h2, h3⟩
    · simp only [if_pos h1]
      exact ⟨trivial, h2⟩
    · rw [h1]
      simp only [Bool.false_eq_true, if_false, if_pos h2, if_neg h6, if_neg ht]
      exact ⟨trivial, h3⟩
theorem row_by (W : World) (n : Nat) : By (W.alloc (.cells (madeCells #[.int .u8 0] n) 5)) (some ⟨W.heap.size, 0, none⟩) n (fun _ => 0) := .inr ⟨_, rfl, fun i hi => by
  rw [Addr.add_lit, Nat.zero_add]
  exact (blk_cell (blk_new W _) i).trans (made_get n i hi)⟩
def BlAt (W : World) (A : Option Addr) (xs : List Bool) : Prop := ∀ (i : Nat) (x : Bool), xs[i]? = some x → ∃ ad : Addr, A = some ad ∧ W.cell? (ad.add i) = some (.bool x)
theorem BlAt.of_reads {W : World} {A : Option Addr} {xs : List Bool} (h : Kd.bool.C W A xs.length xs) : BlAt W A xs := fun i x hx => by
  have hi := (List.getElem?_eq_some_iff.1 hx).1
  obtain ⟨ad, c, e, _, hK, hcell⟩ := Kd.C_get h false (i : Int) (by omega) (by omega)
  refine ⟨ad, e, ?_⟩
  rw [show c = _ from hK] at hcell
  have := hcell 0 _ rfl
  rw [Int.toNat_natCast, show i * Kd.bool.sz + 0 = i by show i * 1 + 0 = i; omega, List.getD_eq_getElem?_getD, hx] at this
  exact this
theorem rest0 (s : DS) : (s.restart []).dead = false ∧ (s.restart []).fuse = -1 ∧ (s.restart []).n = s.n := ⟨rfl, rfl, rfl⟩
theorem sync_ok {s : DS} (h1 : s.dead = false) (h2 : s.fuse = -1) : s.syncE = 0 ∧ s.synced.dead = false := by
  have h3 : ¬ s.fuse = 0 := by rw [h2]; decide
  have hb : s.burnt = s := by unfold DS.burnt; rw [if_neg h3, if_neg (by rw [h2]; decide)]
  unfold DS.syncE DS.synced
  rw [h1]
  simp only [Bool.false_eq_true, if_false, if_neg h3]
  exact ⟨trivial, by rw [hb]; exact h1⟩
set_option maxRecDepth 100000 in
set_option maxHeartbeats 8000000 in
theorem diskFuse_any (w : World) (n : Int) (A : Option Addr) (c : Nat) (bs : List Bool) (hr : Kd.bool.C w A bs.length bs) (hm : bs.length ≤ 140737488355328) :
    Calls Try.prog 4 #[.int .i64 n, .slice A bs.length c] w fun e w' => e = .returned (.bool true) ∧ Below w.heap.size w w' := by
  have HY := Aside0.mk (BlAt.of_reads hr)
  clear hr
  have e1 : IntKind.i64.wrap (n.tmod 100 + 100) = n.tmod 100 + 100 := by
    rw [IntKind.wrap_i64]
    have := Int.tmod_lt_of_pos n (show (0 : Int) < 100 by decide)
    have := Int.tmod_lt_of_pos (-n) (show (0 : Int) < 100 by decide)
    rw [Int.neg_tmod] at this
    omega
  obtain ⟨N, hN, e2⟩ : ∃ N : Nat, N < 100 ∧ (n.tmod 100 + 100).tmod 100 = (N : Int) := by
    have h1 := Int.tmod_lt_of_pos n (show (0 : Int) < 100 by decide)
    have h2 := Int.tmod_lt_of_pos (-n) (show (0 : Int) < 100 by decide)
    rw [Int.neg_tmod] at h2
    refine ⟨((n.tmod 100 + 100).tmod 100).toNat, ?_, ?_⟩
    · rw [Int.tmod_eq_emod_of_nonneg (by omega)]; omega
    · rw [Int.tmod_eq_emod_of_nonneg (by omega)]; omega
  go_enter Try.func4, Try.ntmps4
  go_wp2_with fail
  refine (new_any 3 w).mono ?_
  intro e w1 hNp
  obtain ⟨⟨p, rfl, hD⟩, hb1⟩ := new_ok hNp (by decide) (by decide)
  have HD := Aside0.mk hD.bound
  have HB1 := Aside0.mk hb1
  clear hNp hD hb1
  go_wp2_with fail
  refine (fuse_any HD.out N).mono ?_
  rintro e w2 ⟨rfl, hD, hT⟩
  have HD2 := Aside0.mk hD.bound
  have HB2 := Aside0.mk (hT.to_below HB1.out (fun k hk => hk.1))
  have HF0 := Aside0.mk (show Fu N 0 { (DS.new (Int.toNat 3)) with fuse := max (N : Int) (-1) } from ⟨rfl, by show max (N : Int) (-1) ≤ 100; omega, .inl ⟨by omega, rfl, by show max (N : Int) (-1) = _; omega⟩⟩)
  clear hD hT
  have hmk : ∀ W : World, (Instr.makeSlice 30 (.int .i64 64) (.int .i64 64)).run Try.prog W = .ok (.slice (some ⟨W.heap.size, 0, none⟩) 64 64) (W.alloc (.cells (madeCells #[.int .u8 0] 64) 5)) := fun W => make_run W 64 (by decide)
  go_wp2
  go_loopw [7] (fun i wr => ∃ k : Nat, k ≤ bs.length ∧ k ≤ 200 ∧ i = .int .i64 k ∧ Aside0 (∃ s, DiskAt wr p s (fun j => w.heap.size ≤ j ∧ j < wr.heap.size) ∧ Fu N k s) ∧ Aside0 (Below w.heap.size w wr)) (fun i _ => 200 - (intOf i).toNat)
  case atStart =>
    exact ⟨0, Nat.zero_le _, by decide, rfl, ⟨_, HD2.out.mono (fun k hk => ⟨hk.1.1, hk.2⟩), HF0.out⟩, HB2⟩
  case round =>
    obtain ⟨k, hk1, hk2, rfl, hS, hB⟩ := hrel
    obtain ⟨s, hD, hF⟩ := hS.out
    have hfu : s.fuse ≤ 9223372036854775807 := by have := hF.2.1; omega
    clear hS
    by_cases hlt : k < bs.length ∧ k < 200
    · obtain ⟨h1, h2⟩ := hlt
      obtain ⟨x, hx⟩ : ∃ x, bs[k]? = some x := ⟨_, List.getElem?_eq_getElem h1⟩
      obtain ⟨ad, rfl, hcell⟩ := HY.out k x hx
      have hk' := (hB.out.cell (World.block_lt_of_cell? w _ hcell)).trans hcell
      have H := Aside0.mk hD
      have HF := Aside0.mk hF
      clear hD hF hcell hx
      cases x
      · have hm3 : (k : Int).tmod 3 = ((k % 3 : Nat) : Int) := by rw [Int.tmod_eq_emod_of_nonneg (by omega)]; omega
        have HA := Aside0.mk ((Below.refl _ wr).alloc (Nat.le_refl _) (.cells (madeCells #[.int .u8 0] 64) 5))
        have HG := Aside0.mk (row_by wr 64)
        go_wp2_with fail
        have ha3 : thereB 3 ((k : Int) % 3) 1 = true := by unfold thereB; simp; omega
        refine (write_all (H.out.below HA.out) (fun j hj => Nat.lt_of_lt_of_le hj.2 HA.out.size) hfu ((k : Int) % 3) 64 64 (some ⟨wr.heap.size, 0, none⟩) (fun _ => 0) (fun ad e h => by obtain rfl := Option.some.inj e; exact Nat.lt_irrefl _ h.2) HG.out (by decide) (by decide)).mono ?_
        rw [(fu_write HF.out _ (fun _ => 0) ha3).1]
        rintro e w3 ⟨rfl, hD, hT⟩
        have HB2' := hB.out.trans (HA.out.mono hB.out.size)
        have H3 := Aside0.mk (hD.bound.mono (fun j hj => (⟨by
          rcases hj.1 with h | h
          · exact h.1
          · exact Nat.le_trans HB2'.size h, hj.2⟩ : w.heap.size ≤ j ∧ j < w3.heap.size)))
        have HB3 := Aside0.mk (hT.to_below HB2' (fun j hj => hj.1))
        have HF3 := Aside0.mk (fu_write HF.out ((k : Int) % 3) (fun _ => 0) ha3).2
        clear hD hT HB2' HA HG
        by_cases hl : k < N
        · rw [if_pos hl]
          have hdd := fu_dead HF3.out
          rw [decide_eq_false (by omega)] at hdd
          have hl2 : (k : Int) < N := by omega
          have hl3 : ¬ (N : Int) ≤ k := by omega
          have hl4 : ¬ N ≤ k := by omega
          go_wp2_with fail
          refine (dead_any H3.out).mono ?_
          rw [hdd]
          rintro e w4 ⟨rfl, hq⟩
          obtain rfl := hq.symm
          go_wp2
          go_roundw
          case rel => exact ⟨k + 1, by omega, by omega, by go_num, ⟨_, H3.out, HF3.out⟩, HB3⟩
          case measure => simp [intOf]; omega
        · rw [if_neg hl]
          have hdd := fu_dead HF3.out
          rw [decide_eq_true hl] at hdd
          have hl2 : ¬ (k : Int) < N := by omega
          have hl3 : (N : Int) ≤ k := by omega
          have hl4 : N ≤ k := by omega
          go_wp2_with fail
          refine (dead_any H3.out).mono ?_
          rw [hdd]
          rintro e w4 ⟨rfl, hq⟩
          obtain rfl := hq.symm
          go_wp2
          go_roundw
          case rel => exact ⟨k + 1, by omega, by omega, by go_num, ⟨_, H3.out, HF3.out⟩, HB3⟩
          case measure => simp [intOf]; omega
      · go_wp2_with fail
        refine (sync_all H.out hfu).mono ?_
        rw [(fu_sync HF.out).1]
        rintro e w3 ⟨rfl, hD, hT⟩
        have H3 := Aside0.mk (hD.bound.mono (fun j hj => (⟨hj.1.1, hj.2⟩ : w.heap.size ≤ j ∧ j < w3.heap.size)))
        have HB3 := Aside0.mk (hT.to_below hB.out (fun j hj => hj.1))
        have HF3 := Aside0.mk (fu_sync HF.out).2
        clear hD hT
        by_cases hl : k < N
        · rw [if_pos hl]
          have hdd := fu_dead HF3.out
          rw [decide_eq_false (by omega)] at hdd
          have hl2 : (k : Int) < N := by omega
          have hl3 : ¬ (N : Int) ≤ k := by omega
          have hl4 : ¬ N ≤ k := by omega
          go_wp2_with fail
          refine (dead_any H3.out).mono ?_
          rw [hdd]
          rintro e w4 ⟨rfl, hq⟩
          obtain rfl := hq.symm
          go_wp2
          go_roundw
          case rel => exact ⟨k + 1, by omega, by omega, by go_num, ⟨_, H3.out, HF3.out⟩, HB3⟩
          case measure => simp [intOf]; omega
        · rw [if_neg hl]
          have hdd := fu_dead HF3.out
          rw [decide_eq_true hl] at hdd
          have hl2 : ¬ (k : Int) < N := by omega
          have hl3 : (N : Int) ≤ k := by omega
          have hl4 : N ≤ k := by omega
          go_wp2_with fail
          refine (dead_any H3.out).mono ?_
          rw [hdd]
          rintro e w4 ⟨rfl, hq⟩
          obtain rfl := hq.symm
          go_wp2
          go_roundw
          case rel => exact ⟨k + 1, by omega, by omega, by go_num, ⟨_, H3.out, HF3.out⟩, HB3⟩
          case measure => simp [intOf]; omega
    · have hc : (k < bs.length ∧ ¬ k < 200) ∨ ¬ k < bs.length := by omega
      clear hlt
      rcases hc with ⟨h1, h2⟩ | h1
      all_goals
        have HD2 := Aside0.mk hD
        have HF2 := Aside0.mk hF
        clear hD hF
        go_wp2_with fail
        refine (restart_in sort_tells HD2.out (fun j hj => hj.2) none 0 [] (fun i x h => by simp at h) (by decide) (fun ad e => by cases e) (by decide)).mono ?_
        rintro e w5 ⟨rfl, hD, hT⟩
        obtain ⟨s5, hs5, hd5, hf5⟩ : ∃ s5, s5 = s.restart [] ∧ s5.dead = false ∧ s5.fuse = -1 := ⟨_, rfl, rfl, rfl⟩
        rw [← hs5] at hD
        have H5 := Aside0.mk hD
        have HB5 := Aside0.mk (hT.to_below hB.out (fun j hj => hj.1))
        clear hD hT hs5
        go_wp2_with fail
        refine (sync_all H5.out (by rw [hf5]; decide)).mono ?_
        rw [(sync_ok hd5 hf5).1]
        rintro e w6 ⟨rfl, hD, hT⟩
        have H6 := Aside0.mk hD
        have HB6 := Aside0.mk (hT.to_below HB5.out (fun j hj => hj.1))
        clear hD hT
        go_wp2_with fail
        refine (dead_any H6.out).mono ?_
        rw [(sync_ok hd5 hf5).2]
        rintro e w7 ⟨rfl, hq⟩
        obtain rfl := hq.symm
        go_wp2_with fail
        refine (wakes_any _).mono ?_
        rintro e w8 ⟨rfl, hb8⟩
        go_wp2
        go_ret
        exact ⟨rfl, HB6.out.trans (hb8.mono HB6.out.size)⟩
end Go.Proofs.Ytojpmihgpjmobaa.X
