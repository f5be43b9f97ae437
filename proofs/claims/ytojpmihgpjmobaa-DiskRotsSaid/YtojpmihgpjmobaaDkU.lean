/- The law DiskRots. -/
import Derived.Test.YtojpmihgpjmobaaDkT
namespace Go.Proofs.Ytojpmihgpjmobaa.X
open Go Go.RowKit Go.Maps Go.Shelf Go.Proofs.Ytojpmihgpjmobaa Go.Proofs.YtojpmihgpjmobaaW.PrintWords Go.Proofs.YtojpmihgpjmobaaW.PrintLast Go.Proofs.YtojpmihgpjmobaaW.PrintMore
set_option linter.unusedVariables false
set_option linter.unusedSimpArgs false

def filled (bs : List Int) (k i : Nat) : Int := if i < k then bs.getD i 0 else 0
theorem filled_wf {bs : List Int} (h : ∀ x ∈ bs, (Lit.int .u8 x).wf = true) (k i : Nat) : (Lit.int .u8 (filled bs k i)).wf = true := by
  unfold filled
  by_cases hi : i < k
  · rw [if_pos hi]
    by_cases hl : i < bs.length
    · rw [List.getD_eq_getElem?_getD, List.getElem?_eq_getElem hl]
      exact h _ (List.getElem_mem hl)
    · rw [List.getD_eq_getElem?_getD, List.getElem?_eq_none (by omega)]
      decide
  · rw [if_neg hi]
    decide
theorem putL_rd {m : Nat} {F : Nat → Int} {s : DS} (hm : m = s.n) (j : Nat) (hj : j < 64 * s.n) : (s.putL 0 ((List.finRange m).map fun x i => F (64 * x.val + i))).rd j = F j := by
  unfold DS.rd DS.putL
  have h1 : j / 64 < m := by omega
  have h2 : 0 ≤ j / 64 ∧ j / 64 < 0 + ((List.finRange m).map fun x i => F (64 * x.val + i)).length := by simp; exact h1
  simp only [if_pos h2]
  rw [Nat.sub_zero, List.getElem?_map, List.getElem?_eq_getElem (by simp; exact h1)]
  simp
  congr 1
  omega
theorem new5 : (DS.new 5).burnt.n = 5 ∧ (DS.new 5).burnt.dead = false ∧ (DS.new 5).burnt.fuse = -1 := by decide +kernel
theorem rotF_at {n : Nat} {a q b : Int} {F : Nat → Int} {j : Nat} (h : Inside n a q) (hj : (j : Int) = 64 * a + q) : rotF n a q b F j = bits .xor .u8 (F j) b := by unfold rotF; rw [if_pos ⟨h, hj⟩]
theorem rotF_off {n : Nat} {a q b : Int} {F : Nat → Int} {j : Nat} (hj : ¬ (Inside n a q ∧ (j : Int) = 64 * a + q)) : rotF n a q b F j = F j := by unfold rotF; rw [if_neg hj]
theorem rotF_congr {n : Nat} {a q b : Int} {F G : Nat → Int} {m : Nat} (h : ∀ j, j < m → F j = G j) (j : Nat) (hj : j < m) : rotF n a q b F j = rotF n a q b G j := by unfold rotF; rw [h j hj]
set_option maxRecDepth 100000 in
set_option maxHeartbeats 8000000 in
theorem diskRots_any (w : World) (A : Option Addr) (c : Nat) (bs : List Int) (a q b : Int) (sy : Bool) (hr : (Kd.int .u8).C w A bs.length bs) (hm : bs.length ≤ 140737488355328) (hwf : ∀ x ∈ bs, (Lit.int .u8 x).wf = true) (hb : (Lit.int .u8 b).wf = true) :
    Calls Try.prog 5 #[.slice A bs.length c, .int .i64 a, .int .i64 q, .int .u8 b, .bool sy] w fun e w' => e = .returned (.bool true) ∧ Below w.heap.size w w' := by
  have HY := Aside0.mk (By.of_reads hr)
  have HWF := Aside0.mk hwf
  have HBW := Aside0.mk hb
  clear hr hwf hb
  go_enter Try.func5, Try.ntmps5
  go_wp2_with fail
  refine (new_any 5 w).mono ?_
  intro e w1 hN
  obtain ⟨⟨p, rfl, hD⟩, hb1⟩ := new_ok hN (by decide) (by decide)
  have HD := Aside0.mk hD.bound
  have HB1 := Aside0.mk hb1
  clear hN hD hb1
  have hmk : ∀ W : World, (Instr.makeSlice 30 (.int .i64 320) (.int .i64 320)).run Try.prog W = .ok (.slice (some ⟨W.heap.size, 0, none⟩) 320 320) (W.alloc (.cells (madeCells #[.int .u8 0] 320) 5)) := fun W => make_run W 320 (by decide)
  have HR0 := Aside0.mk (row_made w1 320)
  have HX0 := Aside0.mk ((Below.refl _ w1).alloc (Nat.le_refl _) (.cells (madeCells #[.int .u8 0] 320) 5))
  go_wp2
  go_loopw [14] (fun i wr => ∃ k : Nat, k ≤ bs.length ∧ k ≤ 320 ∧ i = .int .i64 k ∧ Aside0 (Row wr w1.heap.size 320 (filled bs k)) ∧ Aside0 (Below w1.heap.size w1 wr)) (fun i _ => 320 - (intOf i).toNat)
  case atStart =>
    refine ⟨0, Nat.zero_le _, by decide, rfl, ⟨?_⟩, HX0⟩
    obtain ⟨cur, h1, h2, h3⟩ := HR0.out
    exact ⟨cur, h1, h2, fun i hi => (h3 i hi).trans (by unfold filled; rw [if_neg (by omega)])⟩
  case round =>
    obtain ⟨k, hk1, hk2, rfl, hR, hX⟩ := hrel
    by_cases hlt : k < bs.length ∧ k < 320
    · obtain ⟨h1, h2⟩ := hlt
      rcases HY.out with h0 | ⟨ad, rfl, hcell⟩
      · omega
      have hk : w.cell? (ad.add k) = some (.int .u8 (bs.getD k 0)) := hcell k h1
      obtain ⟨v, hv⟩ : ∃ v, v = bs.getD k 0 := ⟨_, rfl⟩
      rw [← hv] at hk
      have hlk := World.block_lt_of_cell? w _ hk
      have hk' := (hX.out.cell (Nat.lt_of_lt_of_le hlk HB1.out.size)).trans ((HB1.out.cell hlk).trans hk)
      have hfz := row_frozen hR.out k
      have hR2 := hR.out.put h2 v
      have hX2 := hX.out.setCell (p := ⟨w1.heap.size, k, none⟩) (Nat.le_refl _) (.int .u8 v)
      have hck := hR.out.cell h2
      have HR2 := Aside0.mk hR2
      have HX2 := Aside0.mk hX2
      have HV := Lib.hid hv
      clear hR2 hX2 hk hcell hv
      go_wp2
      go_roundw
      case rel =>
        refine ⟨k + 1, by omega, by omega, by go_num, ⟨?_⟩, HX2⟩
        obtain ⟨cur, q1, q2, q3⟩ := HR2.out
        exact ⟨cur, q1, q2, fun i hi => (q3 i hi).trans (by
          unfold filled
          by_cases e : i = k
          · simp only [if_pos e]
            rw [if_pos (by omega), e, HV.out]
          · simp only [if_neg e]
            by_cases e2 : i < k
            · rw [if_pos e2, if_pos (by omega)]
            · rw [if_neg e2, if_neg (by omega)])⟩
      case measure => simp [intOf]; omega
    · have hF := Aside0.mk (filled_wf HWF.out k)
      obtain ⟨F, hFe⟩ : ∃ F, F = filled bs k := ⟨_, rfl⟩
      rw [← hFe] at hF hR
      clear hFe
      have HD2 := Aside0.mk (show DiskAt wr p (DS.new 5) (fun j => w.heap.size ≤ j ∧ j < w1.heap.size) from HD.out.below hX.out)
      have hp1 := Aside0.mk (show ∀ j, (w.heap.size ≤ j ∧ j < w1.heap.size) → j < wr.heap.size from fun j hj => Nat.lt_of_lt_of_le hj.2 hX.out.size)
      have hglt := hR.out.lt
      have HBr := Aside0.mk (HB1.out.trans (hX.out.mono HB1.out.size))
      have hc : (k < bs.length ∧ ¬ k < 320) ∨ ¬ k < bs.length := by omega
      clear hlt
      rcases hc with ⟨h1, h2⟩ | h1
      all_goals cases sy
      all_goals
        go_wp2_with fail
        refine (write_in HD2.out hp1.out (by decide) (by decide) (by decide) 0 5 320 (some ⟨w1.heap.size, 0, none⟩) ⟨w1.heap.size, 0, none⟩ F (by decide) (fun _ => rfl) (fun _ h => Nat.lt_irrefl _ h.2) hR.out.by_ (by decide) (by decide)).mono ?_
        rintro e w3 ⟨rfl, hD, hT⟩
        obtain ⟨s1, hs1, hn1, hd1, hf1, hr1⟩ : ∃ s1 : DS, s1 = (DS.new 5).burnt.putL 0 ((List.finRange 5).map fun x i => F (64 * x.val + i)) ∧ s1.n = 5 ∧ s1.dead = false ∧ s1.fuse = -1 ∧ ∀ j, j < 320 → s1.rd j = F j := ⟨_, rfl, new5.1, new5.2.1, new5.2.2, fun j hj => putL_rd (s := (DS.new 5).burnt) new5.1.symm j (by rw [new5.1]; omega)⟩
        rw [← hs1] at hD
        clear hs1
        obtain ⟨B, HB, HBp⟩ : ∃ B : Nat → Prop, (∀ j, (New wr (fun j => w.heap.size ≤ j ∧ j < w1.heap.size) j ∧ j < w3.heap.size) → B j) ∧ Aside0 (∀ j, B j → w.heap.size ≤ j ∧ j ≠ w1.heap.size) := ⟨_, fun j h => h, ⟨fun j hj => by
          have := HB1.out.size
          have := HBr.out.size
          rcases hj.1 with h | h
          · exact ⟨h.1, by have := h.2; omega⟩
          · exact ⟨by omega, by omega⟩⟩⟩
        have HD3 := Aside0.mk (hD.bound.mono HB)
        have HR3 := Aside0.mk (hR.out.step (hT.block _ hglt (fun h => Nat.lt_irrefl _ h.2)))
        have HB3 := Aside0.mk (hT.to_below HBr.out (fun j hj => hj.1))
        have HF1 := Aside0.mk hr1
        clear hD hT hr1 HB
        clear hR hX HD2 hp1
        go_wp2_with fail
      all_goals
        first
        | refine (sync_in HD3.out hd1 (by rw [hf1]; decide) (by rw [hf1]; decide)).mono ?_
          rintro e w4 ⟨rfl, hD, hT⟩
          have hbu : s1.burnt = s1 := by unfold DS.burnt; rw [if_neg (by rw [hf1]; decide), if_neg (by rw [hf1]; decide)]
          rw [hbu] at hD
          have hr2 : ∀ j, j < 320 → s1.sync.rd j = F j := HF1.out
          obtain ⟨s1, hs1, hn1, hd1, hf1⟩ : ∃ s2 : DS, s2 = s1.sync ∧ s2.n = 5 ∧ s2.dead = false ∧ s2.fuse = -1 := ⟨_, rfl, hn1, hd1, hf1⟩
          rw [← hs1] at hD hr2
          clear hs1
          have HD3 := Aside0.mk hD
          have HR3 := Aside0.mk (HR3.out.step (hT.block _ HR3.out.lt (fun h => (HBp.out _ h).2 rfl)))
          have HB3 := Aside0.mk (hT.to_below HB3.out (fun j hj => (HBp.out j hj).1))
          have HF1 := Aside0.mk hr2
          clear hD hT hr2
          go_wp2_with fail
        | skip
      all_goals
        refine (rot_all HD3.out a q b).mono ?_
        rw [hn1]
        generalize her : (if Inside 5 a q then (0 : Int) else 1) = er
        rintro e w5 ⟨rfl, ⟨s3, hD, hn3, hd3, hf3, hr3⟩, hT⟩
        rw [hd1] at hd3
        rw [hf1] at hf3
        have HD5 := Aside0.mk hD
        have HR5 := Aside0.mk (HR3.out.step (hT.block _ HR3.out.lt (fun h => (HBp.out _ h).2 rfl)))
        have HB5 := Aside0.mk (hT.to_below HB3.out (fun j hj => (HBp.out j hj).1))
        clear hD hT
        go_wp2_with fail
        refine (read_in HD5.out hd3 0 5 (by rw [hn3]; decide) (by decide)).mono ?_
        rintro e w6 ⟨⟨v6, rfl, hF⟩, hb6⟩
        obtain ⟨g1, G1, rfl, hG1, hg1, hg1l, hc1⟩ := Row.of_fresh hF (by decide)
        have hx : ∀ i, i < 320 → w6.cell? ⟨g1, i, none⟩ = some (.int .u8 (rotF 5 a q b F i)) := fun i hi => by
          rw [hc1 i hi, show 64 * 0 + i = i by omega, hr3]
          show some (Value.int IntKind.u8 (rotF 5 a q b s1.rd i)) = _
          rw [rotF_congr HF1.out i hi]
        have HX6 := Aside0.mk hx
        have HD6 := Aside0.mk (HD5.out.below hb6)
        have HR6 := Aside0.mk (HR5.out.step (hb6.block _ HR5.out.lt))
        have HB6 := Aside0.mk (HB5.out.trans (hb6.mono HB5.out.size))
        clear hF hb6 hx hc1
      all_goals
        have hcs : (0 ≤ a ∧ a < 5 ∧ 0 ≤ q ∧ q < 64) ∨ a < 0 ∨ (0 ≤ a ∧ 5 ≤ a) ∨ (0 ≤ a ∧ a < 5 ∧ q < 0) ∨ (0 ≤ a ∧ a < 5 ∧ 0 ≤ q ∧ 64 ≤ q) := by omega
        rcases hcs with ⟨h1, h2, h3, h4⟩ | h1 | ⟨h1, h2⟩ | ⟨h1, h2, h3⟩ | ⟨h1, h2, h3, h4⟩
      all_goals
        first
        | (have hI : Inside 5 a q := ⟨h1, h2, h3, h4⟩
           have n1 : IntKind.i64.wrap (a * 64) = a * 64 := by rw [IntKind.wrap_i64]; omega
           have n2 : IntKind.i64.wrap (a * 64 + q) = a * 64 + q := by rw [IntKind.wrap_i64]; omega
           rw [if_pos hI] at her
           subst her)
        | (have hI : ¬ Inside 5 a q := by unfold Inside; omega
           rw [if_neg hI] at her
           subst her
           first | have n1 : ¬ 0 ≤ a := by omega | have n1 : ¬ a < 5 := by omega | have n1 : ¬ 0 ≤ q := by omega | have n1 : ¬ q < 64 := by omega
           have n2 : True := trivial)
      all_goals
        go_wp2
        go_loopw [19] (fun i wq => ∃ m : Nat, m ≤ 320 ∧ i = .int .i64 m ∧ Aside0 (wq = w6)) (fun i _ => 320 - (intOf i).toNat)
        case atStart => exact ⟨0, by decide, rfl, ⟨rfl⟩⟩
        case round =>
          obtain ⟨m, hm1, rfl, hq⟩ := hrel
          obtain rfl := hq.out
          clear hq
          by_cases hlt : m < 320
          · have cf := HR6.out.cell hlt
            have cx := HX6.out m hlt
            have hz : (Inside 5 a q ∧ (m : Int) = a * 64 + q) ∨ ¬ (Inside 5 a q ∧ (m : Int) = a * 64 + q) := Decidable.em _
            rcases hz with hz | hz
            · first
              | exact absurd hz.1 hI
              | (rw [rotF_at hz.1 (by omega)] at cx
                 have hz2 := hz.2.symm
                 rw [hz2] at n2
                 clear hz hI
                 go_wp2
                 go_roundw
                 case rel => exact ⟨m + 1, by omega, by go_num, ⟨trivial⟩⟩
                 case measure => simp [intOf]; omega)
            · rw [rotF_off (fun h => hz ⟨h.1, by omega⟩)] at cx
              first
              | (have hz2 : ¬ (m : Int) = a * 64 + q := fun h => hz ⟨hI, h⟩
                 clear hz hI
                 go_wp2
                 go_roundw
                 case rel => exact ⟨m + 1, by omega, by go_num, ⟨trivial⟩⟩
                 case measure => simp [intOf]; omega)
              | (clear hz hI
                 go_wp2
                 go_roundw
                 case rel => exact ⟨m + 1, by omega, by go_num, ⟨trivial⟩⟩
                 case measure => simp [intOf]; omega)
          · obtain rfl : m = 320 := by omega
            clear hlt
            go_wp2_with fail
            refine (rot_all HD6.out a q b).mono ?_
            rw [hn3, hr3]
            generalize her2 : (if Inside 5 a q then (0 : Int) else 1) = er2
            rintro e w7 ⟨rfl, ⟨s4, hD, hn4, hd4, hf4, hr4⟩, hT⟩
            rw [hd3] at hd4
            have HD7 := Aside0.mk hD
            have HR7 := Aside0.mk (HR6.out.step (hT.block _ HR6.out.lt (fun h => (HBp.out _ h).2 rfl)))
            have HB7 := Aside0.mk (hT.to_below HB6.out (fun j hj => (HBp.out j hj).1))
            clear hD hT
            go_wp2_with fail
            refine (read_in HD7.out hd4 0 5 (by rw [hn4]; decide) (by decide)).mono ?_
            rintro e w8 ⟨⟨v8, rfl, hF8⟩, hb8⟩
            obtain ⟨g2, G2, rfl, hG2, hg2, hg2l, hc2⟩ := Row.of_fresh hF8 (by decide)
            have hy : ∀ i, i < 320 → w8.cell? ⟨g2, i, none⟩ = some (.int .u8 (F i)) := fun i hi => by
              rw [hc2 i hi, show 64 * 0 + i = i by omega, hr4]
              show some (Value.int IntKind.u8 (rotF 5 a q b (rotF 5 a q b s1.rd) i)) = _
              rw [rotF_congr (rotF_congr HF1.out) i hi, rotF_twice hF.out HBW.out]
            have HR8 := HR7.out.step (hb8.block _ HR7.out.lt)
            obtain ⟨S, hS⟩ : ∃ S, S = strOfNums ((List.range 320).map F) := ⟨_, rfl⟩
            have hs1 := row_str (G := G2) hy
            have hs2 := row_str (G := 320) (fun i hi => HR8.cell hi)
            rw [← hS] at hs1 hs2
            have HB8 := Aside0.mk (HB7.out.trans (hb8.mono HB7.out.size))
            clear hF8 hb8 hy hc2 HR8 hS
            go_wp2_with fail
            refine (wakes_any _).mono ?_
            rintro e w9 ⟨rfl, hb9⟩
            go_wp2
            go_ret
            exact ⟨rfl, HB8.out.trans (hb9.mono HB8.out.size)⟩
end Go.Proofs.Ytojpmihgpjmobaa.X
