/- The law DiskPlays. -/
import Derived.Test.YtojpmihgpjmobaaRdI
import Derived.Test.YtojpmihgpjmobaaDkX
namespace Go.Proofs.Ytojpmihgpjmobaa.X
open Go Go.RowKit Go.Maps Go.Shelf Go.Proofs.Ytojpmihgpjmobaa Go.Proofs.YtojpmihgpjmobaaW.PrintWords Go.Proofs.YtojpmihgpjmobaaW.PrintLast Go.Proofs.YtojpmihgpjmobaaW.PrintMore
set_option linter.unusedVariables false
set_option linter.unusedSimpArgs false

theorem rnew_low (W : World) (m : Int) (h : m < 1) : Calls Try.prog 20 #[.int .i64 m] W fun e w' => e = .returned (.tuple #[.pointer none, .int .i64 1]) ∧ w' = W := by
  go_enter Try.func20, Try.ntmps20
  go_wp2
  go_ret2
  exact ⟨rfl, rfl⟩
theorem rnew_high (W : World) (m : Int) (h : 65536 < m) : Calls Try.prog 20 #[.int .i64 m] W fun e w' => e = .returned (.tuple #[.pointer none, .int .i64 2]) ∧ w' = W := by
  have h1 : ¬ m < 1 := by omega
  go_enter Try.func20, Try.ntmps20
  go_wp2
  go_ret2
  exact ⟨rfl, rfl⟩
theorem new_high {m : Int} {W w' : World} {e : Ending} (h : NewPost m W e w') (h1 : 65536 < m) : e = .returned (.tuple #[.pointer none, .int .i64 2]) ∧ w' = W := by
  rcases h.1 with ⟨h2, _⟩ | ⟨_, h3, h4⟩ | ⟨_, h2, _⟩
  · omega
  · exact ⟨h3, h4⟩
  · omega
theorem act_mem' {xs : List SAct} {k : Nat} (h : k < xs.length) : xs.getD k zAct ∈ xs := by
  rw [List.getD_eq_getElem?_getD, List.getElem?_eq_getElem h]; exact List.getElem_mem h
set_option maxRecDepth 100000 in
set_option maxHeartbeats 8000000 in
theorem diskPlays_any (w : World) (size : Int) (A : Option Addr) (c : Nat) (xs : List SAct) (hr : kAct.C w A xs.length xs) (hm : xs.length ≤ 140737488355328) (hx : ∀ x ∈ xs, GoodAct x) :
    Calls Try.prog 6 #[.int .i64 size, .slice A xs.length c] w fun e w' => e = .returned (.bool true) ∧ Below w.heap.size w w' := by
  have HR := Aside0.mk hr
  have HX := Aside0.mk hx
  clear hr hx
  go_enter Try.func6, Try.ntmps6
  go_wp2_with fail
  refine (great_any w w A c xs HR.out (Below.refl _ _) hm).mono ?_
  rintro e w' ⟨⟨b1, rfl⟩, hq⟩
  obtain rfl := hq.symm
  cases b1
  case true =>
    go_wp2_with fail
    refine (wakes_any _).mono ?_
    rintro e w8 ⟨rfl, hb8⟩
    go_wp2
    go_ret
    exact ⟨rfl, hb8⟩
  go_upto_region 3 with (fail)
  go_cut [19] (fun v wc => v = .bool (decide (300 < size ∧ size ≤ 65536)) ∧ w = wc)
  case first =>
    by_cases h1 : 300 < size
    · by_cases h2 : size ≤ 65536
      · go_wp2
        go_meet
        exact ⟨by simp [h1, h2], rfl⟩
      · go_wp2
        go_meet
        exact ⟨by simp; omega, rfl⟩
    · go_wp2
      go_meet
      exact ⟨by simp; omega, rfl⟩
  case rest =>
  obtain ⟨rfl, hwc⟩ := hcut
  subst hwc
  go_upto_if 19 with (fail)
  go_cut [0] (fun v wc => (∃ m : Int, v = .int .i64 m ∧ (m < 1 ∨ 65536 < m ∨ (1 ≤ m ∧ m ≤ 300))) ∧ w = wc)
  case first =>
    by_cases h1 : 300 < size ∧ size ≤ 65536
    · have hd : decide (300 < size ∧ size ≤ 65536) = true := decide_eq_true h1
      rw [hd]
      clear hd h1
      go_wp2
      go_meet
      exact ⟨⟨300, rfl, .inr (.inr ⟨by decide, by decide⟩)⟩, rfl⟩
    · have hd : decide (300 < size ∧ size ≤ 65536) = false := decide_eq_false h1
      rw [hd]
      have h2 : size < 1 ∨ 65536 < size ∨ (1 ≤ size ∧ size ≤ 300) := by omega
      have H2 := Aside0.mk h2
      clear hd h1 h2
      go_wp2
      go_meet
      exact ⟨⟨size, rfl, H2.out⟩, rfl⟩
  case rest =>
  obtain ⟨⟨m, rfl, hms⟩, hwc⟩ := hcut
  subst hwc
  rcases hms with h1 | h1 | ⟨h1, h2⟩
  · go_wp2_with fail
    refine (new_any m w).mono ?_
    intro e w1 hN
    obtain ⟨rfl, rfl⟩ := new_no hN h1
    go_wp2_with fail
    refine (rnew_low _ m h1).mono ?_
    rintro e w2 ⟨rfl, hq⟩
    obtain rfl := hq.symm
    go_wp2_with fail
    refine (wakes_any _).mono ?_
    rintro e w8 ⟨rfl, hb8⟩
    go_wp2
    go_ret
    exact ⟨rfl, hb8⟩
  · go_wp2_with fail
    refine (new_any m w).mono ?_
    intro e w1 hN
    obtain ⟨rfl, hq⟩ := new_high hN h1
    obtain rfl := hq
    go_wp2_with fail
    refine (rnew_high _ m h1).mono ?_
    rintro e w2 ⟨rfl, hq⟩
    obtain rfl := hq.symm
    go_wp2_with fail
    refine (wakes_any _).mono ?_
    rintro e w8 ⟨rfl, hb8⟩
    go_wp2
    go_ret
    exact ⟨rfl, hb8⟩
  obtain ⟨n, rfl⟩ := Int.eq_ofNat_of_zero_le (show 0 ≤ m by omega)
  go_wp2_with fail
  refine (new_any n w).mono ?_
  intro e w1 hN
  obtain ⟨⟨p, rfl, hD⟩, hb1⟩ := new_ok hN (by omega) (by omega)
  have HD := Aside0.mk hD.bound
  have HB1 := Aside0.mk hb1
  clear hN hD hb1
  go_wp2_with fail
  refine (rnew_in w1 n (by omega) (by omega)).mono ?_
  rintro e w2 ⟨⟨q, rfl, hE⟩, hb2⟩
  have HT := Aside0.mk (show Two w p q (DS.new n) (DS.new n) w2 from ⟨_, _, HD.out.below hb2, hE.bound, fun j hj => ⟨hj.1, Nat.lt_of_lt_of_le hj.2 hb2.size, fun he => by have h1 := hj.2; have h2 : w1.heap.size ≤ j := he.1; omega⟩, fun j hj => ⟨Nat.le_trans HB1.out.size hj.1, hj.2⟩⟩)
  have HB2 := Aside0.mk (HB1.out.trans (hb2.mono HB1.out.size))
  clear hE hb2
  go_wp2
  go_loopw [9] (fun ii wr => ∃ i : Nat, i ≤ xs.length ∧ ii = .int .i64 i ∧ Aside0 (∃ s, Two w p q s s wr ∧ s.n = n ∧ s.fuse ≤ 9223372036854775807) ∧ Aside0 (Below w.heap.size w wr)) (fun ii _ => xs.length - (intOf ii).toNat)
  case atStart => exact ⟨0, Nat.zero_le _, rfl, ⟨_, HT.out, rfl, by show (-1 : Int) ≤ _; decide⟩, HB2⟩
  case round =>
    obtain ⟨i, hi, rfl, hS, hB⟩ := hrel
    obtain ⟨s, hT, hn, hf⟩ := hS.out
    by_cases hlt : i < xs.length
    · obtain ⟨ad, A3, c3, A4, c4, rfl, HA, HAw⟩ := act_at HR.out hB.out i hlt
      have hgood := HX.out _ (act_mem' hlt)
      obtain ⟨x, hxe⟩ : ∃ x, x = xs.getD i zAct := ⟨_, rfl⟩
      rw [← hxe] at HA HAw hgood
      obtain ⟨⟨q0, q1, q2⟩, ⟨q3, q4⟩, q5, z3, z4, z5, z6⟩ := HA
      obtain ⟨_, _, _, y3, y4, y5, y6⟩ := HAw
      have HBO := Aside0.mk (both_any hT hB.out hf x A3 c3 A4 c4 hgood y3 y4 y5 y6)
      clear hxe hT hgood y3 y4 y5 y6 z3 z4 z5 z6
      go_wp2_with fail
      refine HBO.out.mono ?_
      rintro e w3 ⟨rfl, ⟨s', hT', hn', hf'⟩, hb3⟩
      obtain ⟨D, E, hD, hE, hd1, he1⟩ := hT'
      obtain ⟨_, _, hc, _⟩ := hE.cells
      have c1 := (blk_cell hc 1).trans rfl
      have HD := Aside0.mk hD
      have HE := Aside0.mk hE
      have HD1 := Aside0.mk hd1
      have HE1 := Aside0.mk he1
      have HB3 := Aside0.mk hb3
      have HN := Aside0.mk (hn'.trans hn)
      clear hD hE hd1 he1 hb3 hc hn'
      have hnn : s'.n = n := HN.out
      go_upto_region 15 with (fail)
      go_quiet ((first
        | (go_at_call 15; exact Calls.quiet_of_same (dead_any (HD.out.step (fun _ _ _ => rfl))))
        | (go_at_call 22; exact Calls.quiet_of_same (waiting_any (HD.out.step (fun _ _ _ => rfl))))
        | (go_at_call 23; exact Calls.quiet_of_same (rwait_any (HE.out.step (fun _ _ _ => rfl))))
        | (go_at_call 24; exact Calls.quiet_of_same (size_any (HD.out.step (fun _ _ _ => rfl))))))
      all_goals
        go_wp2
        go_roundw
        case rel => exact ⟨i + 1, by omega, by go_num, ⟨_, (show Two w p q s' s' w3 from ⟨_, _, HD.out, HE.out, HD1.out, HE1.out⟩).below ⟨rfl, rfl, rfl, Nat.le_refl _, fun _ _ => rfl⟩, HN.out, hf'⟩, ⟨HB3.out.trans ⟨rfl, rfl, rfl, Nat.le_refl _, fun _ _ => rfl⟩⟩⟩
        case measure => simp [intOf]; omega
    · obtain rfl : i = xs.length := by omega
      obtain ⟨D, E, hD, hE, hd1, he1⟩ := hT
      have HD := Aside0.mk hD
      have HE := Aside0.mk hE
      have HD1 := Aside0.mk hd1
      have HE1 := Aside0.mk he1
      clear hD hE hd1 he1 hlt
      go_wp2_with fail
      refine (restart_in sort_tells HD.out (fun j hj => (HD1.out j hj).2.1) none 0 [] (fun i x h => by simp at h) (by decide) (fun ad e => by cases e) (by intro x hx; cases hx)).mono ?_
      rintro e w4 ⟨rfl, hD4, hT4⟩
      obtain ⟨D4, E4, q1, q2, q3, q4⟩ := two_d HE.out HD1.out HE1.out hB.out.size (hD4.mono (fun _ h => .inl h)) hT4
      have Q1 := Aside0.mk q1
      have Q2 := Aside0.mk q2
      have Q3 := Aside0.mk q3
      have Q4 := Aside0.mk q4
      have HB4 := Aside0.mk (hT4.to_below hB.out (fun k hk => (HD1.out k hk).1))
      clear hD4 hT4 q1 q2 q3 q4
      go_wp2_with fail
      refine (rrestart_in Q2.out (fun k hk => (Q4.out k hk).2) none 0 [] (fun i x h => by simp at h) (by decide) (fun ad e => by cases e) (by intro x hx; cases hx)).mono ?_
      rintro e w5 ⟨rfl, hE5, hT5⟩
      have H5 := Aside0.mk (two_e Q1.out Q3.out Q4.out HB4.out.size hE5 hT5)
      have HB5 := Aside0.mk (hT5.to_below HB4.out (fun k hk => (Q4.out k hk).1))
      clear hE5 hT5
      have hga : GoodAct ⟨2, 0, (n : Int), [], [], 0⟩ := ⟨rfl, rfl, by simp [Lit.wf]; have e : IntKind.i64.min = -9223372036854775808 := rfl; omega, ⟨Nat.zero_le _, Nat.zero_le _, by intro x hx; cases hx⟩, ⟨Nat.zero_le _, Nat.zero_le _, by intro x hx; cases hx⟩, rfl⟩
      have hfin := both_any H5.out HB5.out (by show (-1 : Int) ≤ _; decide) ⟨2, 0, (n : Int), [], [], 0⟩ none 0 none 0 hga (Nat.le_refl _) ⟨rfl, Nat.zero_le _, fun h => absurd h (Nat.lt_irrefl 0)⟩ (Nat.le_refl _) ⟨rfl, Nat.zero_le _, fun h => absurd h (Nat.lt_irrefl 0)⟩
      have HFIN := Aside0.mk hfin
      clear hga hfin
      go_wp2_with fail
      refine HFIN.out.mono ?_
      rintro e w6 ⟨rfl, _, hb6⟩
      have HB6 := Aside0.mk hb6
      clear hb6
      go_wp2_with fail
      refine (wakes_any _).mono ?_
      rintro e w7 ⟨rfl, hb7⟩
      go_wp2
      go_ret
      exact ⟨rfl, HB6.out.trans (hb7.mono HB6.out.size)⟩
end Go.Proofs.Ytojpmihgpjmobaa.X
