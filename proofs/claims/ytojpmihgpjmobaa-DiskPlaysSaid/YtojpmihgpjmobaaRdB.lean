/- Read at any state, of the disk and of the reference's. -/
import Derived.Test.YtojpmihgpjmobaaRdA
namespace Go.Proofs.Ytojpmihgpjmobaa.X
open Go Go.RowKit Go.Maps Go.Shelf Go.Proofs.Ytojpmihgpjmobaa Go.Proofs.YtojpmihgpjmobaaW.PrintWords Go.Proofs.YtojpmihgpjmobaaW.PrintLast Go.Proofs.YtojpmihgpjmobaaW.PrintMore
set_option linter.unusedVariables false
set_option linter.unusedSimpArgs false

set_option maxRecDepth 100000 in
set_option maxHeartbeats 4000000 in
theorem read_zero {W : World} {p : Nat} {s : DS} {B : Nat → Prop} (h : DiskAt W p s B) (hd : s.dead = false) (k : Nat) (hk : k ≤ s.n) (f : Nat → Int) :
    Calls Try.prog 13 #[dptr p, .int .i64 k, .int .i64 0] W fun e w' => (∃ v, e = .returned (.tuple #[v, .int .i64 0]) ∧ Fresh W w' v 0 f) ∧ Below W.heap.size W w' := by
  obtain ⟨lb, mb, hc, n1, n2⟩ := h.cells
  have ht : thereB s.n k 0 = true := by unfold thereB; simp; omega
  have c0 := (blk_cell hc 0).trans rfl
  have H := Aside0.mk h
  clear h hc
  have w1 : IntKind.i64.wrap ((k : Int) * 64) = (k : Int) * 64 := by rw [IntKind.wrap_i64]; omega
  have w2 : IntKind.i64.wrap ((k : Int) + 0) = (k : Int) := by rw [IntKind.wrap_i64]; omega
  have b1 : (0 : Int) ≤ (k : Int) * 64 := by omega
  have b3 : (k : Int) * 64 ≤ 64 * (s.n : Int) := by omega
  have t1 : ((k : Int) * 64).toNat = 64 * k := by omega
  have hz : ∀ (o : Nat) (v : Nat), By W (some ⟨lb, o, none⟩) 0 f := fun _ _ => .inl rfl
  by_cases hkn : 64 * s.n = 64 * k
  · go_enter Try.func13, Try.ntmps13
    go_wp2_with fail
    refine (usable_any H.out).mono ?_
    rw [hd]
    rintro e w1' ⟨rfl, hq⟩
    obtain rfl := hq.symm
    go_wp2_with fail
    refine (there_any H.out k 0).mono ?_
    rw [ht]
    rintro e w2' ⟨rfl, hq⟩
    obtain rfl := hq.symm
    go_wp2_with fail
    refine (clone_any (some ⟨lb, 0, none⟩) 0 _ f _ (hz 0 0) (by omega) (fun h => by cases h)).mono ?_
    rintro e wc ⟨⟨v, rfl, hF⟩, hb⟩
    have HF := Aside0.mk hF
    have HB := Aside0.mk hb
    clear hF hb
    go_wp2
    go_loopw [36] (fun ii wr => ii = .int .i64 0 ∧ wr = wc) (fun _ _ => 0)
    case atStart => exact ⟨rfl, rfl⟩
    case round =>
      obtain ⟨rfl, rfl⟩ := hrel
      go_wp2
      go_ret2
      exact ⟨⟨_, rfl, HF.out⟩, HB.out⟩
  · go_enter Try.func13, Try.ntmps13
    go_wp2_with fail
    refine (usable_any H.out).mono ?_
    rw [hd]
    rintro e w1' ⟨rfl, hq⟩
    obtain rfl := hq.symm
    go_wp2_with fail
    refine (there_any H.out k 0).mono ?_
    rw [ht]
    rintro e w2' ⟨rfl, hq⟩
    obtain rfl := hq.symm
    go_wp2_with fail
    refine (clone_any (some ⟨lb, 64 * k, none⟩) 0 _ f _ (hz _ 0) (by omega) (fun h => by cases h)).mono ?_
    rintro e wc ⟨⟨v, rfl, hF⟩, hb⟩
    have HF := Aside0.mk hF
    have HB := Aside0.mk hb
    clear hF hb
    go_wp2
    go_loopw [36] (fun ii wr => ii = .int .i64 0 ∧ wr = wc) (fun _ _ => 0)
    case atStart => exact ⟨rfl, rfl⟩
    case round =>
      obtain ⟨rfl, rfl⟩ := hrel
      go_wp2
      go_ret2
      exact ⟨⟨_, rfl, HF.out⟩, HB.out⟩
theorem read_all {W : World} {p : Nat} {s : DS} {B : Nat → Prop} (h : DiskAt W p s B) (a c : Int) :
    Calls Try.prog 13 #[dptr p, .int .i64 a, .int .i64 c] W fun e w' => ReadPost s a c W e w' := by
  by_cases hd : s.dead = true
  · have H := Aside0.mk h
    clear h
    go_enter Try.func13, Try.ntmps13
    go_wp2_with fail
    refine (usable_any H.out).mono ?_
    rw [hd]
    rintro e w1' ⟨rfl, hq⟩
    obtain rfl := hq.symm
    go_wp2
    go_ret2
    exact ⟨.inl ⟨hd, rfl⟩, Below.refl _ _⟩
  · have hd' : s.dead = false := by cases hs : s.dead with | true => exact absurd hs hd | false => rfl
    by_cases ht : thereB s.n a c = false
    · have H := Aside0.mk h
      clear h
      go_enter Try.func13, Try.ntmps13
      go_wp2_with fail
      refine (usable_any H.out).mono ?_
      rw [hd']
      rintro e w1' ⟨rfl, hq⟩
      obtain rfl := hq.symm
      go_wp2_with fail
      refine (there_any H.out a c).mono ?_
      rw [ht]
      rintro e w2' ⟨rfl, hq⟩
      obtain rfl := hq.symm
      go_wp2
      go_ret2
      exact ⟨.inr (.inl ⟨hd', ht, rfl⟩), Below.refl _ _⟩
    · have ht' : thereB s.n a c = true := by cases hs : thereB s.n a c with | false => exact absurd hs ht | true => rfl
      have h3 := ht'
      unfold thereB at h3
      simp only [Bool.and_eq_true, decide_eq_true_eq] at h3
      obtain ⟨⟨⟨q1, q2⟩, q3⟩, q4⟩ := h3
      obtain ⟨k, rfl⟩ := Int.eq_ofNat_of_zero_le q1
      obtain ⟨m, rfl⟩ := Int.eq_ofNat_of_zero_le q3
      rcases Nat.eq_zero_or_pos m with h0 | h0
      · subst h0
        refine (read_zero h hd' k (by omega) (fun i => s.rd (64 * k + i))).mono ?_
        rintro e w' ⟨⟨v, rfl, hF⟩, hb⟩
        exact ⟨.inr (.inr ⟨hd', ht', v, rfl, hF⟩), hb⟩
      · refine (read_in h hd' k m (by omega) h0).mono ?_
        rintro e w' ⟨⟨v, rfl, hF⟩, hb⟩
        exact ⟨.inr (.inr ⟨hd', ht', v, rfl, hF⟩), hb⟩
theorem range_snoc {α : Type} (f : Nat → α) (n m : Nat) : (List.range (n + m)).map f = (List.range n).map f ++ (List.range m).map fun i => f (n + i) := by
  rw [List.range_add, List.map_append, List.map_map]; rfl
set_option maxRecDepth 100000 in
set_option maxHeartbeats 4000000 in
theorem rread_all {W : World} {p : Nat} {s : DS} {B : Nat → Prop} (h : RefAt W p s B) (a c : Int) :
    Calls Try.prog 36 #[dptr p, .int .i64 a, .int .i64 c] W fun e w' => ReadPost s a c W e w' := by
  obtain ⟨cb, G, hc, n1, n2, n3, _⟩ := h.cells
  have c1 := (blk_cell hc 1).trans rfl
  have H := Aside0.mk h
  clear h hc
  by_cases hd : s.dead = true
  · rw [hd] at c1
    go_enter Try.func36, Try.ntmps36
    go_wp2
    go_ret2
    exact ⟨.inl ⟨hd, rfl⟩, Below.refl _ _⟩
  · have hd' : s.dead = false := by cases hs : s.dead with | true => exact absurd hs hd | false => rfl
    rw [hd'] at c1
    by_cases ht : thereB s.n a c = false
    · go_enter Try.func36, Try.ntmps36
      go_wp2_with fail
      refine (rthere_any H.out a c).mono ?_
      rw [ht]
      rintro e w2' ⟨rfl, hq⟩
      obtain rfl := hq.symm
      go_wp2
      go_ret2
      exact ⟨.inr (.inl ⟨hd', ht, rfl⟩), Below.refl _ _⟩
    · have ht' : thereB s.n a c = true := by cases hs : thereB s.n a c with | false => exact absurd hs ht | true => rfl
      have h3 := ht'
      unfold thereB at h3
      simp only [Bool.and_eq_true, decide_eq_true_eq] at h3
      obtain ⟨⟨⟨q1, q2⟩, q3⟩, q4⟩ := h3
      obtain ⟨k, rfl⟩ := Int.eq_ofNat_of_zero_le q1
      obtain ⟨m, rfl⟩ := Int.eq_ofNat_of_zero_le q3
      have hkm : k + m ≤ s.n := by omega
      have HT := Aside0.mk ht'
      have w1 : IntKind.i64.wrap ((k : Int) + (m : Int)) = (k : Int) + (m : Int) := by rw [IntKind.wrap_i64]; omega
      clear ht ht' q1 q2 q3 q4
      go_enter Try.func36, Try.ntmps36
      go_wp2_with fail
      refine (rthere_any H.out k m).mono ?_
      rw [HT.out]
      rintro e w2' ⟨rfl, hq⟩
      obtain rfl := hq.symm
      go_wp2
      go_loopw [8, 9] (fun v ii wr => ∃ i : Nat, i ≤ m ∧ ii = .int .i64 ((k + i : Nat) : Int) ∧ Aside0 (Below W.heap.size W wr) ∧ Aside0 ((Kd.int .u8).R 5 wr W.heap.size (fun k => W.heap.size ≤ k) v ([] ++ (List.range (64 * i)).map fun j => s.rd (64 * k + j)))) (fun _ ii _ => k + m - (intOf ii).toNat)
      case atStart => exact ⟨0, Nat.zero_le _, by rw [Nat.add_zero], ⟨Below.refl _ _⟩, ⟨by
        refine ⟨fun k hk => by simp [Value.ownBlock] at hk, [], own_nil _ _ _ _, Reps.none _ _⟩⟩⟩
      case round =>
        obtain ⟨i, hi, rfl, hB, hR⟩ := hrel
        by_cases hlt : i < m
        · have e1 : ((k + i : Nat) : Int) < (k : Int) + (m : Int) := by omega
          have e2 : IntKind.i64.wrap (((k + i : Nat) : Int) + 1) = ((k + (i + 1) : Nat) : Int) := by rw [IntKind.wrap_i64]; omega
          obtain ⟨ki, hki⟩ : ∃ ki, ki = k + i := ⟨_, rfl⟩
          have hkin : ki < s.n := by omega
          rw [← hki] at e1 e2 ⊢
          have HKI := Lib.hid hki
          have hR2 := hR.out
          clear hki
          go_wp2_with fail
          refine (reads_any (H.out.below hB.out) ki hkin).mono ?_
          rintro e w3 ⟨⟨v3, rfl, hRow⟩, hq⟩
          obtain rfl := hq.symm
          obtain ⟨g, G', cur, rfl, hG1, hG2, _, hblk, hcur⟩ := hRow
          have HC := Aside0.mk (By.reads (show By wr (some ⟨g, 0, none⟩) 64 (fun i => s.rd (64 * ki + i)) from .inr ⟨_, rfl, fun j hj => by rw [Addr.add_lit]; exact (blk_cell hblk _).trans (by rw [Nat.zero_add]; exact hcur j hj)⟩) (by decide))
          clear hblk hcur
          obtain ⟨zs, hzs⟩ : ∃ zs, zs = (List.range 64).map fun i => s.rd (64 * ki + i) := ⟨_, rfl⟩
          have hzl : zs.length = 64 := by rw [hzs, List.length_map, List.length_range]
          rw [← hzs] at HC
          have HZS := Lib.hid hzs
          have hl64 : ([] ++ (List.range (64 * i)).map fun j => s.rd (64 * k + j)).length + 64 ≤ 140737488355328 := by rw [List.nil_append, List.length_map, List.length_range]; omega
          clear hzs hzl
          go_wp2_with (refine Kd.R_append_rows (Kd.int .u8) (w0 := W) W.heap.size rfl (.tmp 29) (.tmp 32) 30 5 (.int .u8 0) 1 rfl Try.underlying30 (by kernel_rfl) rfl (by decide) (by decide) _ _ zs (some ⟨g, 0, none⟩) 64 G' (fun k => W.heap.size ≤ k) (fun _ => False) rfl rfl hR2 HC.out (fun _ _ h => h) (fun _ h => h.elim) (fun k h => Nat.le_trans hB.out.size h) hB.out hB.out.size (by rw [Nat.mul_one]; exact hl64) ?_)
          intro v1 w1 hR3 hB3 hg3 hat3
          have HR3 := Aside0.mk (show (Kd.int .u8).R 5 w1 W.heap.size (fun k => W.heap.size ≤ k) v1 ([] ++ (List.range (64 * (i + 1))).map fun j => s.rd (64 * k + j)) by
            have e := range_snoc (fun j => s.rd (64 * k + j)) (64 * i) 64
            rw [show 64 * (i + 1) = 64 * i + 64 by omega, e]
            rw [HZS.out, HKI.out] at hR3
            rw [List.nil_append]
            have e2 : (fun x => s.rd (64 * (k + i) + x)) = fun x => s.rd (64 * k + (64 * i + x)) := funext fun x => by rw [show 64 * (k + i) + x = 64 * k + (64 * i + x) by omega]
            rw [e2] at hR3
            simpa only [List.nil_append] using hR3)
          have HB3 := Aside0.mk hB3
          clear hR3 hB3 hg3 hat3 hR2
          go_wp2
          go_roundw
          case rel => exact ⟨i + 1, by omega, rfl, HB3, HR3⟩
          case measure => have h9 := HKI.out; simp [intOf]; omega
        · obtain rfl : i = m := by omega
          have HF := Aside0.mk (fresh_of hR.out)
          have e1 : ¬ ((k + i : Nat) : Int) < (k : Int) + (i : Int) := by omega
          go_wp2
          go_ret2
          exact ⟨.inr (.inr ⟨hd', HT.out, _, rfl, HF.out⟩), hB.out⟩
end Go.Proofs.Ytojpmihgpjmobaa.X
