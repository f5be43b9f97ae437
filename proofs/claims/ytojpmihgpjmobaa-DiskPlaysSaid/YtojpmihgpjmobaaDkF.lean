/- The disk: Read. -/
import Derived.Test.YtojpmihgpjmobaaDkE
namespace Go.Proofs.Ytojpmihgpjmobaa.X
open Go Go.RowKit Go.Maps Go.Shelf Go.Proofs.Ytojpmihgpjmobaa Go.Proofs.YtojpmihgpjmobaaW.PrintWords Go.Proofs.YtojpmihgpjmobaaW.PrintLast Go.Proofs.YtojpmihgpjmobaaW.PrintMore
set_option linter.unusedVariables false
set_option linter.unusedSimpArgs false

theorem DS.rd_some {s : DS} {k : Nat} {f : Nat → Int} (h : s.wt k = some f) {i : Nat} (hi : i < 64) : s.rd (64 * k + i) = f i := by
  unfold DS.rd
  rw [show (64 * k + i) / 64 = k by omega, h]
  show f ((64 * k + i) % 64) = f i
  rw [show (64 * k + i) % 64 = i by omega]
theorem DS.rd_none {s : DS} {k : Nat} (h : s.wt k = none) {i : Nat} (hi : i < 64) : s.rd (64 * k + i) = s.la (64 * k + i) := by
  unfold DS.rd
  rw [show (64 * k + i) / 64 = k by omega, h]
/-- While Read copies: the sectors before i as they read, the others as they last. -/
def rdTo (s : DS) (k i : Nat) (j : Nat) : Int := if j / 64 < i then s.rd (64 * k + j) else s.la (64 * k + j)
def RdAt (W wr : World) (g k m i : Nat) (s : DS) : Prop := ∃ cur, wr.heap[g]? = some (.cells cur 5 (0, 0)) ∧ 64 * m ≤ cur.size ∧ ∀ j, j < 64 * m → cur[j]? = some (.int .u8 (rdTo s k i j))
theorem rdTo_none {s : DS} {k i : Nat} (h : s.wt (k + i) = none) (j : Nat) : rdTo s k (i + 1) j = rdTo s k i j := by
  unfold rdTo
  by_cases h1 : j / 64 < i
  · rw [if_pos h1, if_pos (by omega)]
  · by_cases h2 : j / 64 < i + 1
    · rw [if_neg h1, if_pos h2, show 64 * k + j = 64 * (k + i) + j % 64 by omega, DS.rd_none h (by omega)]
    · rw [if_neg h1, if_neg h2]
def ReadPost (s : DS) (a c : Int) (W : World) (e : Ending) (w' : World) : Prop :=
  ((s.dead = true ∧ e = .returned (.tuple #[.slice none 0 0, .int .i64 140])) ∨ (s.dead = false ∧ thereB s.n a c = false ∧ e = .returned (.tuple #[.slice none 0 0, .int .i64 1])) ∨
    (s.dead = false ∧ thereB s.n a c = true ∧ ∃ v, e = .returned (.tuple #[v, .int .i64 0]) ∧ Fresh W w' v (64 * c.toNat) (fun i => s.rd (64 * a.toNat + i)))) ∧ Below W.heap.size W w'
set_option maxRecDepth 100000 in
set_option maxHeartbeats 8000000 in
theorem read_in {W : World} {p : Nat} {s : DS} {B : Nat → Prop} (h : DiskAt W p s B) (hd : s.dead = false) (k m : Nat) (hkm : k + m ≤ s.n) (hm : 0 < m) :
    Calls Try.prog 13 #[dptr p, .int .i64 k, .int .i64 m] W fun e w' => (∃ v, e = .returned (.tuple #[v, .int .i64 0]) ∧ Fresh W w' v (64 * m) (fun i => s.rd (64 * k + i))) ∧ Below W.heap.size W w' := by
  obtain ⟨lb, mb, D, wb, hH, hb1⟩ := id h
  have n2 := hH.n2
  have ht : thereB s.n k m = true := by unfold thereB; simp; omega
  have c0 := (blk_cell hH.cell 0).trans rfl
  have c1 := (blk_cell hH.cell 1).trans rfl
  obtain ⟨curl, hl1, hl2, hl3⟩ := hH.last
  have HBy := Aside0.mk (show By W (some ⟨lb, 64 * k, none⟩) (64 * m) (fun i => s.la (64 * k + i)) from .inr ⟨_, rfl, fun i hi => by rw [Addr.add_lit]; exact (blk_cell hl1 _).trans (hl3 _ (by omega))⟩)
  have H := Aside0.mk h
  have HH := Aside0.mk hH
  clear h hH hb1 hl1 hl2 hl3
  have w1 : IntKind.i64.wrap ((k : Int) * 64) = (k : Int) * 64 := by rw [IntKind.wrap_i64]; omega
  have w2 : IntKind.i64.wrap ((k : Int) + (m : Int)) = (k : Int) + (m : Int) := by rw [IntKind.wrap_i64]; omega
  have w3 : IntKind.i64.wrap (((k : Int) + (m : Int)) * 64) = ((k : Int) + (m : Int)) * 64 := by rw [IntKind.wrap_i64]; omega
  have b1 : (0 : Int) ≤ (k : Int) * 64 := by omega
  have b2 : (k : Int) * 64 ≤ ((k : Int) + (m : Int)) * 64 := by omega
  have b3 : ((k : Int) + (m : Int)) * 64 ≤ 64 * (s.n : Int) := by omega
  have t1 : ((k : Int) * 64).toNat = 64 * k := by omega
  have t2 : (((k : Int) + (m : Int)) * 64).toNat = 64 * k + 64 * m := by omega
  have t3 : 64 * k + 64 * m - 64 * k = 64 * m := by omega
  have hne : ¬ 64 * s.n = 64 * k := by omega
  go_enter Try.func13, Try.ntmps13
  go_wp2_with fail
  refine (usable_any H.out).mono ?_
  rw [hd]
  rintro e w1' ⟨rfl, hq⟩
  obtain rfl := hq.symm
  go_wp2_with fail
  refine (there_any H.out k m).mono ?_
  rw [ht]
  rintro e w2' ⟨rfl, hq⟩
  obtain rfl := hq.symm
  go_wp2_with fail
  refine (clone_any (some ⟨lb, 64 * k, none⟩) (64 * m) (64 * s.n - 64 * k) _ _ HBy.out (by omega) (fun h => by cases h)).mono ?_
  rintro e wc ⟨⟨v, rfl, hF⟩, hb⟩
  rcases hF with ⟨h0, _⟩ | ⟨g, G, cur, rfl, hG, hG2, hg, hblk, hsz, hcur⟩
  · omega
  have HB0 := Aside0.mk hb
  have HR0 := Aside0.mk (show RdAt W wc g k m 0 s from ⟨cur, hblk, hsz, fun j hj => by rw [hcur j hj]; unfold rdTo; rw [if_neg (by omega)]⟩)
  clear hb hblk hsz hcur HBy c0 b1 b2 b3 t1 t2 t3 hne w1 w2 w3
  go_wp2
  go_loopw [36] (fun ii wr => ∃ i : Nat, i ≤ m ∧ ii = .int .i64 i ∧ Aside0 (Below W.heap.size W wr) ∧ Aside0 (RdAt W wr g k m i s)) (fun ii _ => m - (intOf ii).toNat)
  case atStart => exact ⟨0, Nat.zero_le _, rfl, HB0, HR0⟩
  case round =>
    obtain ⟨i, hi, rfl, hB, hR⟩ := hrel
    clear HB0 HR0
    by_cases hlt : i < m
    · have w2 : IntKind.i64.wrap ((k : Int) + (i : Int)) = (k : Int) + (i : Int) := by rw [IntKind.wrap_i64]; omega
      have w4 : IntKind.i64.wrap ((i : Int) * 64) = (i : Int) * 64 := by rw [IntKind.wrap_i64]; omega
      have ln := HH.out.lts
      have hHr : Hold wr p lb mb D wb s := HH.out.step (hB.out.block p ln.1) (hB.out.block lb ln.2.1) (hB.out.block mb ln.2.2.1) (fun k hk => hB.out.block _ (ln.2.2.2 k hk))
      have c1 := (blk_cell hHr.cell 1).trans rfl
      rcases look_wt hHr (k + i) (by omega) with ⟨f, c, hw, hc, hby, hrun⟩ | ⟨v, hw, hrun⟩
      · rw [Int.natCast_add] at hrun
        obtain ⟨cur, hblk, hsz, hcur⟩ := hR.out
        obtain ⟨W', cur', hcp, hblk', hsz', hin, hout, hT⟩ := copy_run (g := g) (o := 64 * i) (dLen := 64 * m - 64 * i) (dCap := G - 64 * i) (sLen := 64) (sCap := c) (n := 64) hblk (by simp only [Nat.min_def]; split <;> omega) hby (by omega)
        have b1 : (0 : Int) ≤ (i : Int) * 64 := by omega
        have b2 : (i : Int) * 64 ≤ 64 * (m : Int) := by omega
        have t1 : ((i : Int) * 64).toNat = 64 * i := by omega
        have hne : ¬ G = 64 * i := by omega
        have HB1 := Aside0.mk (hT.to_below hB.out (fun k hk => by rw [hk]; exact hg))
        have HR1 := Aside0.mk (show RdAt W W' g k m (i + 1) s from ⟨cur', hblk', by omega, fun j hj => by
          by_cases hj1 : j < 64 * i
          · rw [hout j (.inl hj1), hcur j hj]
            unfold rdTo
            rw [if_pos (by omega), if_pos (by omega)]
          · by_cases hj2 : j < 64 * i + 64
            · rw [hin j (by omega) hj2]
              unfold rdTo
              rw [if_pos (by omega), show 64 * k + j = 64 * (k + i) + (j - 64 * i) by omega, DS.rd_some hw (by omega)]
            · rw [hout j (.inr (by omega)), hcur j hj]
              unfold rdTo
              rw [if_neg (by omega), if_neg (by omega)]⟩)
        clear hHr ln hB hR hby hblk hblk' hin hout hcur hT hsz hsz'
        go_wp2_with (at_builtin; refine wpList_copy_runI _ rfl _ _ 30 30 rfl _ _ rfl rfl (hcp _) ?_)
        go_roundw
        case rel => exact ⟨i + 1, by omega, by go_num, HB1, HR1⟩
        case measure => simp [intOf]; omega
      · rw [Int.natCast_add] at hrun
        have HR1 := Aside0.mk (show RdAt W wr g k m (i + 1) s by
          obtain ⟨cur, q1, q2, q3⟩ := hR.out
          exact ⟨cur, q1, q2, fun j hj => by rw [q3 j hj, rdTo_none hw]⟩)
        clear hHr ln hR
        go_wp2
        go_roundw
        case rel => exact ⟨i + 1, by omega, by go_num, hB, HR1⟩
        case measure => simp [intOf]; omega
    · obtain rfl : i = m := by omega
      go_wp2
      go_ret2
      obtain ⟨cur, q1, q2, q3⟩ := hR.out
      exact ⟨⟨_, rfl, .inr ⟨g, G, cur, rfl, hG, hG2, hg, q1, q2, fun j hj => by rw [q3 j hj]; unfold rdTo; rw [if_pos (by omega)]⟩⟩, hB.out⟩
end Go.Proofs.Ytojpmihgpjmobaa.X
