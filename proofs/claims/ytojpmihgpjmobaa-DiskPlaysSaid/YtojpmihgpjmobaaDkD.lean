/- The disk: New, Rot. -/
import Derived.Test.YtojpmihgpjmobaaDkC
import Derived.Laws.MakeOwn
import Derived.Carry
namespace Go.Proofs.Ytojpmihgpjmobaa.X
open Go Go.RowKit Go.Maps Go.Proofs.Ytojpmihgpjmobaa Go.Proofs.YtojpmihgpjmobaaW.PrintWords Go.Proofs.YtojpmihgpjmobaaW.PrintLast Go.Proofs.YtojpmihgpjmobaaW.PrintMore
set_option linter.unusedVariables false
set_option linter.unusedSimpArgs false

def DS.new (n : Nat) : DS := ⟨n, fun _ => 0, fun _ => none, false, -1⟩
theorem cnt_none (n : Nat) : (DS.new n).cnt = 0 := by
  unfold DS.cnt DS.new
  simp
theorem made_get (k i : Nat) (h : i < k) : (madeCells #[.int .u8 0] k)[i]? = some (.int .u8 0) := by
  simp [madeCells, Value.cells, h, Nat.mod_one]
theorem info_u8 : ∃ i0, Try.prog.info? 5 = some i0 ∧ i0.zero = some (.int .u8 0) ∧ i0.size = 1 ∧ i0.bytes = 1 := by
  have h : (Try.prog.info? 5).map (fun i => (i.zero, i.size, i.bytes)) = some (some (.int .u8 0), 1, 1) := by kernel_rfl
  obtain ⟨i0, hi, hz⟩ := Option.map_eq_some_iff.1 h
  simp only [Prod.mk.injEq] at hz
  exact ⟨i0, hi, hz.1, hz.2.1, hz.2.2⟩
/-- What New tells. -/
def NewPost (m : Int) (W : World) (e : Ending) (w' : World) : Prop :=
    ((m < 1 ∧ e = .returned (.tuple #[.pointer none, .int .i64 1]) ∧ w' = W) ∨ (65536 < m ∧ e = .returned (.tuple #[.pointer none, .int .i64 2]) ∧ w' = W) ∨
      (1 ≤ m ∧ m ≤ 65536 ∧ ∃ p, e = .returned (.tuple #[dptr p, .int .i64 0]) ∧ DiskAt w' p (DS.new m.toNat) (fun k => W.heap.size ≤ k))) ∧ Below W.heap.size W w'
theorem new_any (m : Int) (W : World) : Calls Try.prog 10 #[.int .i64 m] W fun e w' => NewPost m W e w' := by
  by_cases h1 : m < 1
  · go_enter Try.func10, Try.ntmps10
    go_wp2
    go_ret2
    exact ⟨.inl ⟨h1, rfl, rfl⟩, Below.refl _ _⟩
  · by_cases h2 : 65536 < m
    · go_enter Try.func10, Try.ntmps10
      go_wp2
      go_ret2
      exact ⟨.inr (.inl ⟨h2, rfl, rfl⟩), Below.refl _ _⟩
    · obtain ⟨n, rfl⟩ := Int.eq_ofNat_of_zero_le (show 0 ≤ m by omega)
      have n1 : 1 ≤ n := by omega
      have n2 : n ≤ 65536 := by omega
      have hw : IntKind.i64.wrap ((n : Int) * 64) = (n : Int) * 64 := by rw [IntKind.wrap_i64]; omega
      obtain ⟨i0, hi0, hz0, hzs, hzb⟩ := info_u8
      have hmk : ∀ w : World, (Instr.makeSlice 30 (.int .i64 ((n : Int) * 64)) (.int .i64 ((n : Int) * 64))).run Try.prog w = .ok (.slice (some ⟨w.heap.size, 0, none⟩) (64 * n) (64 * n)) (w.alloc (.cells (madeCells #[.int .u8 0] (64 * n)) 5)) := fun w => by
        have := run_make (P := Try.prog) w 30 5 i0 (.int .u8 0) Try.underlying30 hi0 hz0 .i64 .i64 ((n : Int) * 64) ((n : Int) * 64) (by omega) (by omega) (by rw [hzb]; omega) (by omega)
        rw [hzs, show ((n : Int) * 64).toNat = 64 * n by omega, Nat.mul_one] at this
        exact this
      obtain ⟨W1, hW1⟩ : ∃ W1, W1 = ((W.alloc (.cells (madeCells #[.int .u8 0] (64 * n)) 5)).alloc (.map #[] 0)).alloc (.cells #[.slice (some ⟨W.heap.size, 0, none⟩) (64 * n) (64 * n), .map (some (W.heap.size + 1)), .bool false, .int .i64 (-1)] 57) := ⟨_, rfl⟩
      have hB : Below W.heap.size W W1 := by
        rw [hW1]
        exact (((Below.refl _ _).alloc (Nat.le_refl _) _).alloc (by simp) _).alloc (by simp; omega) _
      have hD : DiskAt W1 (W.heap.size + 2) (DS.new n) (fun k => W.heap.size ≤ k) := by
        refine ⟨W.heap.size, W.heap.size + 1, .map [], fun _ => 0, ?_, by simp, by simp, by simp, fun k hk => by cases hk⟩
        have q0 : W1.heap[W.heap.size]? = some (.cells (madeCells #[.int .u8 0] (64 * n)) 5 (0, 0)) := by
          rw [hW1]
          exact blk_alloc (blk_alloc (blk_new W _) _) _
        have q1 : W1.ownsMap Try.prog 3 slR (W.heap.size + 1) 0 (.map []) := by
          have := World.ownsMap_made (W.alloc (.cells (madeCells #[.int .u8 0] (64 * n)) 5)) Try.prog 3 slR
          rw [World.size_alloc] at this
          rw [hW1]
          exact this.alloc _
        have q2 : W1.heap[W.heap.size + 2]? = some (.cells #[.slice (some ⟨W.heap.size, 0, none⟩) (64 * n) (64 * n), .map (some (W.heap.size + 1)), .bool false, .int .i64 (-1)] 57 (0, 0)) := by
          have := blk_new ((W.alloc (.cells (madeCells #[.int .u8 0] (64 * n)) 5)).alloc (.map #[] 0)) (.cells #[.slice (some ⟨W.heap.size, 0, none⟩) (64 * n) (64 * n), .map (some (W.heap.size + 1)), .bool false, .int .i64 (-1)] 57)
          rw [World.size_alloc, World.size_alloc] at this
          rw [hW1]
          exact this
        exact { cell := q2, last := ⟨_, q0, by simp [madeCells, Value.cells, DS.new], fun i hi => made_get _ _ hi⟩, map := q1,
                has := fun kl => ⟨fun h => (by cases h), fun h => by obtain ⟨k, hk, _⟩ := h; cases hk⟩, val := fun k f h => (by cases h), apart := fun k h => (by cases h), inj := fun k k' h => (by cases h),
                lim := fun k h => (by cases h), size := (by rw [cnt_none]; rfl), n1 := n1, n2 := n2 }
      have HD := Aside0.mk hD
      have HB := Aside0.mk hB
      rw [hW1] at HD HB
      clear hD hB hW1
      have hmm := @run_makeMap Try.prog
      go_enter Try.func10, Try.ntmps10
      go_wp2
      go_ret2
      exact ⟨.inr (.inr ⟨by omega, by omega, _, rfl, HD.out⟩), HB.out⟩
end Go.Proofs.Ytojpmihgpjmobaa.X
