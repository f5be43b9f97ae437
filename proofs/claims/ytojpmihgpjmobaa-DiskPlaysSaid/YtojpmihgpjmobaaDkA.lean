/- The disk: what it holds, how it lies in memory; the methods that only look. -/
import Derived.Test.YtojpmihgpjmobaaProg
import Derived.Test.YtojpmihgpjmobaaWMore
import Derived.Maps.OwnSet
import Derived.Maps.RangeWalk
import Derived.Maps.Ext
import Derived.WalkKit
import Derived.ProofKit
import Derived.Lib.Hide
import Derived.IntWalk
namespace Go.Proofs.Ytojpmihgpjmobaa.X
open Go Go.RowKit Go.Maps Go.Proofs.Ytojpmihgpjmobaa Go.Proofs.YtojpmihgpjmobaaW.PrintWords Go.Proofs.YtojpmihgpjmobaaW.PrintLast Go.Proofs.YtojpmihgpjmobaaW.PrintMore
set_option linter.unusedVariables false
set_option linter.unusedSimpArgs false

/-- What a disk holds: n sectors; the byte at each place that lasts; the bytes that wait, sector by sector. -/
structure DS where
  n : Nat
  la : Nat → Int
  wt : Nat → Option (Nat → Int)
  dead : Bool
  fuse : Int
/-- The byte that is read at a place. -/
def DS.rd (s : DS) (i : Nat) : Int := match s.wt (i / 64) with
  | some f => f (i % 64)
  | none => s.la i
def DS.cnt (s : DS) : Nat := ((List.range s.n).filter fun k => (s.wt k).isSome).length

/-- How a map's element reads: by its block. -/
def slR : Value → Option (DataW Unit × List MemPlace)
  | .slice (some ⟨b, 0, none⟩) 64 c => if 64 ≤ c then some (.lit (.int .i64 b), []) else none
  | .slice none 0 0 => some (.nil, [])
  | _ => none
theorem slR_mk {b c : Nat} (h : 64 ≤ c) : slR (.slice (some ⟨b, 0, none⟩) 64 c) = some (.lit (.int .i64 b), []) := by simp [slR, h]
theorem slR_inv {v : Value} {b : Nat} {ps : List MemPlace} (h : slR v = some (.lit (.int .i64 b), ps)) : ∃ c, v = .slice (some ⟨b, 0, none⟩) 64 c ∧ 64 ≤ c := by
  unfold slR at h
  split at h
  · rename_i b' c
    split at h
    · rename_i hc
      simp only [Option.some.injEq, Prod.mk.injEq, DataW.lit.injEq, Lit.int.injEq, true_and] at h
      have : b' = b := by omega
      exact ⟨c, by rw [this], hc⟩
    · cases h
  · simp at h
  · cases h

theorem owns_tight {H : Type} {w : World} {P : Program} {k : TypeId} {R : Value → Option (DataW H × List MemPlace)} {b n : Nat} {D : DataW H} (h : w.ownsMap P k R b n D) : w.ownsMap P k R b (Maps.size D) D := by
  obtain ⟨es, clock, hb, F, hs, hD⟩ := h
  refine ⟨es, clock, hb, F, ?_, hD⟩
  rw [hD]
  simp [Maps.size, length_sorted]
theorem owns_step {H : Type} {w w1 : World} {P : Program} {k : TypeId} {R : Value → Option (DataW H × List MemPlace)} {b n : Nat} {D : DataW H} (h : w.ownsMap P k R b n D) (hb : w1.heap[b]? = w.heap[b]?) : w1.ownsMap P k R b n D := by
  obtain ⟨es, clock, hb', F, hs, hD⟩ := h
  exact ⟨es, clock, hb.trans hb', F, hs, hD⟩

structure Hold (W : World) (p lb mb : Nat) (D : DataW Unit) (wb : Nat → Nat) (s : DS) : Prop where
  cell : W.heap[p]? = some (.cells #[.slice (some ⟨lb, 0, none⟩) (64 * s.n) (64 * s.n), .map (some mb), .bool s.dead, .int .i64 s.fuse] 57 (0, 0))
  last : ∃ cur, W.heap[lb]? = some (.cells cur 5 (0, 0)) ∧ cur.size = 64 * s.n ∧ ∀ i, i < 64 * s.n → cur[i]? = some (.int .u8 (s.la i))
  map : W.ownsMap Try.prog 3 slR mb (Maps.size D) D
  has : ∀ kl, Maps.has D kl = true ↔ ∃ k : Nat, (s.wt k).isSome = true ∧ kl = .int .i64 k
  val : ∀ k f, s.wt k = some f → (∀ z, D.atKey (.int .i64 k) z = .lit (.int .i64 (wb k))) ∧ ∃ cur, W.heap[wb k]? = some (.cells cur 5 (0, 0)) ∧ ∀ i, i < 64 → cur[i]? = some (.int .u8 (f i))
  apart : ∀ k, (s.wt k).isSome = true → wb k ≠ lb
  inj : ∀ k k', (s.wt k).isSome = true → (s.wt k').isSome = true → wb k = wb k' → k = k'
  lim : ∀ k, (s.wt k).isSome = true → k < s.n
  size : Maps.size D = s.cnt
  n1 : 1 ≤ s.n
  n2 : s.n ≤ 65536
/-- A disk at block p, all of whose blocks lie in B. -/
def DiskAt (W : World) (p : Nat) (s : DS) (B : Nat → Prop) : Prop := ∃ lb mb D wb, Hold W p lb mb D wb s ∧ B p ∧ B lb ∧ B mb ∧ ∀ k, (s.wt k).isSome = true → B (wb k)
theorem Hold.step {W W1 : World} {p lb mb : Nat} {D : DataW Unit} {wb : Nat → Nat} {s : DS} (h : Hold W p lb mb D wb s) (h1 : W1.heap[p]? = W.heap[p]?) (h2 : W1.heap[lb]? = W.heap[lb]?) (h3 : W1.heap[mb]? = W.heap[mb]?) (h4 : ∀ k, (s.wt k).isSome = true → W1.heap[wb k]? = W.heap[wb k]?) : Hold W1 p lb mb D wb s where
  cell := h1.trans h.cell
  last := by obtain ⟨cur, q⟩ := h.last; exact ⟨cur, h2.trans q.1, q.2⟩
  map := owns_step h.map h3
  has := h.has
  val := fun k f hk => by
    obtain ⟨q1, cur, q2, q3⟩ := h.val k f hk
    exact ⟨q1, cur, (h4 k (by rw [hk]; rfl)).trans q2, q3⟩
  apart := h.apart
  inj := h.inj
  lim := h.lim
  size := h.size
  n1 := h.n1
  n2 := h.n2
theorem Hold.lts {W : World} {p lb mb : Nat} {D : DataW Unit} {wb : Nat → Nat} {s : DS} (h : Hold W p lb mb D wb s) : p < W.heap.size ∧ lb < W.heap.size ∧ mb < W.heap.size ∧ ∀ k, (s.wt k).isSome = true → wb k < W.heap.size := by
  refine ⟨blk_lt h.cell, ?_, h.map.lt, fun k hk => ?_⟩
  · obtain ⟨cur, q, _⟩ := h.last; exact blk_lt q
  · obtain ⟨f, hf⟩ := Option.isSome_iff_exists.1 hk
    obtain ⟨_, cur, q, _⟩ := h.val k f hf
    exact blk_lt q
theorem DiskAt.step {W W1 : World} {p : Nat} {s : DS} {B : Nat → Prop} (h : DiskAt W p s B) (hm : ∀ k, B k → k < W.heap.size → W1.heap[k]? = W.heap[k]?) : DiskAt W1 p s B := by
  obtain ⟨lb, mb, D, wb, hH, h1, h2, h3, h4⟩ := h
  obtain ⟨q1, q2, q3, q4⟩ := hH.lts
  exact ⟨lb, mb, D, wb, hH.step (hm p h1 q1) (hm lb h2 q2) (hm mb h3 q3) (fun k hk => hm _ (h4 k hk) (q4 k hk)), h1, h2, h3, h4⟩
theorem DiskAt.below {W W1 : World} {p : Nat} {s : DS} {B : Nat → Prop} (h : DiskAt W p s B) (hb : Below W.heap.size W W1) : DiskAt W1 p s B := h.step (fun k _ hk => hb.block k hk)
theorem DiskAt.mono {W : World} {p : Nat} {s : DS} {B B' : Nat → Prop} (h : DiskAt W p s B) (hB : ∀ k, B k → B' k) : DiskAt W p s B' := by
  obtain ⟨lb, mb, D, wb, hH, h1, h2, h3, h4⟩ := h
  exact ⟨lb, mb, D, wb, hH, hB _ h1, hB _ h2, hB _ h3, fun k hk => hB _ (h4 k hk)⟩
/-- The struct's cells. -/
theorem DiskAt.cells {W : World} {p : Nat} {s : DS} {B : Nat → Prop} (h : DiskAt W p s B) : ∃ lb mb, W.heap[p]? = some (.cells #[.slice (some ⟨lb, 0, none⟩) (64 * s.n) (64 * s.n), .map (some mb), .bool s.dead, .int .i64 s.fuse] 57 (0, 0)) ∧ 1 ≤ s.n ∧ s.n ≤ 65536 := by
  obtain ⟨lb, mb, D, wb, hH, _⟩ := h
  exact ⟨lb, mb, hH.cell, hH.n1, hH.n2⟩

abbrev dptr (p : Nat) : Value := .pointer (some ⟨p, 0, none⟩)
theorem usable_any {W : World} {p : Nat} {s : DS} {B : Nat → Prop} (h : DiskAt W p s B) : Calls Try.prog 26 #[dptr p] W fun e w' => e = .returned (.int .i64 (if s.dead then 140 else 0)) ∧ w' = W := by
  obtain ⟨lb, mb, hc, _⟩ := h.cells
  have c2 := (blk_cell hc 2).trans rfl
  clear hc
  cases hd : s.dead
  · rw [hd] at c2
    go_enter Try.func26, Try.ntmps26
    go_wp2
    go_ret
    exact ⟨rfl, rfl⟩
  · rw [hd] at c2
    go_enter Try.func26, Try.ntmps26
    go_wp2
    go_ret
    exact ⟨rfl, rfl⟩
theorem usable_nil (W : World) : Calls Try.prog 26 #[.pointer none] W fun e w' => e = .returned (.int .i64 8) ∧ w' = W := by
  go_enter Try.func26, Try.ntmps26
  go_wp2
  go_ret
  exact ⟨rfl, rfl⟩
theorem size_any {W : World} {p : Nat} {s : DS} {B : Nat → Prop} (h : DiskAt W p s B) : Calls Try.prog 24 #[dptr p] W fun e w' => e = .returned (.int .i64 s.n) ∧ w' = W := by
  obtain ⟨lb, mb, hc, n1, n2⟩ := h.cells
  have c0 := (blk_cell hc 0).trans rfl
  clear hc
  have hq : (64 * (s.n : Int)).tdiv 64 = (s.n : Int) := by rw [Int.tdiv_eq_ediv_of_nonneg (by omega)]; omega
  go_enter Try.func24, Try.ntmps24
  go_wp2
  go_ret
  exact ⟨rfl, rfl⟩
theorem size_nil (W : World) : Calls Try.prog 24 #[.pointer none] W fun e w' => e = .returned (.int .i64 0) ∧ w' = W := by
  go_enter Try.func24, Try.ntmps24
  go_wp2
  go_ret
  exact ⟨rfl, rfl⟩
theorem dead_any {W : World} {p : Nat} {s : DS} {B : Nat → Prop} (h : DiskAt W p s B) : Calls Try.prog 15 #[dptr p] W fun e w' => e = .returned (.bool s.dead) ∧ w' = W := by
  obtain ⟨lb, mb, hc, _⟩ := h.cells
  have c2 := (blk_cell hc 2).trans rfl
  clear hc
  go_enter Try.func15, Try.ntmps15
  go_wp2
  go_ret
  exact ⟨rfl, rfl⟩
theorem dead_nil (W : World) : Calls Try.prog 15 #[.pointer none] W fun e w' => e = .returned (.bool false) ∧ w' = W := by
  go_enter Try.func15, Try.ntmps15
  go_wp2
  go_ret
  exact ⟨rfl, rfl⟩
end Go.Proofs.Ytojpmihgpjmobaa.X
