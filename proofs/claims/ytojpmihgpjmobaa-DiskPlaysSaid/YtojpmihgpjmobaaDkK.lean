/- The disk: Write. -/
import Derived.Test.YtojpmihgpjmobaaDkJ
namespace Go.Proofs.Ytojpmihgpjmobaa.X
open Go Go.RowKit Go.Maps Go.Shelf Go.Proofs.Ytojpmihgpjmobaa Go.Proofs.YtojpmihgpjmobaaW.PrintWords Go.Proofs.YtojpmihgpjmobaaW.PrintLast Go.Proofs.YtojpmihgpjmobaaW.PrintMore
attribute [local go_sem] Oper.semAt_some
set_option linter.unusedVariables false
set_option linter.unusedSimpArgs false

theorem chunk_any (A : Option Addr) (n c : Nat) (w : World) :
    Calls Try.prog 29 #[.slice A n c, .int .i64 64] w fun e w' => e = .returned (.func (.func 40) #[] #[.pointer (some ⟨w.heap.size, 0, none⟩), .pointer (some ⟨w.heap.size + 1, 0, none⟩)]) ∧
      (w.alloc (.cells #[.slice A n c] 30)).alloc (.cells #[.int .i64 64] 3) = w' := by
  go_enter Try.func29, Try.ntmps29
  go_wp2
  go_ret
  exact ⟨rfl, rfl⟩
theorem kp2_t {Bs : Nat} {A B C : World} (h : Kp2 Bs A B) (k : Kp2 Bs B C) : Kp2 Bs A C := ⟨k.1.trans h.1, k.2.trans h.2⟩
theorem kp2_b {Bs : Nat} {w : World} (hb : Bs + 1 < w.heap.size) (W : World) (l : Nat) (o o' : Obj) (hl : w.heap.size ≤ l) (h : W.heap[l]? = some o) (h1 : o.isCells = false) (h2 : o.isWalk = false) : Kp2 Bs W (W.putObj l o') :=
  ⟨(belowK_b (w := w) (Nat.le_refl _) W l o o' hl h h1 h2).cell (p := ⟨Bs, 0, none⟩) (by show Bs < _; omega), (belowK_b (w := w) (Nat.le_refl _) W l o o' hl h h1 h2).cell (p := ⟨Bs + 1, 0, none⟩) hb⟩
theorem chunk_stops (n : Nat) (hn : 1 ≤ n) (Bs : Nat) (A : Option Addr) (ad : Addr) (m c : Nat) (hm : m ≤ 1099511627776) (hc : 64 * m ≤ c) (hA : 0 < m → A = some ad) (w : World) (hb : Bs + 1 < w.heap.size)
    (h1 : w.cell? ⟨Bs, 0, none⟩ = some (.slice A (64 * m) c)) (h2 : w.cell? ⟨Bs + 1, 0, none⟩ = some (.int .i64 64)) :
    SeqStopsK Fence.wide n Try.prog 40 #[.pointer (some ⟨Bs, 0, none⟩), .pointer (some ⟨Bs + 1, 0, none⟩)] (fun x : Fin m => cEnc ad x) (Kp2 Bs) (fun xs => xs = List.finRange m) (fun pre => pre <+: List.finRange m) m w :=
  fun l J Jx W hW hJa _ hY h0 => chunk1_in n hn l Bs A ad m c hm hc hA J Jx (fun pre W1 hJ => hJa pre W1 W1.drew none hJ ⟨rfl, rfl, rfl, Nat.le_refl _, fun _ _ _ => rfl⟩ (fun r e => by cases e)) hY W ((hW.cell (p := ⟨Bs, 0, none⟩) (by show Bs < _; omega)).trans h1) ((hW.cell (p := ⟨Bs + 1, 0, none⟩) hb).trans h2) h0
theorem DiskAt.bound {W : World} {p : Nat} {s : DS} {B : Nat → Prop} (h : DiskAt W p s B) : DiskAt W p s (fun k => B k ∧ k < W.heap.size) := by
  obtain ⟨lb, mb, D, wb, hH, h1, h2, h3, h4⟩ := h
  have ln := hH.lts
  exact ⟨lb, mb, D, wb, hH, ⟨h1, ln.1⟩, ⟨h2, ln.2.1⟩, ⟨h3, ln.2.2.1⟩, fun k hk => ⟨h4 k hk, ln.2.2.2 k hk⟩⟩
theorem Hold.own {W C : World} {p lb mb w0 : Nat} {D : DataW Unit} {wb : Nat → Nat} {s : DS} (h : Hold W p lb mb D wb s) {row : Option Nat} (hg : W.grownBy C row) (hm : mb < w0) (hr : ∀ r, row = some r → w0 ≤ r ∧ ∃ o : Obj, W.heap[r]? = some o ∧ o.isCells = false) : Hold C p lb mb D wb s := by
  have ln := h.lts
  have nc : ∀ {j t : Nat} {cs : Array Value}, W.heap[j]? = some (.cells cs t (0, 0)) → some j ≠ row := fun {j t cs} hj e => by
    obtain ⟨_, o, q1, q2⟩ := hr j e.symm
    rw [hj] at q1
    obtain rfl := Option.some.inj q1
    cases q2
  refine h.step (hg.block p ln.1 (nc h.cell)) ?_ (hg.block mb ln.2.2.1 (fun e => by have := (hr mb e.symm).1; omega)) (fun k hk => ?_)
  · obtain ⟨cur, q, _⟩ := h.last; exact hg.block lb ln.2.1 (nc q)
  · obtain ⟨f, hf⟩ := Option.isSome_iff_exists.1 hk
    obtain ⟨_, cur, q, _⟩ := h.val k f hf
    exact hg.block _ (ln.2.2.2 k hk) (nc q)
/-- While Write lays sectors. -/
def WrI (W : World) (B : Nat → Prop) (p lb mb a z : Nat) (s1 : DS) {m : Nat} (f : Nat → Int) (pre : List (Fin m)) (W' : World) : Prop :=
  ∃ D wb, Hold W' p lb mb D wb (s1.putL a (pre.map fun x i => f (64 * x.val + i))) ∧ (∀ k, ((s1.putL a (pre.map fun x i => f (64 * x.val + i))).wt k).isSome = true → B (wb k) ∨ W.heap.size ≤ wb k) ∧
    W'.heap[W.heap.size]? = some (.cells #[dptr p] 26 (0, 0)) ∧ W'.heap[W.heap.size + 1]? = some (.cells #[.int .i64 ((a : Int) + (pre.length : Int))] 3 (0, 0)) ∧ z ≤ W'.heap.size ∧ Tn W W' B
theorem not_row {W C : World} {row : Option Nat} {w0 : Nat} (hr : ∀ r, row = some r → w0 ≤ r ∧ ∃ o : Obj, W.heap[r]? = some o ∧ o.isCells = false) {j t : Nat} {cs : Array Value} (hj : W.heap[j]? = some (.cells cs t (0, 0))) : some j ≠ row := fun e => by
  obtain ⟨_, o, q1, q2⟩ := hr j e.symm
  rw [hj] at q1
  obtain rfl := Option.some.inj q1
  cases q2
theorem wrI_own {W : World} {B : Nat → Prop} {p lb mb a w0 z : Nat} {s1 : DS} {m : Nat} {f : Nat → Int} (hm : mb < w0) (hW : W.heap.size ≤ w0) : OwnFrom w0 (WrI W B p lb mb a z s1 (m := m) f) := fun pre A C row hs hg hr => by
  obtain ⟨D, wb, hH, hfo, c1, c2, hz, hT⟩ := hs
  exact ⟨D, wb, hH.own hg hm hr, hfo, (hg.block _ (blk_lt c1) (not_row (C := C) hr c1)).trans c1, (hg.block _ (blk_lt c2) (not_row (C := C) hr c2)).trans c2, Nat.le_trans hz hg.size, hT.trans (Tn.of_grown (B := fun k => row = some k) hg (fun k hk => hk)) (fun k hk => .inr (Nat.le_trans hW (hr k hk).1))⟩
theorem wr_update {wc : World} {mb n : Nat} {D : DataW Unit} (hm : wc.ownsMap Try.prog 3 slR mb n D) (hn : n < maxLen) (k1 k2 : Nat) (hk : k1 + k2 < 65537) (g G : Nat) (hG : 64 ≤ G) :
    ∃ w6, (Instr.mapUpdate 55 (.map (some mb)) (.int .i64 ((k1 : Int) + (k2 : Int))) (.slice (some ⟨g, 0, none⟩) 64 G)).run Try.prog wc = .ok () w6 ∧ w6.ownsMap Try.prog 3 slR mb (n + 1) (D.put (keyL (k1 + k2)) (.lit (.int .i64 g))) ∧ wc.grownBy w6 (some mb) := by
  have hkey := key_at (k1 + k2) hk
  rw [Int.natCast_add] at hkey
  have := hm.update (t := 55) (int_keyed Try.underlying3) Try.underlying55 hn hkey (slR_mk (b := g) hG)
  rw [← Int.natCast_add] at this
  rw [← Int.natCast_add]
  exact this
theorem cell_heap {W W1 : World} {k : Nat} (h : W1.heap[k]? = W.heap[k]?) (j : Nat) : W1.cell? ⟨k, j, none⟩ = W.cell? ⟨k, j, none⟩ := by simp [World.cell?, h]
/-- One round of Write. -/
theorem wr_next {W W' wc w6 : World} {B : Nat → Prop} {p lb mb a z w3 g nn : Nat} {s1 : DS} {m : Nat} {f : Nat → Int} {pre : List (Fin m)} {x : Fin m} {D : DataW Unit} {wb : Nat → Nat} {cur : Array Value} (hBs : ∀ k, B k → k < W.heap.size) (hBp : B p) (hBl : B lb) (hBm : B mb)
    (hH : Hold W' p lb mb D wb (s1.putL a (pre.map fun x i => f (64 * x.val + i)))) (hfo : ∀ k, ((s1.putL a (pre.map fun x i => f (64 * x.val + i))).wt k).isSome = true → B (wb k) ∨ W.heap.size ≤ wb k)
    (e1 : W'.heap[W.heap.size]? = some (.cells #[dptr p] 26 (0, 0))) (e2 : W'.heap[W.heap.size + 1]? = some (.cells #[.int .i64 ((a : Int) + (pre.length : Int))] 3 (0, 0))) (hz : z ≤ W'.heap.size) (hT : Tn W W' B)
    (hbc : Below W'.heap.size W' wc) (hg : W'.heap.size ≤ g) (hc : wc.heap[g]? = some (.cells cur 5 (0, 0))) (hv : ∀ i, i < 64 → cur[i]? = some (.int .u8 (f (64 * x.val + i)))) (hk : a + pre.length < s1.n)
    (hm : w6.ownsMap Try.prog 3 slR mb nn (D.put (keyL (a + pre.length)) (.lit (.int .i64 g)))) (hgr : wc.grownBy w6 (some mb)) (hw3 : W.heap.size + 1 < w3) (hw3z : w3 + 1 < z) :
    KeepsFrom z W' (w6.setCell ⟨W.heap.size + 1, 0, none⟩ (.int .i64 ((a : Int) + (pre.length : Int) + 1))) ∧ Kp2 w3 W' (w6.setCell ⟨W.heap.size + 1, 0, none⟩ (.int .i64 ((a : Int) + (pre.length : Int) + 1))) ∧
      WrI W B p lb mb a z s1 f (pre ++ [x]) (w6.setCell ⟨W.heap.size + 1, 0, none⟩ (.int .i64 ((a : Int) + (pre.length : Int) + 1))) := by
  have hmW := hBs mb hBm
  have st6 : ∀ j, j < W'.heap.size → j ≠ mb → w6.heap[j]? = W'.heap[j]? := fun j hj hne => (hgr.block j (Nat.lt_of_lt_of_le hj hbc.size) (fun e => hne (Option.some.inj e))).trans (hbc.block j hj)
  have far : ∀ j, j ≠ W.heap.size + 1 → (w6.setCell ⟨W.heap.size + 1, 0, none⟩ (.int .i64 ((a : Int) + (pre.length : Int) + 1))).heap[j]? = w6.heap[j]? := fun j hj => Below.heap_setCell w6 ⟨W.heap.size + 1, 0, none⟩ _ j hj
  have h6 := hH.put hbc hg hc hv (k := a + pre.length) hk hm hgr
  have e26 := (st6 _ (blk_lt e2) (by omega)).trans e2
  have hl6 : (pre.map fun (x : Fin m) i => f (64 * x.val + i)).length = pre.length := List.length_map ..
  have hst : (s1.putL a ((pre ++ [x]).map fun x i => f (64 * x.val + i))) = { s1.putL a (pre.map fun x i => f (64 * x.val + i)) with wt := fun k' => if k' = a + pre.length then some (fun i => f (64 * x.val + i)) else (s1.putL a (pre.map fun x i => f (64 * x.val + i))).wt k' } := by
    rw [List.map_append, List.map_singleton, DS.putL_snoc, hl6]
  refine ⟨?_, ⟨?_, ?_⟩, D.put (keyL (a + pre.length)) (.lit (.int .i64 g)), (fun k' => if k' = a + pre.length then g else wb k'), ?_, ?_, ?_, ?_, ?_, ?_⟩
  · refine KeepsFrom.trans (KeepsFrom.of_grownBy (row := none) ⟨hbc.os, hbc.tape, hbc.output, hbc.size, fun k hk _ => hbc.block k hk⟩ (fun j e => by cases e)) (KeepsFrom.trans (KeepsFrom.of_grownBy hgr (fun j e => by have := Option.some.inj e; omega)) ((KeepsOthers.setCell _ _ _).from z))
  · exact cell_heap ((far w3 (by omega)).trans (st6 w3 (by omega) (by omega))) 0
  · exact cell_heap ((far (w3 + 1) (by omega)).trans (st6 (w3 + 1) (by omega) (by omega))) 0
  · rw [hst]
    have hne : ∀ {j t : Nat} {cs : Array Value}, w6.heap[j]? = some (.cells cs t (0, 0)) → t ≠ 3 → j ≠ W.heap.size + 1 := fun hj ht e => by
      rw [e, e26] at hj
      injection hj with hj
      injection hj with _ hj
      exact ht hj.symm
    refine h6.step (far p (hne h6.cell (by decide))) ?_ (far mb (by omega)) (fun k' hk' => ?_)
    · obtain ⟨c', q, _⟩ := h6.last; exact far lb (hne q (by decide))
    · obtain ⟨f', hf'⟩ := Option.isSome_iff_exists.1 hk'
      obtain ⟨_, c', q, _⟩ := h6.val k' f' hf'
      exact far _ (hne q (by decide))
  · intro k' hk'
    rw [hst] at hk'
    have hk1 : (if k' = a + pre.length then some (fun i => f (64 * x.val + i)) else (s1.putL a (pre.map fun x i => f (64 * x.val + i))).wt k').isSome = true := hk'
    show B (if k' = a + pre.length then g else wb k') ∨ W.heap.size ≤ (if k' = a + pre.length then g else wb k')
    by_cases e : k' = a + pre.length
    · rw [if_pos e]
      exact .inr (Nat.le_trans hT.size hg)
    · rw [if_neg e] at hk1 ⊢
      exact hfo k' hk1
  · exact ((far _ (by omega)).trans (st6 _ (blk_lt e1) (by omega))).trans e1
  · rw [List.length_append, List.length_singleton]
    have := blk_set e26 0 (.int .i64 ((a : Int) + (pre.length : Int) + 1))
    have e : (a : Int) + (pre.length : Int) + 1 = (a : Int) + ((pre.length + 1 : Nat) : Int) := by omega
    rw [this, e]
    rfl
  · refine Nat.le_trans hz (Nat.le_trans hbc.size (Nat.le_trans hgr.size (by simp [World.setCell])))
  · exact ((hT.below hbc).trans (Tn.of_grown (B := fun k => k = mb) hgr (fun k hk => (Option.some.inj hk).symm)) (fun k hk => .inl (by rw [hk]; exact hBm))).setCell (p := ⟨W.heap.size + 1, 0, none⟩) (.inr (Nat.le_succ _)) _
end Go.Proofs.Ytojpmihgpjmobaa.X
