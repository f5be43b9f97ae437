/- The reference's disk: how it lies in memory; the methods that only look, or write a field. -/
import Derived.Test.YtojpmihgpjmobaaDkV
namespace Go.Proofs.Ytojpmihgpjmobaa.X
open Go Go.RowKit Go.Maps Go.Shelf Go.Proofs.Ytojpmihgpjmobaa Go.Proofs.YtojpmihgpjmobaaW.PrintWords Go.Proofs.YtojpmihgpjmobaaW.PrintLast Go.Proofs.YtojpmihgpjmobaaW.PrintMore
set_option linter.unusedVariables false
set_option linter.unusedSimpArgs false

/-- A row of 64 bytes that nobody writes any more. -/
def RowIn (W : World) (B : Nat → Prop) (v : Value) (f : Nat → Int) : Prop :=
  ∃ g G cur, v = .slice (some ⟨g, 0, none⟩) 64 G ∧ 64 ≤ G ∧ G ≤ 9223372036854775807 ∧ B g ∧ W.heap[g]? = some (.cells cur 5 (0, 0)) ∧ ∀ i, i < 64 → cur[i]? = some (.int .u8 (f i))
structure RHold (W : World) (B : Nat → Prop) (q cb G : Nat) (vl vw : Nat → Value) (s : DS) : Prop where
  cell : W.heap[q]? = some (.cells #[.slice (some ⟨cb, 0, none⟩) s.n G, .bool s.dead, .int .i64 s.fuse] 51 (0, 0))
  row : ∃ cur, W.heap[cb]? = some (.cells cur 70 (0, 0)) ∧ cur.size = 3 * G ∧ ∀ k, k < s.n → cur[k * 3]? = some (vl k) ∧ cur[k * 3 + 1]? = some (vw k) ∧ cur[k * 3 + 2]? = some (.bool (s.wt k).isSome)
  la : ∀ k, k < s.n → RowIn W B (vl k) (fun i => s.la (64 * k + i))
  wt : ∀ k f, k < s.n → s.wt k = some f → RowIn W B (vw k) f
  sw : ∀ k, k < s.n → ∃ A m c, vw k = .slice A m c
  bq : B q
  bc : B cb
  hG : s.n ≤ G
  hG2 : G ≤ 9223372036854775807
  n1 : 1 ≤ s.n
  n2 : s.n ≤ 65536
/-- The reference's disk at block q, all of whose blocks lie in B. -/
def RefAt (W : World) (q : Nat) (s : DS) (B : Nat → Prop) : Prop := ∃ cb G vl vw, RHold W B q cb G vl vw s
theorem RowIn.step {W W1 : World} {B B1 : Nat → Prop} {v : Value} {f : Nat → Int} (h : RowIn W B v f) (hm : ∀ k, B k → k < W.heap.size → (∃ cur, W.heap[k]? = some (.cells cur 5 (0, 0))) → W1.heap[k]? = W.heap[k]?) (hB : ∀ k, B k → B1 k) : RowIn W1 B1 v f := by
  obtain ⟨g, G, cur, e, h1, h2, h3, h4, h5⟩ := h
  exact ⟨g, G, cur, e, h1, h2, hB _ h3, (hm g h3 (blk_lt h4) ⟨cur, h4⟩).trans h4, h5⟩
theorem RHold.step {W W1 : World} {B : Nat → Prop} {q cb G : Nat} {vl vw : Nat → Value} {s : DS} (h : RHold W B q cb G vl vw s) (hm : ∀ k, B k → k < W.heap.size → W1.heap[k]? = W.heap[k]?) : RHold W1 B q cb G vl vw s where
  cell := (hm q h.bq (blk_lt h.cell)).trans h.cell
  row := by obtain ⟨cur, e, r⟩ := h.row; exact ⟨cur, (hm cb h.bc (blk_lt e)).trans e, r⟩
  la := fun k hk => (h.la k hk).step (fun j h1 h2 _ => hm j h1 h2) (fun _ h => h)
  wt := fun k f hk hf => (h.wt k f hk hf).step (fun j h1 h2 _ => hm j h1 h2) (fun _ h => h)
  sw := h.sw
  bq := h.bq
  bc := h.bc
  hG := h.hG
  hG2 := h.hG2
  n1 := h.n1
  n2 := h.n2
theorem RHold.mono {W : World} {B B1 : Nat → Prop} {q cb G : Nat} {vl vw : Nat → Value} {s : DS} (h : RHold W B q cb G vl vw s) (hB : ∀ k, B k → B1 k) : RHold W B1 q cb G vl vw s where
  cell := h.cell
  row := h.row
  la := fun k hk => (h.la k hk).step (fun j h1 h2 _ => rfl) hB
  wt := fun k f hk hf => (h.wt k f hk hf).step (fun j h1 h2 _ => rfl) hB
  sw := h.sw
  bq := hB _ h.bq
  bc := hB _ h.bc
  hG := h.hG
  hG2 := h.hG2
  n1 := h.n1
  n2 := h.n2
theorem RefAt.step {W W1 : World} {q : Nat} {s : DS} {B : Nat → Prop} (h : RefAt W q s B) (hm : ∀ k, B k → k < W.heap.size → W1.heap[k]? = W.heap[k]?) : RefAt W1 q s B := by
  obtain ⟨cb, G, vl, vw, hH⟩ := h
  exact ⟨cb, G, vl, vw, hH.step hm⟩
theorem RefAt.below {W W1 : World} {q : Nat} {s : DS} {B : Nat → Prop} (h : RefAt W q s B) (hb : Below W.heap.size W W1) : RefAt W1 q s B := h.step (fun k _ hk => hb.block k hk)
theorem RefAt.mono {W : World} {q : Nat} {s : DS} {B B1 : Nat → Prop} (h : RefAt W q s B) (hB : ∀ k, B k → B1 k) : RefAt W q s B1 := by
  obtain ⟨cb, G, vl, vw, hH⟩ := h
  exact ⟨cb, G, vl, vw, hH.mono hB⟩
theorem RowIn.bound {W : World} {B : Nat → Prop} {v : Value} {f : Nat → Int} (h : RowIn W B v f) : RowIn W (fun k => B k ∧ k < W.heap.size) v f := by
  obtain ⟨g, G, cur, e, h1, h2, h3, h4, h5⟩ := h
  exact ⟨g, G, cur, e, h1, h2, ⟨h3, blk_lt h4⟩, h4, h5⟩
theorem RefAt.bound {W : World} {q : Nat} {s : DS} {B : Nat → Prop} (h : RefAt W q s B) : RefAt W q s (fun k => B k ∧ k < W.heap.size) := by
  obtain ⟨cb, G, vl, vw, hH⟩ := h
  exact ⟨cb, G, vl, vw, { cell := hH.cell, row := hH.row, la := fun k hk => (hH.la k hk).bound, wt := fun k f hk hf => (hH.wt k f hk hf).bound, sw := hH.sw, bq := ⟨hH.bq, blk_lt hH.cell⟩, bc := ⟨hH.bc, by obtain ⟨cur, e, _⟩ := hH.row; exact blk_lt e⟩, hG := hH.hG, hG2 := hH.hG2, n1 := hH.n1, n2 := hH.n2 }⟩
/-- The struct's plain fields written. -/
theorem RHold.fields {W W1 : World} {B : Nat → Prop} {q cb G : Nat} {vl vw : Nat → Value} {s : DS} (h : RHold W B q cb G vl vw s) (d : Bool) (f : Int)
    (hp : W1.heap[q]? = some (.cells #[.slice (some ⟨cb, 0, none⟩) s.n G, .bool d, .int .i64 f] 51 (0, 0))) (ho : ∀ k, k ≠ q → W1.heap[k]? = W.heap[k]?) : RHold W1 B q cb G vl vw { s with dead := d, fuse := f } where
  cell := hp
  row := by
    obtain ⟨cur, e, r⟩ := h.row
    exact ⟨cur, (ho cb (blk_ne e h.cell (by decide))).trans e, r⟩
  la := fun k hk => (h.la k hk).step (fun j _ _ ⟨cur, hc⟩ => ho j (blk_ne hc h.cell (by decide))) (fun _ h => h)
  wt := fun k f hk hf => (h.wt k f hk hf).step (fun j _ _ ⟨cur, hc⟩ => ho j (blk_ne hc h.cell (by decide))) (fun _ h => h)
  sw := h.sw
  bq := h.bq
  bc := h.bc
  hG := h.hG
  hG2 := h.hG2
  n1 := h.n1
  n2 := h.n2
theorem RefAt.put2 {W : World} {q : Nat} {s : DS} {B : Nat → Prop} (h : RefAt W q s B) (d : Bool) (f : Int) : RefAt ((W.setCell ⟨q, 1, none⟩ (.bool d)).setCell ⟨q, 2, none⟩ (.int .i64 f)) q { s with dead := d, fuse := f } B ∧ Tn W ((W.setCell ⟨q, 1, none⟩ (.bool d)).setCell ⟨q, 2, none⟩ (.int .i64 f)) B := by
  obtain ⟨cb, G, vl, vw, hH⟩ := h
  exact ⟨⟨cb, G, vl, vw, hH.fields d f (blk_set (blk_set hH.cell 1 _) 2 _) (fun k hk => (Below.heap_setCell _ ⟨q, 2, none⟩ _ k hk).trans (Below.heap_setCell _ ⟨q, 1, none⟩ _ k hk))⟩,
    ((Tn.refl W B).setCell (p := ⟨q, 1, none⟩) (.inl hH.bq) _).setCell (p := ⟨q, 2, none⟩) (.inl hH.bq) _⟩
theorem RefAt.put1 {W : World} {q : Nat} {s : DS} {B : Nat → Prop} (h : RefAt W q s B) (f : Int) : RefAt (W.setCell ⟨q, 2, none⟩ (.int .i64 f)) q { s with fuse := f } B ∧ Tn W (W.setCell ⟨q, 2, none⟩ (.int .i64 f)) B := by
  obtain ⟨cb, G, vl, vw, hH⟩ := h
  exact ⟨⟨cb, G, vl, vw, hH.fields s.dead f (blk_set hH.cell 2 _) (fun k hk => Below.heap_setCell _ ⟨q, 2, none⟩ _ k hk)⟩, (Tn.refl W B).setCell (p := ⟨q, 2, none⟩) (.inl hH.bq) _⟩
theorem RefAt.cells {W : World} {q : Nat} {s : DS} {B : Nat → Prop} (h : RefAt W q s B) : ∃ cb G, W.heap[q]? = some (.cells #[.slice (some ⟨cb, 0, none⟩) s.n G, .bool s.dead, .int .i64 s.fuse] 51 (0, 0)) ∧ 1 ≤ s.n ∧ s.n ≤ 65536 ∧ s.n ≤ G ∧ B q := by
  obtain ⟨cb, G, vl, vw, hH⟩ := h
  exact ⟨cb, G, hH.cell, hH.n1, hH.n2, hH.hG, hH.bq⟩
/-- The sectors' cells. -/
theorem RHold.cs {W : World} {B : Nat → Prop} {q cb G : Nat} {vl vw : Nat → Value} {s : DS} (h : RHold W B q cb G vl vw s) {k : Nat} (hk : k < s.n) : W.cell? ⟨cb, k * 3, none⟩ = some (vl k) ∧ W.cell? ⟨cb, k * 3 + 1, none⟩ = some (vw k) ∧ W.cell? ⟨cb, k * 3 + 2, none⟩ = some (.bool (s.wt k).isSome) := by
  obtain ⟨cur, e, _, r⟩ := h.row
  obtain ⟨h1, h2, h3⟩ := r k hk
  exact ⟨(blk_cell e _).trans h1, (blk_cell e _).trans h2, (blk_cell e _).trans h3⟩

theorem rkill_any {W : World} {p : Nat} {s : DS} {B : Nat → Prop} (h : RefAt W p s B) : Calls Try.prog 38 #[dptr p] W fun e w' => e = .returned (.tuple #[]) ∧ RefAt w' p { s with dead := true, fuse := -1 } B ∧ Tn W w' B := by
  obtain ⟨lb, mb, hc, _⟩ := h.cells
  have c2 := (blk_cell hc 1).trans rfl
  have c3 := (blk_cell hc 2).trans rfl
  have f2 := blk_frozen hc 1
  have f3 := blk_frozen hc 2
  clear hc
  have H := Aside0.mk (h.put2 true (-1))
  clear h
  go_enter Try.func38, Try.ntmps38
  go_wp2
  go_end0
  exact ⟨rfl, H.out⟩
theorem rfuse_any {W : World} {p : Nat} {s : DS} {B : Nat → Prop} (h : RefAt W p s B) (n : Int) : Calls Try.prog 37 #[dptr p, .int .i64 n] W fun e w' => e = .returned (.tuple #[]) ∧ RefAt w' p { s with fuse := max n (-1) } B ∧ Tn W w' B := by
  obtain ⟨lb, mb, hc, _⟩ := h.cells
  have c3 := (blk_cell hc 2).trans rfl
  have f3 := blk_frozen hc 2
  clear hc
  have H := Aside0.mk (h.put1 (max n (-1)))
  clear h
  go_enter Try.func37, Try.ntmps37
  go_wp2
  all_goals (go_end0; exact ⟨rfl, H.out⟩)
theorem rburn_any {W : World} {p : Nat} {s : DS} {B : Nat → Prop} (h : RefAt W p s B) (hf : s.fuse ≤ 9223372036854775807) : Calls Try.prog 45 #[dptr p] W fun e w' => e = .returned (.bool (if s.fuse = 0 then false else true)) ∧ RefAt w' p s.burnt B ∧ Tn W w' B := by
  obtain ⟨lb, mb, hc, _⟩ := h.cells
  have c2 := (blk_cell hc 1).trans rfl
  have f2 := blk_frozen hc 1
  have c3 := (blk_cell hc 2).trans rfl
  have f3 := blk_frozen hc 2
  clear hc
  by_cases h0 : s.fuse = 0
  · have e0 : s.burnt = { s with dead := true, fuse := -1 } := by unfold DS.burnt; rw [if_pos h0]
    have H := Aside0.mk (h.put2 true (-1))
    rw [if_pos h0, e0]
    rw [h0] at c3
    clear h e0 h0
    go_enter Try.func45, Try.ntmps45
    go_wp2
    go_ret
    exact ⟨rfl, H.out⟩
  · by_cases h1 : 0 < s.fuse
    · have e0 : s.burnt = { s with fuse := s.fuse - 1 } := by unfold DS.burnt; rw [if_neg h0, if_pos h1]
      have H := Aside0.mk (h.put1 (s.fuse - 1))
      have hw : IntKind.i64.wrap (s.fuse - 1) = s.fuse - 1 := by rw [IntKind.wrap_i64]; omega
      rw [if_neg h0, e0]
      clear h e0
      generalize s.fuse = f at *
      go_enter Try.func45, Try.ntmps45
      go_wp2
      go_ret
      exact ⟨rfl, H.out⟩
    · have e0 : s.burnt = s := by unfold DS.burnt; rw [if_neg h0, if_neg h1]
      rw [if_neg h0, e0]
      have H := Aside0.mk h
      clear h e0
      generalize s.fuse = f at *
      go_enter Try.func45, Try.ntmps45
      go_wp2
      go_ret
      exact ⟨rfl, H.out, Tn.refl _ _⟩
theorem rthere_any {W : World} {p : Nat} {s : DS} {B : Nat → Prop} (h : RefAt W p s B) (a c : Int) : Calls Try.prog 44 #[dptr p, .int .i64 a, .int .i64 c] W fun e w' => e = .returned (.bool (thereB s.n a c)) ∧ w' = W := by
  have hn := h.cells
  obtain ⟨cb, G, hc, n1, n2, n3, _⟩ := hn
  have c0 := (blk_cell hc 0).trans rfl
  clear h hc
  unfold thereB
  by_cases h1 : 0 ≤ a
  · by_cases h2 : a ≤ s.n
    · have hw : IntKind.i64.wrap ((s.n : Int) - a) = (s.n : Int) - a := by rw [IntKind.wrap_i64]; omega
      have t1 : decide (0 ≤ a) = true := decide_eq_true h1
      have t2 : decide (a ≤ s.n) = true := decide_eq_true h2
      by_cases h3 : 0 ≤ c
      · have t3 : decide (0 ≤ c) = true := decide_eq_true h3
        go_enter Try.func44, Try.ntmps44
        go_wp2
        go_ret
        exact ⟨by simp [t1, t2, t3], rfl⟩
      · have t3 : decide (0 ≤ c) = false := decide_eq_false h3
        go_enter Try.func44, Try.ntmps44
        go_wp2
        go_ret
        exact ⟨by simp [t3], rfl⟩
    · have t1 : decide (0 ≤ a) = true := decide_eq_true h1
      have t2 : decide (a ≤ s.n) = false := decide_eq_false h2
      go_enter Try.func44, Try.ntmps44
      go_wp2
      go_ret
      exact ⟨by simp [t2], rfl⟩
  · have t1 : decide (0 ≤ a) = false := decide_eq_false h1
    go_enter Try.func44, Try.ntmps44
    go_wp2
    go_ret
    exact ⟨by simp [t1], rfl⟩
/-- What a sector reads as. -/
theorem reads_any {W : World} {p : Nat} {s : DS} {B : Nat → Prop} (h : RefAt W p s B) (k : Nat) (hk : k < s.n) : Calls Try.prog 46 #[dptr p, .int .i64 k] W fun e w' => (∃ v, e = .returned v ∧ RowIn W B v (fun i => s.rd (64 * k + i))) ∧ w' = W := by
  obtain ⟨cb, G, vl, vw, hH⟩ := h
  have c0 := (blk_cell hH.cell 0).trans rfl
  obtain ⟨c1, c2, c3⟩ := hH.cs hk
  have hG := hH.hG
  have n2 := hH.n2
  have HL := Aside0.mk (hH.la k hk)
  have HW := Aside0.mk (fun f hf => hH.wt k f hk hf)
  clear hH
  have hkG : (k : Int) < s.n := by omega
  cases hw : s.wt k with
  | none =>
    rw [hw] at c3
    have HR : Aside0 (RowIn W B (vl k) (fun i => s.rd (64 * k + i))) := ⟨by
      obtain ⟨g, G', cur, e, h1, h2, h3, h4, h5⟩ := HL.out
      exact ⟨g, G', cur, e, h1, h2, h3, h4, fun i hi => by rw [h5 i hi]; show some (Value.int .u8 (s.la (64 * k + i))) = some (Value.int .u8 (s.rd (64 * k + i))); rw [DS.rd_none hw hi]⟩⟩
    generalize vl k = v1 at *
    go_enter Try.func46, Try.ntmps46
    go_wp2
    go_ret
    exact ⟨⟨_, rfl, HR.out⟩, rfl⟩
  | some f =>
    rw [hw] at c3
    have HR : Aside0 (RowIn W B (vw k) (fun i => s.rd (64 * k + i))) := ⟨by
      obtain ⟨g, G', cur, e, h1, h2, h3, h4, h5⟩ := HW.out f hw
      exact ⟨g, G', cur, e, h1, h2, h3, h4, fun i hi => by rw [h5 i hi]; show some (Value.int .u8 (f i)) = some (Value.int .u8 (s.rd (64 * k + i))); rw [DS.rd_some hw hi]⟩⟩
    generalize vw k = v1 at *
    go_enter Try.func46, Try.ntmps46
    go_wp2
    go_ret
    exact ⟨⟨_, rfl, HR.out⟩, rfl⟩
end Go.Proofs.Ytojpmihgpjmobaa.X
