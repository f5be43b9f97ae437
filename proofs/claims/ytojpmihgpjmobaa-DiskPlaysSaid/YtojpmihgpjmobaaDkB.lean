/- The disk: Kill, Fuse, burn, there, sector, Waiting, New. -/
import Derived.Test.YtojpmihgpjmobaaDkA
namespace Go.Proofs.Ytojpmihgpjmobaa.X
open Go Go.RowKit Go.Maps Go.Proofs.Ytojpmihgpjmobaa Go.Proofs.YtojpmihgpjmobaaW.PrintWords Go.Proofs.YtojpmihgpjmobaaW.PrintLast Go.Proofs.YtojpmihgpjmobaaW.PrintMore
set_option linter.unusedVariables false
set_option linter.unusedSimpArgs false

/-- W' is W but for the blocks of B, and what is new. -/
structure Tn (W W' : World) (B : Nat → Prop) : Prop where
  os : W'.os = W.os
  tape : W'.tape = W.tape
  output : W'.output = W.output
  size : W.heap.size ≤ W'.heap.size
  block : ∀ k, k < W.heap.size → ¬ B k → W'.heap[k]? = W.heap[k]?
theorem Tn.refl (W : World) (B : Nat → Prop) : Tn W W B := ⟨rfl, rfl, rfl, Nat.le_refl _, fun _ _ _ => rfl⟩
theorem Tn.of_below {W W' : World} (h : Below W.heap.size W W') (B : Nat → Prop) : Tn W W' B := ⟨h.os, h.tape, h.output, h.size, fun k hk _ => h.block k hk⟩
theorem Tn.trans {W W1 W2 : World} {B B1 : Nat → Prop} (h : Tn W W1 B) (h1 : Tn W1 W2 B1) (hs : ∀ k, B1 k → B k ∨ W.heap.size ≤ k) : Tn W W2 B :=
  ⟨h1.os.trans h.os, h1.tape.trans h.tape, h1.output.trans h.output, Nat.le_trans h.size h1.size, fun k hk hn => (h1.block k (Nat.lt_of_lt_of_le hk h.size) (fun hb => (hs k hb).elim hn (fun h2 => by omega))).trans (h.block k hk hn)⟩
theorem Tn.then_ {W W1 W2 : World} {B : Nat → Prop} (h : Tn W W1 B) (h1 : Tn W1 W2 B) : Tn W W2 B := h.trans h1 (fun _ hk => .inl hk)
theorem Tn.below {W W1 W2 : World} {B : Nat → Prop} (h : Tn W W1 B) (hb : Below W1.heap.size W1 W2) : Tn W W2 B := h.then_ (Tn.of_below hb B)
theorem Tn.setCell {W W1 : World} {B : Nat → Prop} (h : Tn W W1 B) {p : Addr} (hp : B p.block ∨ W.heap.size ≤ p.block) (u : Value) : Tn W (W1.setCell p u) B :=
  h.trans (B1 := fun k => k = p.block) ⟨rfl, rfl, rfl, by simp [World.setCell], fun k _ hn => Below.heap_setCell W1 p u k hn⟩ (fun k hk => by rw [hk]; exact hp)
theorem Tn.to_below {w W W' : World} {B : Nat → Prop} (h : Tn W W' B) (hb : Below w.heap.size w W) (hB : ∀ k, B k → w.heap.size ≤ k) : Below w.heap.size w W' :=
  ⟨h.os.trans hb.os, h.tape.trans hb.tape, h.output.trans hb.output, Nat.le_trans hb.size h.size, fun k hk => (h.block k (Nat.lt_of_lt_of_le hk hb.size) (fun hk' => by have := hB k hk'; omega)).trans (hb.block k hk)⟩
theorem Tn.mono {W W' : World} {B B' : Nat → Prop} (h : Tn W W' B) (hB : ∀ k, B k → B' k) : Tn W W' B' := ⟨h.os, h.tape, h.output, h.size, fun k hk hn => h.block k hk (fun hk' => hn (hB k hk'))⟩
def New (W : World) (B : Nat → Prop) : Nat → Prop := fun k => B k ∨ W.heap.size ≤ k

/-- The struct's plain fields written. -/
theorem Hold.fields {W : World} {p lb mb : Nat} {D : DataW Unit} {wb : Nat → Nat} {s : DS} (h : Hold W p lb mb D wb s) (W1 : World) (d : Bool) (f : Int)
    (hp : W1.heap[p]? = some (.cells #[.slice (some ⟨lb, 0, none⟩) (64 * s.n) (64 * s.n), .map (some mb), .bool d, .int .i64 f] 57 (0, 0))) (ho : ∀ k, k ≠ p → W1.heap[k]? = W.heap[k]?) : Hold W1 p lb mb D wb { s with dead := d, fuse := f } := by
  have hl : lb ≠ p := by obtain ⟨cur, q, _⟩ := h.last; exact blk_ne q h.cell (by decide)
  have hm : mb ≠ p := by
    obtain ⟨es, clock, q, _⟩ := h.map
    rintro rfl
    rw [h.cell] at q
    cases q
  have hw : ∀ k, (s.wt k).isSome = true → wb k ≠ p := fun k hk => by
    obtain ⟨f', hf⟩ := Option.isSome_iff_exists.1 hk
    obtain ⟨_, cur, q, _⟩ := h.val k f' hf
    exact blk_ne q h.cell (by decide)
  exact { cell := hp, last := by obtain ⟨cur, q⟩ := h.last; exact ⟨cur, (ho _ hl).trans q.1, q.2⟩, map := owns_step h.map (ho _ hm), has := h.has,
          val := fun k f' hk => by
            obtain ⟨q1, cur, q2, q3⟩ := h.val k f' hk
            exact ⟨q1, cur, (ho _ (hw k (by rw [hk]; rfl))).trans q2, q3⟩
          apart := h.apart, inj := h.inj, lim := h.lim, size := h.size, n1 := h.n1, n2 := h.n2 }
theorem DiskAt.put2 {W : World} {p : Nat} {s : DS} {B : Nat → Prop} (h : DiskAt W p s B) (d : Bool) (f : Int) : DiskAt ((W.setCell ⟨p, 2, none⟩ (.bool d)).setCell ⟨p, 3, none⟩ (.int .i64 f)) p { s with dead := d, fuse := f } B ∧ Tn W ((W.setCell ⟨p, 2, none⟩ (.bool d)).setCell ⟨p, 3, none⟩ (.int .i64 f)) B := by
  obtain ⟨lb, mb, D, wb, hH, h1, h2⟩ := h
  exact ⟨⟨lb, mb, D, wb, hH.fields _ d f (blk_set (blk_set hH.cell 2 _) 3 _) (fun k hk => (Below.heap_setCell _ ⟨p, 3, none⟩ _ k hk).trans (Below.heap_setCell _ ⟨p, 2, none⟩ _ k hk)), h1, h2⟩,
    ((Tn.refl W B).setCell (p := ⟨p, 2, none⟩) (.inl h1) _).setCell (p := ⟨p, 3, none⟩) (.inl h1) _⟩
theorem DiskAt.put1 {W : World} {p : Nat} {s : DS} {B : Nat → Prop} (h : DiskAt W p s B) (f : Int) : DiskAt (W.setCell ⟨p, 3, none⟩ (.int .i64 f)) p { s with fuse := f } B ∧ Tn W (W.setCell ⟨p, 3, none⟩ (.int .i64 f)) B := by
  obtain ⟨lb, mb, D, wb, hH, h1, h2⟩ := h
  exact ⟨⟨lb, mb, D, wb, hH.fields _ s.dead f (blk_set hH.cell 3 _) (fun k hk => Below.heap_setCell _ ⟨p, 3, none⟩ _ k hk), h1, h2⟩, (Tn.refl W B).setCell (p := ⟨p, 3, none⟩) (.inl h1) _⟩

theorem kill_any {W : World} {p : Nat} {s : DS} {B : Nat → Prop} (h : DiskAt W p s B) : Calls Try.prog 14 #[dptr p] W fun e w' => e = .returned (.tuple #[]) ∧ DiskAt w' p { s with dead := true, fuse := -1 } B ∧ Tn W w' B := by
  obtain ⟨lb, mb, hc, _⟩ := h.cells
  have c2 := (blk_cell hc 2).trans rfl
  have c3 := (blk_cell hc 3).trans rfl
  have f2 := blk_frozen hc 2
  have f3 := blk_frozen hc 3
  clear hc
  have H := Aside0.mk (h.put2 true (-1))
  clear h
  go_enter Try.func14, Try.ntmps14
  go_wp2
  go_end0
  exact ⟨rfl, H.out⟩
theorem kill_nil (W : World) : Calls Try.prog 14 #[.pointer none] W fun e w' => e = .returned (.tuple #[]) ∧ w' = W := by
  go_enter Try.func14, Try.ntmps14
  go_wp2
  go_end0
  exact ⟨rfl, rfl⟩
theorem fuse_any {W : World} {p : Nat} {s : DS} {B : Nat → Prop} (h : DiskAt W p s B) (n : Int) : Calls Try.prog 18 #[dptr p, .int .i64 n] W fun e w' => e = .returned (.tuple #[]) ∧ DiskAt w' p { s with fuse := max n (-1) } B ∧ Tn W w' B := by
  obtain ⟨lb, mb, hc, _⟩ := h.cells
  have c3 := (blk_cell hc 3).trans rfl
  have f3 := blk_frozen hc 3
  clear hc
  by_cases hn : n < -1
  · have e : max n (-1) = -1 := by omega
    rw [e]
    have H := Aside0.mk (h.put1 (-1))
    have hn' : n ≤ -1 := by omega
    clear h e
    go_enter Try.func18, Try.ntmps18
    go_wp2
    all_goals first | omega | (go_end0; exact ⟨rfl, H.out⟩)
  · have e : max n (-1) = n := by omega
    rw [e]
    have H := Aside0.mk (h.put1 n)
    have hn' : -1 ≤ n := by omega
    clear h e
    go_enter Try.func18, Try.ntmps18
    go_wp2
    all_goals first | omega | (go_end0; exact ⟨rfl, H.out⟩)
theorem fuse_nil (W : World) (n : Int) : Calls Try.prog 18 #[.pointer none, .int .i64 n] W fun e w' => e = .returned (.tuple #[]) ∧ w' = W := by
  go_enter Try.func18, Try.ntmps18
  go_wp2
  go_end0
  exact ⟨rfl, rfl⟩

/-- The fuse behind a call: the state, and whether the power stays. -/
def DS.burnt (s : DS) : DS := if s.fuse = 0 then { s with dead := true, fuse := -1 } else if 0 < s.fuse then { s with fuse := s.fuse - 1 } else s
theorem burn_any {W : World} {p : Nat} {s : DS} {B : Nat → Prop} (h : DiskAt W p s B) (hf : s.fuse ≤ 9223372036854775807) : Calls Try.prog 28 #[dptr p] W fun e w' => e = .returned (.int .i64 (if s.fuse = 0 then 140 else 0)) ∧ DiskAt w' p s.burnt B ∧ Tn W w' B := by
  obtain ⟨lb, mb, hc, _⟩ := h.cells
  have c3 := (blk_cell hc 3).trans rfl
  have f3 := blk_frozen hc 3
  clear hc
  by_cases h0 : s.fuse = 0
  · have e0 : s.burnt = { s with dead := true, fuse := -1 } := by unfold DS.burnt; rw [if_pos h0]
    have H := Aside0.mk h
    rw [if_pos h0, e0]
    rw [h0] at c3
    clear h e0 h0
    go_enter Try.func28, Try.ntmps28
    go_wp2_with fail
    refine (kill_any H.out).mono ?_
    rintro e w1 ⟨rfl, hD, hT⟩
    have HD := Aside0.mk hD
    have HT := Aside0.mk hT
    clear hD hT
    go_wp2
    go_ret
    exact ⟨rfl, HD.out, HT.out⟩
  · by_cases h1 : 0 < s.fuse
    · have e0 : s.burnt = { s with fuse := s.fuse - 1 } := by unfold DS.burnt; rw [if_neg h0, if_pos h1]
      have H := Aside0.mk (h.put1 (s.fuse - 1))
      have hw : IntKind.i64.wrap (s.fuse - 1) = s.fuse - 1 := by rw [IntKind.wrap_i64]; omega
      rw [if_neg h0, e0]
      clear h e0
      generalize s.fuse = f at *
      go_enter Try.func28, Try.ntmps28
      go_wp2
      go_ret
      exact ⟨rfl, H.out⟩
    · have e0 : s.burnt = s := by unfold DS.burnt; rw [if_neg h0, if_neg h1]
      rw [if_neg h0, e0]
      have H := Aside0.mk h
      clear h e0
      generalize s.fuse = f at *
      go_enter Try.func28, Try.ntmps28
      go_wp2
      go_ret
      exact ⟨rfl, H.out, Tn.refl _ _⟩
def thereB (n : Nat) (a c : Int) : Bool := decide (0 ≤ a) && decide (a ≤ n) && decide (0 ≤ c) && decide (c ≤ n - a)
theorem there_any {W : World} {p : Nat} {s : DS} {B : Nat → Prop} (h : DiskAt W p s B) (a c : Int) : Calls Try.prog 27 #[dptr p, .int .i64 a, .int .i64 c] W fun e w' => e = .returned (.bool (thereB s.n a c)) ∧ w' = W := by
  have H := Aside0.mk h
  have hn := h.cells
  obtain ⟨_, _, _, n1, n2⟩ := hn
  clear h
  unfold thereB
  by_cases h1 : 0 ≤ a
  · by_cases h2 : a ≤ s.n
    · have hw : IntKind.i64.wrap ((s.n : Int) - a) = (s.n : Int) - a := by rw [IntKind.wrap_i64]; omega
      by_cases h3 : 0 ≤ c
      · have t1 : decide (0 ≤ a) = true := decide_eq_true h1
        have t2 : decide (a ≤ s.n) = true := decide_eq_true h2
        have t3 : decide (0 ≤ c) = true := decide_eq_true h3
        rw [t1, t2, t3]
        go_enter Try.func27, Try.ntmps27
        go_wp2_with (first | (go_at_call 24; refine (size_any H.out).mono ?_; rintro e w1 ⟨rfl, rfl⟩))
        go_ret
        exact ⟨by simp, rfl⟩
      · have t3 : decide (0 ≤ c) = false := decide_eq_false h3
        rw [t3]
        go_enter Try.func27, Try.ntmps27
        go_wp2_with (first | (go_at_call 24; refine (size_any H.out).mono ?_; rintro e w1 ⟨rfl, rfl⟩))
        go_ret
        exact ⟨by simp, rfl⟩
    · have t2 : decide (a ≤ s.n) = false := decide_eq_false h2
      rw [t2]
      go_enter Try.func27, Try.ntmps27
      go_wp2_with (first | (go_at_call 24; refine (size_any H.out).mono ?_; rintro e w1 ⟨rfl, rfl⟩))
      go_ret
      exact ⟨by simp, rfl⟩
  · have t1 : decide (0 ≤ a) = false := decide_eq_false h1
    rw [t1]
    go_enter Try.func27, Try.ntmps27
    go_wp2
    go_ret
    exact ⟨by simp, rfl⟩
theorem sector_any {W : World} {p lb mb : Nat} {D : DataW Unit} {wb : Nat → Nat} {s : DS} (h : Hold W p lb mb D wb s) (k : Nat) (hk : k < s.n) : Calls Try.prog 31 #[dptr p, .int .i64 k] W fun e w' => e = .returned (.slice (some ⟨lb, 64 * k, none⟩) 64 (64 * s.n - 64 * k)) ∧ w' = W := by
  have c0 := (blk_cell h.cell 0).trans rfl
  have n2 := h.n2
  clear h
  generalize s.n = n at *
  have w1 : IntKind.i64.wrap ((k : Int) * 64) = (k : Int) * 64 := by rw [IntKind.wrap_i64]; omega
  have w2 : IntKind.i64.wrap ((k : Int) + 1) = (k : Int) + 1 := by rw [IntKind.wrap_i64]; omega
  have w3 : IntKind.i64.wrap (((k : Int) + 1) * 64) = ((k : Int) + 1) * 64 := by rw [IntKind.wrap_i64]; omega
  have b1 : (0 : Int) ≤ (k : Int) * 64 := by omega
  have b2 : (k : Int) * 64 ≤ ((k : Int) + 1) * 64 := by omega
  have b3 : ((k : Int) + 1) * 64 ≤ 64 * (n : Int) := by omega
  have t1 : ((k : Int) * 64).toNat = 64 * k := by omega
  have t2 : (((k : Int) + 1) * 64).toNat = 64 * k + 64 := by omega
  have t3 : 64 * k + 64 - 64 * k = 64 := by omega
  have hne : ¬ 64 * n = 64 * k := by omega
  go_enter Try.func31, Try.ntmps31
  go_wp2
  go_ret
  exact ⟨by simp [*], rfl⟩
theorem waiting_any {W : World} {p : Nat} {s : DS} {B : Nat → Prop} (h : DiskAt W p s B) : Calls Try.prog 22 #[dptr p] W fun e w' => e = .returned (.int .i64 s.cnt) ∧ w' = W := by
  obtain ⟨lb, mb, D, wb, hH, _⟩ := h
  have c1 := (blk_cell hH.cell 1).trans rfl
  have HM := Aside0.mk hH.map
  have hs := hH.size
  clear hH
  go_enter Try.func22, Try.ntmps22
  go_wp2_with (at_len; refine wpList_len_own _ rfl _ 55 rfl 3 30 Try.underlying55 slR mb _ D rfl HM.out ?_)
  go_ret
  exact ⟨rfl, rfl⟩
theorem waiting_nil (W : World) : Calls Try.prog 22 #[.pointer none] W fun e w' => e = .returned (.int .i64 0) ∧ w' = W := by
  go_enter Try.func22, Try.ntmps22
  go_wp2
  go_ret
  exact ⟨rfl, rfl⟩
end Go.Proofs.Ytojpmihgpjmobaa.X
