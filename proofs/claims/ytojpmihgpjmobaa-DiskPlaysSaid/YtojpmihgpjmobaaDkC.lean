/- The disk: slices.Clone, New, Rot. -/
import Derived.Test.YtojpmihgpjmobaaDkB
import Derived.Shelf.Spec.SlicesInsertGrow
import Derived.Lib.SliceRun
import Derived.Lib.Walk
namespace Go.Proofs.Ytojpmihgpjmobaa.X
open Go Go.RowKit Go.Maps Go.Proofs.Ytojpmihgpjmobaa Go.Proofs.YtojpmihgpjmobaaW.PrintWords Go.Proofs.YtojpmihgpjmobaaW.PrintLast Go.Proofs.YtojpmihgpjmobaaW.PrintMore
set_option linter.unusedVariables false
set_option linter.unusedSimpArgs false

/-- n bytes that are read: f. -/
def By (W : World) (A : Option Addr) (n : Nat) (f : Nat → Int) : Prop := n = 0 ∨ ∃ ad : Addr, A = some ad ∧ ∀ i, i < n → W.cell? (ad.add i) = some (.int .u8 (f i))
theorem By.step {W W1 : World} {A : Option Addr} {n : Nat} {f : Nat → Int} (h : By W A n f) (hm : ∀ ad, A = some ad → W1.heap[ad.block]? = W.heap[ad.block]?) : By W1 A n f := by
  rcases h with h | ⟨ad, rfl, h⟩
  · exact .inl h
  · refine .inr ⟨ad, rfl, fun i hi => ?_⟩
    have := hm _ rfl
    rw [← h i hi]
    simp [World.cell?, add_block, this]
theorem By.below {W W1 : World} {A : Option Addr} {n : Nat} {f : Nat → Int} (h : By W A n f) (hb : Below W.heap.size W W1) : By W1 A n f := by
  rcases h with h | ⟨ad, rfl, h⟩
  · exact .inl h
  · exact .inr ⟨ad, rfl, fun i hi => (hb.cell (World.block_lt_of_cell? W _ (h i hi))).trans (h i hi)⟩
theorem By.reads {W : World} {A : Option Addr} {n : Nat} {f : Nat → Int} (h : By W A n f) (hn : n ≤ 9223372036854775807) : (Kd.int .u8).C W A n ((List.range n).map f) := by
  refine ⟨by simp, hn, fun h0 => ?_⟩
  rcases h with h | ⟨ad, rfl, h⟩
  · omega
  · refine ⟨_, rfl, fun j p hj => ?_⟩
    have hjl : j < n := by have := (List.getElem?_eq_some_iff.1 hj).1; simpa using this
    have hp : p = f j := by
      rw [List.getElem?_map, List.getElem?_range hjl] at hj
      exact (Option.some.inj hj).symm
    refine ⟨[.int .u8 p], rfl, rfl, fun i u hu => ?_⟩
    have hi : i = 0 := by have := (List.getElem?_eq_some_iff.1 hu).1; simpa using this
    subst hi
    obtain rfl : .int .u8 p = u := by simpa using hu
    rw [hp]
    have e : j * (Kd.int .u8).sz + 0 = j := by show j * 1 + 0 = j; omega
    rw [e]
    exact h j hjl
theorem By.of_reads {W : World} {A : Option Addr} {n : Nat} {xs : List Int} (h : (Kd.int .u8).C W A n xs) : By W A n (fun i => xs.getD i 0) := by
  rcases Nat.eq_zero_or_pos n with h0 | h0
  · exact .inl h0
  · obtain ⟨ad, rfl, hr⟩ := h.2.2 h0
    have hl := h.1
    refine .inr ⟨ad, rfl, fun i hi => ?_⟩
    obtain ⟨c, hc, hK, hcell⟩ := hr i (xs.getD i 0) (by rw [List.getD_eq_getElem?_getD, List.getElem?_eq_getElem (by omega)]; rfl)
    rw [show c = _ from hK] at hcell
    have := hcell 0 _ rfl
    rwa [show i * (Kd.int .u8).sz + 0 = i by show i * 1 + 0 = i; omega] at this
/-- A row of n bytes of one's own, new since W. -/
def Fresh (W w' : World) (v : Value) (n : Nat) (f : Nat → Int) : Prop :=
  (n = 0 ∧ ∃ A G, v = .slice A 0 G) ∨ ∃ g G cur, v = .slice (some ⟨g, 0, none⟩) n G ∧ n ≤ G ∧ G ≤ 9223372036854775807 ∧ W.heap.size ≤ g ∧ w'.heap[g]? = some (.cells cur 5 (0, 0)) ∧ n ≤ cur.size ∧ ∀ i, i < n → cur[i]? = some (.int .u8 (f i))
theorem fresh_of {W w' : World} {v : Value} {n : Nat} {f : Nat → Int} {ok : Nat → Prop} (h : (Kd.int .u8).R 5 w' W.heap.size ok v ([] ++ (List.range n).map f)) : Fresh W w' v n f := by
  have hl : ([] ++ (List.range n).map f).length = n := by simp
  have hr := h
  obtain ⟨A, c, rfl, hc, hC⟩ := Kd.R_reads h
  obtain ⟨inner, ho⟩ := Kd.R_own hr
  rw [hl] at *
  rcases ho.2 with ⟨he, h0⟩ | ⟨g, cap, cur, he, hb, h2, h3, h4, h5, h6⟩
  · subst h0; exact .inl ⟨rfl, _, _, rfl⟩
  · injection he with e1 e2 e3
    subst e1
    subst e3
    refine .inr ⟨g, c, cur, rfl, hc, by unfold maxLen at h4; omega, hb, h2, by rw [h5]; show n ≤ c * 1; omega, fun i hi => ?_⟩
    obtain ⟨ad, cs, hae, _, hK, hcell⟩ := Kd.C_get hC 0 (i : Int) (by omega) (by omega)
    injection hae with hae
    subst hae
    rw [show cs = _ from hK] at hcell
    have := hcell 0 _ rfl
    rw [Int.toNat_natCast, Addr.add_lit] at this
    have e : 0 + (i * (Kd.int .u8).sz + 0) = i := by show 0 + (i * 1 + 0) = i; omega
    rw [e, blk_cell h2] at this
    rw [this, List.nil_append, List.getD_eq_getElem?_getD, List.getElem?_map, List.getElem?_range hi]
    rfl
set_option maxRecDepth 100000 in
set_option maxHeartbeats 4000000 in
theorem clone_any (A : Option Addr) (n c : Nat) (f : Nat → Int) (W : World) (h : By W A n f) (hn : n ≤ 140737488355328) (hz : A = none → c = 0) : Calls Try.prog 30 #[.slice A n c] W fun e w' => (∃ v, e = .returned v ∧ Fresh W w' v n f) ∧ Below W.heap.size W w' := by
  have q30 : ∀ (w : World) (a : Option Addr) (n c n' c' : Nat), (binOp .eql 30 (.slice a n c) (.slice none n' c')).run Try.prog w = .ok (.bool a.isNone) w := fun w a n c n' c' => Lib.run_eql_slice_nil w _ _ a n c n' c' Try.underlying30
  cases A with
  | none =>
    have h0 : n = 0 := by
      rcases h with h | ⟨b, e, _⟩
      · exact h
      · cases e
    have hc := hz rfl
    subst h0
    subst hc
    clear h hz
    go_enter Try.func30, Try.ntmps30
    go_wp2
    go_ret
    exact ⟨⟨_, rfl, .inl ⟨rfl, _, _, rfl⟩⟩, Below.refl _ _⟩
  | some ad =>
    have HC := Aside0.mk (h.reads (by omega))
    have hB0 : Below W.heap.size W (W.alloc (.cells #[] 5)) := (Below.refl _ _).alloc (Nat.le_refl _) _
    have HR0 := Aside0.mk (show (Kd.int .u8).R 5 (W.alloc (.cells #[] 5)) W.heap.size (fun k => W.heap.size ≤ k) (.slice (some ⟨W.heap.size, 0, none⟩) 0 0) [] from
      ⟨fun k hk => by simp [Value.ownBlock] at hk; omega, [], ⟨rfl, .inr ⟨W.heap.size, 0, #[], rfl, Nat.le_refl _, blk_new _ _, Nat.le_refl _, Nat.zero_le _, rfl, rfl⟩⟩, Reps.none _ _⟩)
    have HB0 := Aside0.mk hB0
    clear h hz hB0
    go_enter Try.func30, Try.ntmps30
    go_wp2_with (refine Kd.R_append_rows (Kd.int .u8) (w0 := W) W.heap.size rfl (.tmp 5) (.tmp 6) 30 5 (.int .u8 0) 1 rfl Try.underlying30 (by kernel_rfl) rfl (by decide) (by decide) (.slice (some ⟨W.heap.size, 0, none⟩) 0 0) [] ((List.range n).map f) (some ad) n c (fun k => W.heap.size ≤ k) (fun _ => False) rfl rfl HR0.out (Kd.C_below HC.out HB0.out) (fun _ _ h => h) (fun _ h => h.elim) (fun k h => Nat.le_trans HB0.out.size h) HB0.out HB0.out.size (by simp; omega) ?_)
    intro v1 w1 hR hB hg hat
    have HF := Aside0.mk (fresh_of hR)
    have HB := Aside0.mk hB
    clear hR hB hg hat
    go_wp2
    go_ret
    exact ⟨⟨_, rfl, HF.out⟩, HB.out⟩
end Go.Proofs.Ytojpmihgpjmobaa.X
