/- TreeOwn: eight lists side by side, every second of which is written to. No program. -/
import Derived.Test.YthpecpkncifngaaDoorOwF
import Derived.Test.YthpecpkncifngaaDoorOwE
import Derived.Test.YthpecpkncifngaaDoorOwD
import Derived.Test.YthpecpkncifngaaDoorOwB
import Derived.Test.YthpecpkncifngaaDoorOwL
namespace Go.Proofs.YthpecpkncifngaaDoor.X
open Go Go.RowKit Go.Shelf Go.Proofs.YthpecpkncifngaaDoor Go.Proofs.YthpecpkncifngaaDoorW.PrintWords Go.Proofs.YthpecpkncifngaaDoorW.PrintLast Go.Proofs.YthpecpkncifngaaDoorW.PrintMore Go.Proofs.YthpecpkncifngaaDoor.Pure
set_option linter.unusedVariables false
set_option linter.unusedSimpArgs false

theorem insF_mem {α : Type} (lt : α → α → Bool) (z x : α) : ∀ ys : List α, x ∈ So.insF lt z ys → x = z ∨ x ∈ ys
  | [], h => .inl (by simpa [So.insF] using h)
  | y :: ys, h => by
    rw [So.insF] at h
    split at h
    · rcases List.mem_cons.1 h with h | h
      · exact .inr (h ▸ List.mem_cons_self ..)
      · exact (insF_mem lt z x ys h).imp id (List.mem_cons_of_mem _)
    · rcases List.mem_cons.1 h with h | h
      · exact .inl h
      · exact .inr h
theorem isort_mem {α : Type} (lt : α → α → Bool) (x : α) : ∀ xs : List α, x ∈ So.isort lt xs → x ∈ xs
  | [], h => h
  | y :: ys, h => by
    rw [So.isort] at h
    rcases insF_mem lt y x _ h with h | h
    · exact h ▸ List.mem_cons_self ..
    · exact List.mem_cons_of_mem _ (isort_mem lt x ys h)

/-- A list that a call has left: in a row of its own, between two sizes of the heap. -/
structure Li (s e : Nat) (W : World) (A : Option Addr) (l : List S26) : Prop where
  own : ∃ c, Kd.N kW 26 W s (fun k => s ≤ k ∧ k < e) (.slice A l.length c) l
  len : l.length * 80 ≤ 140737488351232
  body : ∀ x ∈ l, x.f4.length ≤ 140737488351232
  le : s ≤ e
theorem Li.step {s e : Nat} {W W1 : World} {A : Option Addr} {l : List S26} (h : Li s e W A l) (hm : ∀ k, s ≤ k ∧ k < e → k < W.heap.size → W1.heap[k]? = W.heap[k]?) : Li s e W1 A l :=
  ⟨h.own.imp (fun c hN => Kd.N_step hN hm), h.len, h.body, h.le⟩
theorem Li.below {s e : Nat} {W W1 : World} {A : Option Addr} {l : List S26} (h : Li s e W A l) (hb : Below W.heap.size W W1) : Li s e W1 A l := h.step (fun k _ hk => hb.block k hk)
theorem Li.mono {s e e' : Nat} {W : World} {A : Option Addr} {l : List S26} (h : Li s e W A l) (he : e ≤ e') : Li s e' W A l :=
  ⟨h.own.imp (fun c hN => Kd.N_mono hN (fun k hk => ⟨hk.1, Nat.lt_of_lt_of_le hk.2 he⟩)), h.len, h.body, Nat.le_trans h.le he⟩
theorem Li.mk_ {w W : World} {A : Option Addr} {c : Nat} {l : List S26} (h : Kd.N kW 26 W w.heap.size (fun k => w.heap.size ≤ k) (.slice A l.length c) l) (hl : l.length * 80 ≤ 140737488351232) (hb : ∀ x ∈ l, x.f4.length ≤ 140737488351232) (hB : Below w.heap.size w W) : Li w.heap.size W.heap.size W A l :=
  ⟨⟨c, Kd.N_mono (Kd.N_bound h) (fun k hk => hk)⟩, hl, hb, hB.size⟩
theorem Li.read {s e : Nat} {W : World} {A : Option Addr} {l : List S26} (h : Li s e W A l) : k26.C W A l.length l := by
  obtain ⟨c, hN⟩ := h.own
  exact C_kW (Kd.N_reads' hN).2.2
theorem WL_mono {W : World} {ok ok' : Nat → Prop} {A : Option Addr} {n k : Nat} (h : WL W ok A n k) (hok : ∀ k, ok k → ok' k) : WL W ok' A n k := by
  rcases h with h | ⟨g, cur, h1, h2, h3, h4, h6⟩
  · exact .inl h
  · refine .inr ⟨g, cur, h1, hok g h2, h3, h4, fun j hk hj => ?_⟩
    obtain ⟨B, l, q1, q2, q3⟩ := h6 j hk hj
    refine ⟨B, l, q1, q2, ?_⟩
    rcases q3 with q3 | ⟨b, cb, q4, q5, q6⟩
    · exact .inl q3
    · exact .inr ⟨b, cb, q4, hok b q5, q6⟩
def okS (s : Nat → Nat) (j : Nat) (k : Nat) : Prop := s j ≤ k ∧ k < s (j + 1)
theorem Li.wl {s : Nat → Nat} {j : Nat} {W : World} {A : Option Addr} {l : List S26} (h : Li (s j) (s (j + 1)) W A l) : WL W (okS s j) A l.length 0 := by
  obtain ⟨c, hN⟩ := h.own
  exact WL_mono (WL_of hN rfl h.body) (fun k hk => hk.1)
def hdr (As : Nat → Option Addr) (Ls : Nat → List S26) (j : Nat) : Value := .slice (As j) (Ls j).length (Ls j).length
theorem all8 {P : Nat → Prop} (h0 : P 0) (h1 : P 1) (h2 : P 2) (h3 : P 3) (h4 : P 4) (h5 : P 5) (h6 : P 6) (h7 : P 7) : ∀ j, j < 8 → P j
  | 0, _ => h0
  | 1, _ => h1
  | 2, _ => h2
  | 3, _ => h3
  | 4, _ => h4
  | 5, _ => h5
  | 6, _ => h6
  | 7, _ => h7
  | n + 8, h => absurd h (by omega)
/-- The eight lists, numbered. -/
theorem pack {W : World} {s0 s1 s2 s3 s4 s5 s6 s7 s8 : Nat} {A0 A1 A2 A3 A4 A5 A6 A7 : Option Addr} {l0 l1 l2 l3 l4 l5 l6 l7 : List S26}
    (h0 : Li s0 s1 W A0 l0) (h1 : Li s1 s2 W A1 l1) (h2 : Li s2 s3 W A2 l2) (h3 : Li s3 s4 W A3 l3) (h4 : Li s4 s5 W A4 l4) (h5 : Li s5 s6 W A5 l5) (h6 : Li s6 s7 W A6 l6) (h7 : Li s7 s8 W A7 l7) :
    ∃ (As : Nat → Option Addr) (Ls : Nat → List S26) (s : Nat → Nat), (∀ j, j < 8 → Li (s j) (s (j + 1)) W (As j) (Ls j)) ∧ s 0 = s0 ∧ s 8 = s8 ∧
      ∀ j, j < 8 → ([.slice A0 l0.length l0.length, .slice A1 l1.length l1.length, .slice A2 l2.length l2.length, .slice A3 l3.length l3.length] ++ [.slice A4 l4.length l4.length, .slice A5 l5.length l5.length, .slice A6 l6.length l6.length, .slice A7 l7.length l7.length] : List Value)[j]? = some (hdr As Ls j) := by
  have key : ∀ j, j < 8 → ([.slice A0 l0.length l0.length, .slice A1 l1.length l1.length, .slice A2 l2.length l2.length, .slice A3 l3.length l3.length] ++ [.slice A4 l4.length l4.length, .slice A5 l5.length l5.length, .slice A6 l6.length l6.length, .slice A7 l7.length l7.length] : List Value)[j]? = some (hdr (fun j => [A0, A1, A2, A3, A4, A5, A6, A7].getD j none) (fun j => [l0, l1, l2, l3, l4, l5, l6, l7].getD j []) j) := all8 rfl rfl rfl rfl rfl rfl rfl rfl
  exact ⟨(fun j => [A0, A1, A2, A3, A4, A5, A6, A7].getD j none), (fun j => [l0, l1, l2, l3, l4, l5, l6, l7].getD j []), fun j => [s0, s1, s2, s3, s4, s5, s6, s7, s8].getD j 0, all8 h0 h1 h2 h3 h4 h5 h6 h7, rfl, rfl, fun j hj => key j hj⟩
theorem s_mono {s : Nat → Nat} (h : ∀ j, j < 8 → s j ≤ s (j + 1)) {a b : Nat} (hab : a ≤ b) (hb : b ≤ 8) : s a ≤ s b := by
  induction b with
  | zero => obtain rfl : a = 0 := by omega
            exact Nat.le_refl _
  | succ b ih =>
    by_cases he : a = b + 1
    · rw [he]; exact Nat.le_refl _
    · exact Nat.le_trans (ih (by omega) (by omega)) (h b (by omega))
theorem okS_lt {s : Nat → Nat} (h : ∀ j, j < 8 → s j ≤ s (j + 1)) {j k : Nat} (hj : j < 8) (hk : okS s j k) : s 0 ≤ k ∧ k < s 8 :=
  ⟨Nat.le_trans (s_mono h (Nat.zero_le j) (by omega)) hk.1, Nat.lt_of_lt_of_le hk.2 (s_mono h (by omega) (Nat.le_refl 8))⟩
theorem okS_eq {s : Nat → Nat} (h : ∀ j, j < 8 → s j ≤ s (j + 1)) {i j k : Nat} (hi : i < 8) (hj : j < 8) (h1 : okS s i k) (h2 : okS s j k) : i = j := by
  rcases Nat.lt_trichotomy i j with hlt | he | hlt
  · have := s_mono h (show i + 1 ≤ j by omega) (by omega)
    have := h1.2; have := h2.1
    omega
  · exact he
  · have := s_mono h (show j + 1 ≤ i by omega) (by omega)
    have := h2.2; have := h1.1
    omega
/-- The blocks that the law writes to: every second list's, and the row of lists. -/
def Sw (ga : Nat) (s : Nat → Nat) (k : Nat) : Prop := k = ga ∨ ∃ j, j < 8 ∧ j % 2 = 0 ∧ okS s j k
/-- From list i on, every second list may be written to; the others' headers stand. -/
structure AllAt (W : World) (ga : Nat) (s : Nat → Nat) (As : Nat → Option Addr) (Ls : Nat → List S26) (i : Nat) : Prop where
  row : ∃ cur, W.heap[ga]? = some (.cells cur 22 (0, 0)) ∧ ∀ j, j < 8 → (j % 2 = 1 ∨ i ≤ j) → cur[j]? = some (hdr As Ls j)
  lists : ∀ j, j < 8 → j % 2 = 0 → i ≤ j → WL W (okS s j) (As j) (Ls j).length 0
theorem AllAt.cell {W W1 : World} {ga i : Nat} {s : Nat → Nat} {As : Nat → Option Addr} {Ls : Nat → List S26} {S : Nat → Prop} (h : AllAt W ga s As Ls i) (hk : Kept W W1 S) (hg : ¬ S ga) {j : Nat} (hj : j < 8) (hi : j % 2 = 1 ∨ i ≤ j) : W1.cell? ⟨ga, j, none⟩ = some (hdr As Ls j) ∧ W1.frozen? ⟨ga, j, none⟩ = false := by
  obtain ⟨cur, h1, h2⟩ := h.row
  have h3 := blk_kept h1 hk hg
  exact ⟨(blk_cell h3 j).trans (h2 j hj hi), blk_frozen h3 j⟩
theorem AllAt.next {Wo Wm Wx : World} {ga i : Nat} {s : Nat → Nat} {As : Nat → Option Addr} {Ls : Nat → List S26} (hm : ∀ j, j < 8 → s j ≤ s (j + 1)) (hga : s 8 ≤ ga) (hi8 : i < 8) (hi2 : i % 2 = 0) (h : AllAt Wo ga s As Ls i) (hk : Kept Wo Wm (okS s i)) (hb : Below Wm.heap.size Wm Wx) (v : Value) :
    AllAt (Wx.setCell ⟨ga, i, none⟩ v) ga s As Ls (i + 2) := by
  obtain ⟨cur, h1, h2⟩ := h.row
  have hng : ¬ okS s i ga := fun hk => by have := (okS_lt hm hi8 hk).2; omega
  have h3 := blk_below (blk_kept h1 hk hng) hb
  refine ⟨⟨_, blk_set h3 i v, fun j hj hij => ?_⟩, fun j hj hj2 hij => ?_⟩
  · rw [Array.getElem?_setIfInBounds_ne (by omega)]
    exact h2 j hj (by omega)
  · refine WL_step (h.lists j hj hj2 (by omega)) (fun k hkj hlt => ?_)
    have hni : ¬ okS s i k := fun hki => by have := okS_eq hm hi8 hj hki hkj; omega
    have hkg : k ≠ ga := by have := (okS_lt hm hj hkj).2; omega
    rw [Below.heap_setCell Wx ⟨ga, i, none⟩ v k hkg, hb.block k (Nat.lt_of_lt_of_le hlt hk.1), hk.2 k hlt hni]
theorem Sw_of {ga i : Nat} {s : Nat → Nat} (hi8 : i < 8) (hi2 : i % 2 = 0) {k : Nat} (h : okS s i k) : Sw ga s k := .inr ⟨i, hi8, hi2, h⟩
/-- The odd lists stay. -/
theorem odd_free {ga i : Nat} {s : Nat → Nat} (hm : ∀ j, j < 8 → s j ≤ s (j + 1)) (hga : s 8 ≤ ga) (hi8 : i < 8) (hi2 : i % 2 = 1) {k : Nat} (h : okS s i k) : ¬ Sw ga s k := by
  rintro (rfl | ⟨j, hj, hj2, hk⟩)
  · have := (okS_lt hm hi8 h).2; omega
  · have := okS_eq hm hi8 hj h hk; omega
theorem old_free {ga : Nat} {s : Nat → Nat} (hm : ∀ j, j < 8 → s j ≤ s (j + 1)) (hga : s 8 ≤ ga) {k : Nat} (h : k < s 0) : ¬ Sw ga s k := by
  rintro (rfl | ⟨j, hj, _, hk⟩)
  · have := s_mono hm (Nat.zero_le 8) (Nat.le_refl 8); omega
  · have := (okS_lt hm hj hk).1; omega
theorem new_free {ga : Nat} {s : Nat → Nat} (hm : ∀ j, j < 8 → s j ≤ s (j + 1)) (hga : s 8 ≤ ga) {k : Nat} (h : ga < k) : ¬ Sw ga s k := by
  rintro (rfl | ⟨j, hj, _, hk⟩)
  · omega
  · have := (okS_lt hm hj hk).2; omega
theorem with_len (xs : List S26) (y : S26) (h4 : ∀ x ∈ xs, x.f4.length ≤ 140737488351232) (hy : y.f4.length ≤ 140737488351232) : (withP xs y).1.length * 80 ≤ 140737488351232 ∧ ∀ x ∈ (withP xs y).1, x.f4.length ≤ 140737488351232 := by
  unfold withP
  split
  · exact ⟨by simp, fun x hx => by simp at hx⟩
  split
  · rename_i h
    refine ⟨by have := (chk_ok h).1; show (insP _ _).length * 80 ≤ _; omega, fun x hx => ?_⟩
    have hx : x ∈ insP (keepP (neP y) xs xs.length) y := hx
    rw [keepP_all] at hx
    unfold insP at hx
    rw [List.mem_append, List.mem_append, List.mem_singleton] at hx
    rcases hx with (hx | rfl) | hx
    · exact h4 x (List.mem_filter.1 (List.mem_of_mem_take hx)).1
    · exact hy
    · exact h4 x (List.mem_filter.1 (List.mem_of_mem_drop hx)).1
  · exact ⟨by simp, fun x hx => by simp at hx⟩
theorem keep_len (p : S26 → Bool) (xs : List S26) (hm : xs.length * 80 ≤ 140737488351232) (h4 : ∀ x ∈ xs, x.f4.length ≤ 140737488351232) : (keepP p xs xs.length).length * 80 ≤ 140737488351232 ∧ ∀ x ∈ keepP p xs xs.length, x.f4.length ≤ 140737488351232 := by
  refine ⟨Nat.le_trans (Nat.mul_le_mul_right 80 (keepP_len p xs xs.length)) hm, fun x hx => ?_⟩
  rw [keepP_all] at hx
  exact h4 x (List.mem_filter.1 hx).1
theorem without_len (xs : List S26) (path : ByteArray) (hm : xs.length * 80 ≤ 140737488351232) (h4 : ∀ x ∈ xs, x.f4.length ≤ 140737488351232) : (withoutP xs path).1.length * 80 ≤ 140737488351232 ∧ ∀ x ∈ (withoutP xs path).1, x.f4.length ≤ 140737488351232 := by
  unfold withoutP
  split
  · exact ⟨by simp, fun x hx => by simp at hx⟩
  split
  · exact ⟨by simp, fun x hx => by simp at hx⟩
  split
  · exact keep_len _ xs hm h4
  · exact ⟨by simp, fun x hx => by simp at hx⟩
theorem sort_len (xs : List S26) (hm : xs.length * 80 ≤ 140737488351232) (h4 : ∀ x ∈ xs, x.f4.length ≤ 140737488351232) : (So.isort ltI xs).length * 80 ≤ 140737488351232 ∧ ∀ x ∈ So.isort ltI xs, x.f4.length ≤ 140737488351232 :=
  ⟨by rw [So.isort_len]; exact hm, fun x hx => h4 x (isort_mem _ x xs hx)⟩
theorem sort_h (A : Option Addr) (c : Nat) (xs : List S26) (w : World) (hr : Kd.C k26 w A xs.length xs) (hm : xs.length * 80 ≤ 140737488351232) (hb4 : ∀ x ∈ xs, x.f4.length ≤ 140737488355328) (hb0 : ∀ x ∈ xs, x.f0.size ≤ 140737488355328) :
    Calls Tryd.prog 29 #[.slice A xs.length c] w fun e w' => (∃ A' c', e = .returned (.slice A' (So.isort ltI xs).length (So.isort ltI xs).length) ∧ Kd.N kW 26 w' w.heap.size (fun k => w.heap.size ≤ k) (.slice A' (So.isort ltI xs).length c') (So.isort ltI xs)) ∧ Below w.heap.size w w' := by
  refine (sort_w A c xs w hr hm hb4 hb0).mono ?_
  rintro e w1 ⟨⟨A', c', rfl, hc', hN⟩, hb⟩
  rw [So.isort_len]
  exact ⟨⟨A', c', rfl, hN⟩, hb⟩
end Go.Proofs.YthpecpkncifngaaDoor.X
