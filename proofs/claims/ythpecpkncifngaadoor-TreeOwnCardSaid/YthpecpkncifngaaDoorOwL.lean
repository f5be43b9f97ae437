/- The law's own lent and kept. -/
import Derived.Test.YthpecpkncifngaaDoorZTreeBegins2
namespace Go.Proofs.YthpecpkncifngaaDoor.X
open Go Go.RowKit Go.Shelf Go.Proofs.YthpecpkncifngaaDoor Go.Proofs.YthpecpkncifngaaDoorW.PrintWords Go.Proofs.YthpecpkncifngaaDoorW.PrintLast Go.Proofs.YthpecpkncifngaaDoorW.PrintMore Go.Proofs.YthpecpkncifngaaDoor.Pure
set_option linter.unusedVariables false
set_option linter.unusedSimpArgs false

def markS : ByteArray := ⟨#[109, 97, 114, 107]⟩
/-- An item whose body has a byte 201 behind it; or the mark behind all. -/
def kLK (w : World) (x : Option S26) (cs : List Value) : Prop :=
  match x with
  | some x => ∃ ad c4, cs = [.string x.f0, .int .u8 x.f1, .int .i64 x.f2, .int .i64 x.f3, .slice (some ad) x.f4.length c4, .string x.f5] ∧ x.f4.length + 1 ≤ c4 ∧ c4 ≤ 9223372036854775807 ∧ (Kd.int .u8).C w (some ad) x.f4.length x.f4 ∧ w.cell? (ad.add x.f4.length) = some (.int .u8 201)
  | none => cs = [.string markS, .int .u8 0, .int .i64 0, .int .i64 0, .slice none 0 0, .string ⟨#[]⟩]
def kL : Kd (Option S26) where
  sz := 6
  E := [5]
  K := kLK
  M := fun _ _ _ _ _ => False
  K_len := by
    intro w x cs h
    cases x with
    | none => rw [show cs = _ from h]; rfl
    | some x => obtain ⟨ad, c4, rfl, _⟩ := h; rfl
  K_one := by
    intro w x cs h u hu
    cases x with
    | none =>
      rw [show cs = _ from h] at hu
      simp only [List.mem_cons, List.not_mem_nil, or_false] at hu
      rcases hu with rfl | rfl | rfl | rfl | rfl | rfl <;> rfl
    | some x =>
      obtain ⟨ad, c4, rfl, _⟩ := h
      simp only [List.mem_cons, List.not_mem_nil, or_false] at hu
      rcases hu with rfl | rfl | rfl | rfl | rfl | rfl <;> rfl
  K_below := by
    intro w w1 x cs hb h
    cases x with
    | none => exact h
    | some x =>
      obtain ⟨ad, c4, e, h1, h2, h3, h4⟩ := h
      exact ⟨ad, c4, e, h1, h2, Kd.C_below h3 hb, (hb.cell (World.block_lt_of_cell? w _ h4)).trans h4⟩
  K_of_M := fun h => h.elim
  M_mono := fun _ h => h
  M_bound := fun h => h
  M_move := fun _ h => h
  M_lower := fun _ h => h
theorem kL_k {w : World} {x : S26} {cs : List Value} (h : kL.K w (some x) cs) : k26.K w x cs := by
  obtain ⟨ad, c4, rfl, h1, h2, h3, h4⟩ := h
  exact k26_mk w x (by omega) h3
/-- What is lent reads as the items. -/
theorem lent_reads {w : World} {A : Option Addr} {xs : List S26} (h : kL.C w A (xs.length + 1) (xs.map some ++ [none])) : k26.C w A xs.length xs := by
  refine ⟨rfl, by have := Kd.C_max h; omega, fun h0 => ?_⟩
  obtain ⟨ad, e, hr⟩ := h.2.2 (by omega)
  refine ⟨ad, e, fun j x hj => ?_⟩
  obtain ⟨c, hl, hk, hc⟩ := hr j (some x) (by rw [List.getElem?_append_left (by rw [List.length_map]; exact (List.getElem?_eq_some_iff.1 hj).1), List.getElem?_map, hj]; rfl)
  exact ⟨c, hl, kL_k hk, hc⟩
theorem C_snoc {w : World} {ad : Addr} {l : List Int} {v : Int} (h : (Kd.int .u8).C w (some ad) (l ++ [v]).length (l ++ [v])) : (Kd.int .u8).C w (some ad) l.length l ∧ w.cell? (ad.add l.length) = some (.int .u8 v) := by
  have hl : (l ++ [v]).length = l.length + 1 := by simp
  constructor
  · have := Kd.C_take h (m := l.length) (by omega)
    rw [List.take_left] at this
    exact this
  · obtain ⟨ad', cs, e, _, hk, hcell⟩ := Kd.C_get h 0 (l.length : Int) (by omega) (by omega)
    obtain rfl := Option.some.inj e
    have hK : cs = [.int .u8 ((l ++ [v]).getD ((l.length : Int)).toNat 0)] := hk
    subst hK
    have := hcell 0 _ rfl
    rw [Int.toNat_natCast, show l.length * (Kd.int .u8).sz + 0 = l.length by show l.length * 1 + 0 = _; omega] at this
    simpa using this

theorem cut_own {w : World} {base e : Nat} {v : Value} {n m : Nat} {xs : List Value} (h : w.ownsRow base e 1 v (n + 1) xs) : ∃ g cap, v = .slice (some ⟨g, 0, none⟩) (n + 1) cap ∧ n + 1 ≤ cap ∧ cap ≤ 9223372036854775807 := by
  rcases h.2 with ⟨_, h0⟩ | ⟨g, cap, cur, he, _, _, h1, h2, _⟩
  · omega
  · exact ⟨g, cap, he, h1, by unfold maxLen at h2; omega⟩
set_option maxRecDepth 100000 in
set_option maxHeartbeats 4000000 in
theorem lent_w (A : Option Addr) (c : Nat) (xs : List S26) (w : World) (hr : Kd.C k26 w A xs.length xs) (hm : xs.length * 80 ≤ 140737488351232) (hb4 : ∀ x ∈ xs, x.f4.length ≤ 140737488351232) :
    Calls Tryd.prog 12 #[.slice A xs.length c] w fun e w' => (∃ A' c', e = .returned (.slice A' xs.length c') ∧ xs.length + 1 ≤ c' ∧ c' ≤ 9223372036854775807 ∧ Kd.F kL w' (fun k => w.heap.size ≤ k) A' (xs.length + 1) (xs.map some ++ [none])) ∧ Below w.heap.size w w' := by
  have HR := Aside0.mk hr
  have H4 := Aside0.mk hb4
  clear hr hb4
  go_enter Tryd.func12, Tryd.ntmps12
  go_wp2
  go_loopw [3, 4] (fun v i wr => ∃ k : Nat, k ≤ xs.length ∧ i = .int .i64 k ∧ Aside0 (Below w.heap.size w wr) ∧ Aside0 (Kd.N kL 26 wr w.heap.size (fun k => w.heap.size ≤ k) v ((xs.map some).take k))) (fun _ i _ => xs.length - (intOf i).toNat)
  case atStart => exact ⟨0, Nat.zero_le _, rfl, ⟨Below.refl _ _⟩, ⟨Kd.N_nil _ _ _ _ _⟩⟩
  case round =>
    obtain ⟨k, hk, rfl, hB, hN⟩ := hrel
    by_cases hlt : k < xs.length
    · obtain ⟨ad, A4, c4, rfl, h0, h1, h2, h3, h4, h5, hl, hr4⟩ := at_it HR.out hB.out k hlt
      have HR4 := Aside0.mk hr4
      have hm4 : (rd_T26 xs k).f4.length ≤ 140737488351232 := H4.out _ (by unfold rd_T26; rw [Int.toNat_natCast, List.getD_eq_getElem?_getD, List.getElem?_eq_getElem hlt]; exact List.getElem_mem hlt)
      clear hr4
      go_wp2_with ((with_reducible refine gate_builtin (b := .append) (xs := #[.tmp 21, .tmp 23]) rfl ?_); at_builtin; refine Kd.R_append_rows (Kd.int .u8) (w0 := wr) wr.heap.size rfl (.tmp 21) (.tmp 23) 24 5 (.int .u8 0) 1 rfl Tryd.underlying24 info5 rfl (by decide) (by decide) (.slice none 0 0) [] (rd_T26 xs k).f4 A4 (rd_T26 xs k).f4.length c4 (fun k => wr.heap.size + 1 ≤ k) (fun _ => False) rfl rfl (Kd.R_nil _ _ _ _ _) (Kd.C_below HR4.out ((Below.refl _ wr).alloc (Nat.le_refl _) _)) (fun _ _ h => h) (fun _ h => h.elim) (fun k h => by simp at h; omega) ((Below.refl _ wr).alloc (Nat.le_refl _) _) (by simp) (by simp; omega) ?_)
      intro v1 w1 hR1 hB1 hg1 hat1
      have k0 : w1.heap[wr.heap.size]? = some (.cells #[.string (rd_T26 xs k).f0, .int .u8 (rd_T26 xs k).f1, .int .i64 (rd_T26 xs k).f2, .int .i64 (rd_T26 xs k).f3, .slice A4 (rd_T26 xs k).f4.length c4, .string (rd_T26 xs k).f5] 26 (0, 0)) := cells_grown (blk_new wr _) hg1
      have HR1 := Aside0.mk hR1
      have HB1 := Aside0.mk hB1
      have K0 := Aside0.mk k0
      have hz1 : wr.heap.size < w1.heap.size := blk_lt k0
      clear hR1 hB1 hg1 hat1 k0 h0 h1 h2 h3 h4 h5
      go_wp2_with ((with_reducible refine gate_builtin (b := .append) (xs := #[.tmp 25, .tmp 26]) rfl ?_); at_builtin; refine Kd.R_append (Kd.int .u8) (w0 := wr) wr.heap.size rfl (.tmp 25) (.tmp 26) 24 5 (.int .u8 0) 1 rfl Tryd.underlying24 info5 rfl (by decide) (by decide) v1 (rd_T26 xs k).f4 201 [.int .u8 201] (fun k => wr.heap.size + 1 ≤ k) (fun _ => False) rfl rfl rfl (fun _ h => h.elim) (fun k h => by omega) HR1.out HB1.out HB1.out.size (by omega) ?_)
      intro v2 w2 hR2 hB2 hg2 hat2
      have k2 : w2.heap[wr.heap.size]? = some (.cells #[.string (rd_T26 xs k).f0, .int .u8 (rd_T26 xs k).f1, .int .i64 (rd_T26 xs k).f2, .int .i64 (rd_T26 xs k).f3, .slice A4 (rd_T26 xs k).f4.length c4, .string (rd_T26 xs k).f5] 26 (0, 0)) := blk_grown K0.out hg2 (fun e => by have : wr.heap.size + 1 ≤ wr.heap.size := HR1.out.1 _ e.symm; omega)
      have hl2 : ((rd_T26 xs k).f4 ++ [(201 : Int)]).length = (rd_T26 xs k).f4.length + 1 := by simp
      obtain ⟨g, cap, hv2, hcap, hcap2⟩ : ∃ g cap, v2 = .slice (some ⟨g, 0, none⟩) ((rd_T26 xs k).f4.length + 1) cap ∧ (rd_T26 xs k).f4.length + 1 ≤ cap ∧ cap ≤ 9223372036854775807 := by
        obtain ⟨inner, ho⟩ := Kd.R_own hR2
        rw [hl2] at ho
        exact cut_own (m := 0) ho
      subst hv2
      have hF2 := Kd.R_F hR2
      have c00 := (blk_cell k2 0).trans rfl
      have c01 := (blk_cell k2 1).trans rfl
      have c02 := (blk_cell k2 2).trans rfl
      have c03 := (blk_cell k2 3).trans rfl
      have c04 := (blk_cell k2 4).trans rfl
      have c05 := (blk_cell k2 5).trans rfl
      have f04 := blk_frozen k2 4
      have HF2 := Aside0.mk hF2
      have HB2 := Aside0.mk hB2
      have HN2 := Aside0.mk (Kd.N_below hN.out hB2)
      have hz2 : wr.heap.size < w2.heap.size := blk_lt k2
      clear hR2 hg2 hat2 hB2 hF2 k2 K0 HR1 HB1 hz1
      have hFK : Kd.FK kL (w2.setCell ⟨wr.heap.size, 4, none⟩ (.slice (some ⟨g, 0, none⟩) (rd_T26 xs k).f4.length cap)) (fun k => wr.heap.size + 1 ≤ k) (some (rd_T26 xs k)) [.string (rd_T26 xs k).f0, .int .u8 (rd_T26 xs k).f1, .int .i64 (rd_T26 xs k).f2, .int .i64 (rd_T26 xs k).f3, .slice (some ⟨g, 0, none⟩) (rd_T26 xs k).f4.length cap, .string (rd_T26 xs k).f5] := by
        have h1 := Kd.F_far HF2.out (p := ⟨wr.heap.size, 4, none⟩) (fun k (hk : wr.heap.size + 1 ≤ k) => by show k ≠ wr.heap.size; omega) (.slice (some ⟨g, 0, none⟩) (rd_T26 xs k).f4.length cap)
        refine Foot.imp h1 (fun W' hC => ?_)
        rw [← hl2] at hC
        obtain ⟨q1, q2⟩ := C_snoc hC
        exact ⟨_, _, rfl, hcap, hcap2, q1, q2⟩
      have HFK := Aside0.mk hFK
      have HBs := Aside0.mk (HB2.out.setCell (p := ⟨wr.heap.size, 4, none⟩) (Nat.le_refl _) (.slice (some ⟨g, 0, none⟩) (rd_T26 xs k).f4.length cap))
      have HNs := Aside0.mk (Kd.N_below hN.out HBs.out)
      have HBw := Aside0.mk (hB.out.trans (HBs.out.mono hB.out.size))
      have hsz : (w2.setCell ⟨wr.heap.size, 4, none⟩ (.slice (some ⟨g, 0, none⟩) (rd_T26 xs k).f4.length cap)).heap.size = w2.heap.size := by simp
      clear hFK
      go_wp2_with ((with_reducible refine gate_builtin (b := .append) (xs := #[.tmp 32, .tmp 34]) rfl ?_); at_builtin; refine Kd.N_append kL (w0 := w) w.heap.size rfl (.tmp 32) (.tmp 34) 22 26 (.agg #[.string ⟨#[]⟩, .int .u8 0, .int .i64 0, .int .i64 0, .slice none 0 0, .string ⟨#[]⟩]) 80 rfl Tryd.underlying22 info26 rfl (by decide) (by decide) _ ((xs.map some).take k) (some (rd_T26 xs k)) [.string (rd_T26 xs k).f0, .int .u8 (rd_T26 xs k).f1, .int .i64 (rd_T26 xs k).f2, .int .i64 (rd_T26 xs k).f3, .slice (some ⟨g, 0, none⟩) (rd_T26 xs k).f4.length cap, .string (rd_T26 xs k).f5] (fun k_ => w.heap.size ≤ k_) (fun k_ => wr.heap.size + 1 ≤ k_) rfl (by rw [hsz]; rfl) HFK.out (fun k_ h => ⟨Nat.le_trans hB.out.size (Nat.le_of_succ_le h), fun e => by have := Kd.N_lt hN.out k_ e.symm; omega⟩) (fun k_ h => by have := hB.out.size; omega) HNs.out HBw.out HBw.out.size (by simp; omega) ?_)
      intro v3 w3 hN3 hB3 hg3 hat3
      have hs : (xs.map some).take k ++ [some (rd_T26 xs k)] = (xs.map some).take (k + 1) := by
        rw [List.take_succ_eq_append_getElem (by rw [List.length_map]; exact hlt)]
        congr 1
        rw [List.getElem_map]
        unfold rd_T26
        rw [Int.toNat_natCast, List.getD_eq_getElem?_getD, List.getElem?_eq_getElem hlt]; rfl
      rw [hs] at hN3
      have HN3 := Aside0.mk hN3
      have HB3 := Aside0.mk hB3
      clear hN3 hB3 hg3 hat3 hs hsz c00 c01 c02 c03 c04 c05 f04
      go_wp2
      go_roundw
      case rel => exact ⟨k + 1, by omega, by go_num, HB3, HN3⟩
      case measure => simp [intOf]; omega
    · obtain rfl : k = xs.length := by omega
      have hN := hN.out
      rw [List.take_of_length_le (by rw [List.length_map]; exact Nat.le_refl _)] at hN
      have hfk : Kd.FK kL wr (fun k_ => wr.heap.size ≤ k_) none [.string ⟨#[109, 97, 114, 107]⟩, .int .u8 0, .int .i64 0, .int .i64 0, .slice none 0 0, .string ⟨#[]⟩] := fun W' _ => rfl
      have HN := Aside0.mk hN
      have HFK := Aside0.mk hfk
      clear hN hfk
      go_wp2_with ((with_reducible refine gate_builtin (b := .append) (xs := #[.tmp 36, .tmp 38]) rfl ?_); at_builtin; refine Kd.N_append kL (w0 := w) w.heap.size rfl (.tmp 36) (.tmp 38) 22 26 (.agg #[.string ⟨#[]⟩, .int .u8 0, .int .i64 0, .int .i64 0, .slice none 0 0, .string ⟨#[]⟩]) 80 rfl Tryd.underlying22 info26 rfl (by decide) (by decide) _ (xs.map some) none [.string ⟨#[109, 97, 114, 107]⟩, .int .u8 0, .int .i64 0, .int .i64 0, .slice none 0 0, .string ⟨#[]⟩] (fun k_ => w.heap.size ≤ k_) (fun k_ => wr.heap.size ≤ k_) rfl rfl HFK.out (fun k_ h => ⟨Nat.le_trans hB.out.size h, fun e => by have := Kd.N_lt HN.out k_ e.symm; omega⟩) (fun k_ h => Nat.le_trans hB.out.size h) HN.out hB.out hB.out.size (by simp; omega) ?_)
      intro v3 w3 hN3 hB3 hg3 hat3
      obtain ⟨A3, c3, rfl, hc3, hc3m⟩ := N_cap hN3
      have hl3 : (xs.map some ++ [(none : Option S26)]).length = xs.length + 1 := by simp
      rw [hl3] at hc3
      have hC := Kd.N_F hN3
      rw [hl3] at hC
      have HC := Aside0.mk hC
      have HB3 := Aside0.mk hB3
      clear hN3 hB3 hg3 hat3 hC
      simp only [hl3]
      clear hl3
      go_wp2
      go_ret
      exact ⟨⟨_, _, rfl, hc3, hc3m, HC.out⟩, HB3.out⟩

theorem at_L {w W : World} {A : Option Addr} {xs : List S26} (h : kL.C w A (xs.length + 1) (xs.map some ++ [none])) (hb : Below w.heap.size w W) (i : Nat) (h1 : i < xs.length) :
    ∃ ad b c4, A = some ad ∧ W.cell? ⟨(ad.add (i * 6)).block, (ad.add (i * 6)).off + 4, none⟩ = some (.slice (some b) (rd_T26 xs i).f4.length c4) ∧ (rd_T26 xs i).f4.length + 1 ≤ c4 ∧ c4 ≤ 9223372036854775807 ∧ W.cell? (b.add (rd_T26 xs i).f4.length) = some (.int .u8 201) := by
  obtain ⟨ad, e, hr⟩ := h.2.2 (by omega)
  have hx : (xs.map some ++ [(none : Option S26)])[i]? = some (some (rd_T26 xs i)) := by
    rw [List.getElem?_append_left (by rw [List.length_map]; exact h1), List.getElem?_map, List.getElem?_eq_getElem h1]
    unfold rd_T26
    rw [Int.toNat_natCast, List.getD_eq_getElem?_getD, List.getElem?_eq_getElem h1]; rfl
  obtain ⟨c, hl, ⟨b, c4, rfl, q1, q2, q3, q4⟩, hc⟩ := hr i _ hx
  have st : ∀ {a : Addr} {v : Value}, w.cell? a = some v → W.cell? a = some v := fun {a v} hv => (hb.cell (World.block_lt_of_cell? w _ hv)).trans hv
  refine ⟨ad, b, c4, e, st ?_, q1, q2, st q4⟩
  rw [← add_field _ _ 4 (by omega)]
  exact hc 4 _ rfl
theorem at_mark {w W : World} {A : Option Addr} {xs : List S26} (h : kL.C w A (xs.length + 1) (xs.map some ++ [none])) (hb : Below w.heap.size w W) :
    ∃ ad, A = some ad ∧ W.cell? (ad.add (xs.length * 6)) = some (.string ⟨#[109, 97, 114, 107]⟩) := by
  obtain ⟨ad, e, hr⟩ := h.2.2 (by omega)
  obtain ⟨c, hl, hk, hc⟩ := hr xs.length none (by rw [List.getElem?_append_right (by simp)]; simp)
  rw [show c = _ from hk] at hc
  have := hc 0 _ rfl
  exact ⟨ad, e, (hb.cell (World.block_lt_of_cell? w _ this)).trans this⟩

set_option maxRecDepth 100000 in
set_option maxHeartbeats 4000000 in
theorem kept_any (A : Option Addr) (c : Nat) (A1 : Option Addr) (c1 : Nat) (xs : List S26) (w : World) (hL : kL.C w A (xs.length + 1) (xs.map some ++ [none])) (hc : xs.length + 1 ≤ c) (hcm : c ≤ 9223372036854775807) (hr1 : Kd.C k26 w A1 xs.length xs) (hc1 : xs.length ≤ c1) (hx : xs.length ≤ 140737488355000) :
    Calls Tryd.prog 17 #[.slice A xs.length c, .slice A1 xs.length c1] w fun e w' => e = .returned (.bool true) ∧ Below w.heap.size w w' := by
  have HL := Aside0.mk hL
  have HR1 := Aside0.mk hr1
  clear hL hr1
  go_enter Tryd.func17, Tryd.ntmps17
  go_wp2
  go_loopw [5] (fun i wr => ∃ k : Nat, k ≤ xs.length ∧ i = .int .i64 k ∧ wr = w) (fun i _ => xs.length - (intOf i).toNat)
  case atStart => exact ⟨0, Nat.zero_le _, rfl, rfl⟩
  case round =>
    obtain ⟨k, hk, rfl, rfl⟩ := hrel
    by_cases hlt : k < xs.length
    · obtain ⟨ad, b, c4, rfl, h4, hq, hqm, hm⟩ := at_L HL.out (Below.refl _ _) k hlt
      go_wp2
      go_roundw
      case rel => exact ⟨k + 1, by omega, by go_num, trivial⟩
      case measure => simp [intOf]; omega
    · obtain rfl : k = xs.length := by omega
      obtain ⟨ad, rfl, hmk⟩ := at_mark HL.out (Below.refl _ _)
      go_wp2_with fail
      refine (same_any _ c A1 c1 xs _ (lent_reads HL.out) (by omega) HR1.out hc1 (by omega)).mono ?_
      rintro e w1 ⟨rfl, hb⟩
      have hmk1 := (hb.cell (World.block_lt_of_cell? _ _ hmk)).trans hmk
      have HB := Aside0.mk hb
      clear hmk hb
      go_wp2
      go_ret
      exact ⟨rfl, HB.out⟩

end Go.Proofs.YthpecpkncifngaaDoor.X
