/- The row of the law tabulary/tabularylaw11.TreeWith, where what it reads is of bulk at most 1048576: for every input of that bulk the call returns true, and each argument reads behind the call as it read before. -/
import Derived.Test.YthpecpkncifngaaDoorZTreeWith3
import Derived.Deep.RegionHeld3
import Derived.Test.YthpecpkncifngaaDoorZTreeWith1
import Derived.Shelf.Spec.SlicesInsertGrow
import Derived.Laws.CopyOwn
import Derived.DataElems
import Derived.Deep.LoopGhost
import Derived.Test.YthpecpkncifngaaDoorWMore
import Derived.Test.YthpecpkncifngaaDoorRows
import Derived.ChangeArms
import Derived.DataReads
import Derived.SizedLaws
import Derived.ProofKit
import Derived.Test.YthpecpkncifngaaDoorCards
import Derived.Test.YthpecpkncifngaaDoorTie
import Derived.WalkKit
import Derived.OpenShut
import Derived.ShutString
import Derived.ChangeOld
import Derived.Below
import Derived.JoinedCond
import Derived.Deep.DeepHandedRow
import Derived.Lib.LaidTab
set_option linter.unusedVariables false
set_option linter.unusedSimpArgs false
/- The contracts of the law's own lent and kept: a list in memory of its own, with marks behind it and behind each body. -/
section
namespace Go.Proofs.YthpecpkncifngaaDoor.X
open Go.RowKit Go.Shelf Go.Proofs.YthpecpkncifngaaDoor Go.Proofs.YthpecpkncifngaaDoorW.PrintWords Go.Proofs.YthpecpkncifngaaDoorW.PrintLast Go.Proofs.YthpecpkncifngaaDoorW.PrintMore Go.Proofs.YthpecpkncifngaaDoor.Pure
def markS : ByteArray := ⟨#[109, 97, 114, 107]⟩
def kLK (w : World) (x : Option S26) (cs : List Value) : Prop :=
  match x with
  | some x => ∃ ad c4, cs = [.string x.f0, .int .u8 x.f1, .int .i64 x.f2, .int .i64 x.f3, .slice (some ad) x.f4.length c4, .string x.f5] ∧ x.f4.length + 1 ≤ c4 ∧ c4 ≤ 9223372036854775807 ∧ (Kd.int .u8).C w (some ad) x.f4.length x.f4 ∧ w.cell? (ad.add x.f4.length) = some (.int .u8 201)
  | none => cs = [.string markS, .int .u8 0, .int .i64 0, .int .i64 0, .slice none 0 0, .string ⟨#[]⟩]
def kL : Kd (Option S26) where
  sz := 6
  E := [5]
  K := kLK
  M := fun _ _ _ _ _ => False
  K_len := by
    intro w x cs h
    cases x with
    | none => rw [show cs = _ from h]; rfl
    | some x => obtain ⟨ad, c4, rfl, _⟩ := h; rfl
  K_one := by
    intro w x cs h u hu
    cases x with
    | none =>
      rw [show cs = _ from h] at hu
      simp only [List.mem_cons, List.not_mem_nil, or_false] at hu
      rcases hu with rfl | rfl | rfl | rfl | rfl | rfl <;> rfl
    | some x =>
      obtain ⟨ad, c4, rfl, _⟩ := h
      simp only [List.mem_cons, List.not_mem_nil, or_false] at hu
      rcases hu with rfl | rfl | rfl | rfl | rfl | rfl <;> rfl
  K_below := by
    intro w w1 x cs hb h
    cases x with
    | none => exact h
    | some x =>
      obtain ⟨ad, c4, e, h1, h2, h3, h4⟩ := h
      exact ⟨ad, c4, e, h1, h2, Kd.C_below h3 hb, (hb.cell (World.block_lt_of_cell? w _ h4)).trans h4⟩
  K_of_M := fun h => h.elim
  M_mono := fun _ h => h
  M_bound := fun h => h
  M_move := fun _ h => h
  M_lower := fun _ h => h
theorem kL_k {w : World} {x : S26} {cs : List Value} (h : kL.K w (some x) cs) : k26.K w x cs := by
  obtain ⟨ad, c4, rfl, h1, h2, h3, h4⟩ := h
  exact k26_mk w x (by omega) h3
theorem lent_reads {w : World} {A : Option Addr} {xs : List S26} (h : kL.C w A (xs.length + 1) (xs.map some ++ [none])) : k26.C w A xs.length xs := by
  refine ⟨rfl, by have := Kd.C_max h; omega, fun h0 => ?_⟩
  obtain ⟨ad, e, hr⟩ := h.2.2 (by omega)
  refine ⟨ad, e, fun j x hj => ?_⟩
  obtain ⟨c, hl, hk, hc⟩ := hr j (some x) (by rw [List.getElem?_append_left (by rw [List.length_map]; exact (List.getElem?_eq_some_iff.1 hj).1), List.getElem?_map, hj]; rfl)
  exact ⟨c, hl, kL_k hk, hc⟩
theorem C_snoc {w : World} {ad : Addr} {l : List Int} {v : Int} (h : (Kd.int .u8).C w (some ad) (l ++ [v]).length (l ++ [v])) : (Kd.int .u8).C w (some ad) l.length l ∧ w.cell? (ad.add l.length) = some (.int .u8 v) := by
  have hl : (l ++ [v]).length = l.length + 1 := by simp
  constructor
  · have := Kd.C_take h (m := l.length) (by omega)
    rw [List.take_left] at this
    exact this
  · obtain ⟨ad', cs, e, _, hk, hcell⟩ := Kd.C_get h 0 (l.length : Int) (by omega) (by omega)
    obtain rfl := Option.some.inj e
    have hK : cs = [.int .u8 ((l ++ [v]).getD ((l.length : Int)).toNat 0)] := hk
    subst hK
    have := hcell 0 _ rfl
    rw [Int.toNat_natCast, show l.length * (Kd.int .u8).sz + 0 = l.length by show l.length * 1 + 0 = _; omega] at this
    simpa using this
theorem cut_own {w : World} {base e : Nat} {v : Value} {n m : Nat} {xs : List Value} (h : w.ownsRow base e 1 v (n + 1) xs) : ∃ g cap, v = .slice (some ⟨g, 0, none⟩) (n + 1) cap ∧ n + 1 ≤ cap ∧ cap ≤ 9223372036854775807 := by
  rcases h.2 with ⟨_, h0⟩ | ⟨g, cap, cur, he, _, _, h1, h2, _⟩
  · omega
  · exact ⟨g, cap, he, h1, by unfold maxLen at h2; omega⟩
set_option maxRecDepth 100000 in
set_option maxHeartbeats 4000000 in
theorem lent_any (A : Option Addr) (c : Nat) (xs : List S26) (w : World) (hr : Kd.C k26 w A xs.length xs) (hm : xs.length * 80 ≤ 140737488351232) (hb4 : ∀ x ∈ xs, x.f4.length ≤ 140737488351232) :
    Calls Tryd.prog 12 #[.slice A xs.length c] w fun e w' => (∃ A' c', e = .returned (.slice A' xs.length c') ∧ xs.length + 1 ≤ c' ∧ c' ≤ 9223372036854775807 ∧ kL.C w' A' (xs.length + 1) (xs.map some ++ [none])) ∧ Below w.heap.size w w' := by
  have HR := Aside0.mk hr
  have H4 := Aside0.mk hb4
  clear hr hb4
  go_enter Tryd.func12, Tryd.ntmps12
  go_wp2
  go_loopw [3, 4] (fun v i wr => ∃ k : Nat, k ≤ xs.length ∧ i = .int .i64 k ∧ Aside0 (Below w.heap.size w wr) ∧ Aside0 (Kd.N kL 26 wr w.heap.size (fun k => w.heap.size ≤ k) v ((xs.map some).take k))) (fun _ i _ => xs.length - (intOf i).toNat)
  case atStart => exact ⟨0, Nat.zero_le _, rfl, ⟨Below.refl _ _⟩, ⟨Kd.N_nil _ _ _ _ _⟩⟩
  case round =>
    obtain ⟨k, hk, rfl, hB, hN⟩ := hrel
    by_cases hlt : k < xs.length
    · obtain ⟨ad, A4, c4, rfl, h0, h1, h2, h3, h4, h5, hl, hr4⟩ := at_it HR.out hB.out k hlt
      have HR4 := Aside0.mk hr4
      have hm4 : (rd_T26 xs k).f4.length ≤ 140737488351232 := H4.out _ (by unfold rd_T26; rw [Int.toNat_natCast, List.getD_eq_getElem?_getD, List.getElem?_eq_getElem hlt]; exact List.getElem_mem hlt)
      clear hr4
      go_wp2_with ((with_reducible refine gate_builtin (b := .append) (xs := #[.tmp 21, .tmp 23]) rfl ?_); at_builtin; refine Kd.R_append_rows (Kd.int .u8) (w0 := wr) wr.heap.size rfl (.tmp 21) (.tmp 23) 24 5 (.int .u8 0) 1 rfl Tryd.underlying24 info5 rfl (by decide) (by decide) (.slice none 0 0) [] (rd_T26 xs k).f4 A4 (rd_T26 xs k).f4.length c4 (fun k => wr.heap.size + 1 ≤ k) (fun _ => False) rfl rfl (Kd.R_nil _ _ _ _ _) (Kd.C_below HR4.out ((Below.refl _ wr).alloc (Nat.le_refl _) _)) (fun _ _ h => h) (fun _ h => h.elim) (fun k h => by simp at h; omega) ((Below.refl _ wr).alloc (Nat.le_refl _) _) (by simp) (by simp; omega) ?_)
      intro v1 w1 hR1 hB1 hg1 hat1
      have k0 : w1.heap[wr.heap.size]? = some (.cells #[.string (rd_T26 xs k).f0, .int .u8 (rd_T26 xs k).f1, .int .i64 (rd_T26 xs k).f2, .int .i64 (rd_T26 xs k).f3, .slice A4 (rd_T26 xs k).f4.length c4, .string (rd_T26 xs k).f5] 26 (0, 0)) := cells_grown (blk_new wr _) hg1
      have HR1 := Aside0.mk hR1
      have HB1 := Aside0.mk hB1
      have K0 := Aside0.mk k0
      have hz1 : wr.heap.size < w1.heap.size := blk_lt k0
      clear hR1 hB1 hg1 hat1 k0 h0 h1 h2 h3 h4 h5
      go_wp2_with ((with_reducible refine gate_builtin (b := .append) (xs := #[.tmp 25, .tmp 26]) rfl ?_); at_builtin; refine Kd.R_append (Kd.int .u8) (w0 := wr) wr.heap.size rfl (.tmp 25) (.tmp 26) 24 5 (.int .u8 0) 1 rfl Tryd.underlying24 info5 rfl (by decide) (by decide) v1 (rd_T26 xs k).f4 201 [.int .u8 201] (fun k => wr.heap.size + 1 ≤ k) (fun _ => False) rfl rfl rfl (fun _ h => h.elim) (fun k h => by omega) HR1.out HB1.out HB1.out.size (by omega) ?_)
      intro v2 w2 hR2 hB2 hg2 hat2
      have k2 : w2.heap[wr.heap.size]? = some (.cells #[.string (rd_T26 xs k).f0, .int .u8 (rd_T26 xs k).f1, .int .i64 (rd_T26 xs k).f2, .int .i64 (rd_T26 xs k).f3, .slice A4 (rd_T26 xs k).f4.length c4, .string (rd_T26 xs k).f5] 26 (0, 0)) := blk_grown K0.out hg2 (fun e => by have : wr.heap.size + 1 ≤ wr.heap.size := HR1.out.1 _ e.symm; omega)
      have hl2 : ((rd_T26 xs k).f4 ++ [(201 : Int)]).length = (rd_T26 xs k).f4.length + 1 := by simp
      obtain ⟨g, cap, hv2, hcap, hcap2⟩ : ∃ g cap, v2 = .slice (some ⟨g, 0, none⟩) ((rd_T26 xs k).f4.length + 1) cap ∧ (rd_T26 xs k).f4.length + 1 ≤ cap ∧ cap ≤ 9223372036854775807 := by
        obtain ⟨inner, ho⟩ := Kd.R_own hR2
        rw [hl2] at ho
        exact cut_own (m := 0) ho
      subst hv2
      have hF2 := Kd.R_F hR2
      have c00 := (blk_cell k2 0).trans rfl
      have c01 := (blk_cell k2 1).trans rfl
      have c02 := (blk_cell k2 2).trans rfl
      have c03 := (blk_cell k2 3).trans rfl
      have c04 := (blk_cell k2 4).trans rfl
      have c05 := (blk_cell k2 5).trans rfl
      have f04 := blk_frozen k2 4
      have HF2 := Aside0.mk hF2
      have HB2 := Aside0.mk hB2
      have HN2 := Aside0.mk (Kd.N_below hN.out hB2)
      have hz2 : wr.heap.size < w2.heap.size := blk_lt k2
      clear hR2 hg2 hat2 hB2 hF2 k2 K0 HR1 HB1 hz1
      have hFK : Kd.FK kL (w2.setCell ⟨wr.heap.size, 4, none⟩ (.slice (some ⟨g, 0, none⟩) (rd_T26 xs k).f4.length cap)) (fun k => wr.heap.size + 1 ≤ k) (some (rd_T26 xs k)) [.string (rd_T26 xs k).f0, .int .u8 (rd_T26 xs k).f1, .int .i64 (rd_T26 xs k).f2, .int .i64 (rd_T26 xs k).f3, .slice (some ⟨g, 0, none⟩) (rd_T26 xs k).f4.length cap, .string (rd_T26 xs k).f5] := by
        have h1 := Kd.F_far HF2.out (p := ⟨wr.heap.size, 4, none⟩) (fun k (hk : wr.heap.size + 1 ≤ k) => by show k ≠ wr.heap.size; omega) (.slice (some ⟨g, 0, none⟩) (rd_T26 xs k).f4.length cap)
        refine Foot.imp h1 (fun W' hC => ?_)
        rw [← hl2] at hC
        obtain ⟨q1, q2⟩ := C_snoc hC
        exact ⟨_, _, rfl, hcap, hcap2, q1, q2⟩
      have HFK := Aside0.mk hFK
      have HBs := Aside0.mk (HB2.out.setCell (p := ⟨wr.heap.size, 4, none⟩) (Nat.le_refl _) (.slice (some ⟨g, 0, none⟩) (rd_T26 xs k).f4.length cap))
      have HNs := Aside0.mk (Kd.N_below hN.out HBs.out)
      have HBw := Aside0.mk (hB.out.trans (HBs.out.mono hB.out.size))
      have hsz : (w2.setCell ⟨wr.heap.size, 4, none⟩ (.slice (some ⟨g, 0, none⟩) (rd_T26 xs k).f4.length cap)).heap.size = w2.heap.size := by simp
      clear hFK
      go_wp2_with ((with_reducible refine gate_builtin (b := .append) (xs := #[.tmp 32, .tmp 34]) rfl ?_); at_builtin; refine Kd.N_append kL (w0 := w) w.heap.size rfl (.tmp 32) (.tmp 34) 22 26 (.agg #[.string ⟨#[]⟩, .int .u8 0, .int .i64 0, .int .i64 0, .slice none 0 0, .string ⟨#[]⟩]) 80 rfl Tryd.underlying22 info26 rfl (by decide) (by decide) _ ((xs.map some).take k) (some (rd_T26 xs k)) [.string (rd_T26 xs k).f0, .int .u8 (rd_T26 xs k).f1, .int .i64 (rd_T26 xs k).f2, .int .i64 (rd_T26 xs k).f3, .slice (some ⟨g, 0, none⟩) (rd_T26 xs k).f4.length cap, .string (rd_T26 xs k).f5] (fun k_ => w.heap.size ≤ k_) (fun k_ => wr.heap.size + 1 ≤ k_) rfl (by rw [hsz]; rfl) HFK.out (fun k_ h => ⟨Nat.le_trans hB.out.size (Nat.le_of_succ_le h), fun e => by have := Kd.N_lt hN.out k_ e.symm; omega⟩) (fun k_ h => by have := hB.out.size; omega) HNs.out HBw.out HBw.out.size (by simp; omega) ?_)
      intro v3 w3 hN3 hB3 hg3 hat3
      have hs : (xs.map some).take k ++ [some (rd_T26 xs k)] = (xs.map some).take (k + 1) := by
        rw [List.take_succ_eq_append_getElem (by rw [List.length_map]; exact hlt)]
        congr 1
        rw [List.getElem_map]
        unfold rd_T26
        rw [Int.toNat_natCast, List.getD_eq_getElem?_getD, List.getElem?_eq_getElem hlt]; rfl
      rw [hs] at hN3
      have HN3 := Aside0.mk hN3
      have HB3 := Aside0.mk hB3
      clear hN3 hB3 hg3 hat3 hs hsz c00 c01 c02 c03 c04 c05 f04
      go_wp2
      go_roundw
      case rel => exact ⟨k + 1, by omega, by go_num, HB3, HN3⟩
      case measure => simp [intOf]; omega
    · obtain rfl : k = xs.length := by omega
      have hN := hN.out
      rw [List.take_of_length_le (by rw [List.length_map]; exact Nat.le_refl _)] at hN
      have hfk : Kd.FK kL wr (fun k_ => wr.heap.size ≤ k_) none [.string ⟨#[109, 97, 114, 107]⟩, .int .u8 0, .int .i64 0, .int .i64 0, .slice none 0 0, .string ⟨#[]⟩] := fun W' _ => rfl
      have HN := Aside0.mk hN
      have HFK := Aside0.mk hfk
      clear hN hfk
      go_wp2_with ((with_reducible refine gate_builtin (b := .append) (xs := #[.tmp 36, .tmp 38]) rfl ?_); at_builtin; refine Kd.N_append kL (w0 := w) w.heap.size rfl (.tmp 36) (.tmp 38) 22 26 (.agg #[.string ⟨#[]⟩, .int .u8 0, .int .i64 0, .int .i64 0, .slice none 0 0, .string ⟨#[]⟩]) 80 rfl Tryd.underlying22 info26 rfl (by decide) (by decide) _ (xs.map some) none [.string ⟨#[109, 97, 114, 107]⟩, .int .u8 0, .int .i64 0, .int .i64 0, .slice none 0 0, .string ⟨#[]⟩] (fun k_ => w.heap.size ≤ k_) (fun k_ => wr.heap.size ≤ k_) rfl rfl HFK.out (fun k_ h => ⟨Nat.le_trans hB.out.size h, fun e => by have := Kd.N_lt HN.out k_ e.symm; omega⟩) (fun k_ h => Nat.le_trans hB.out.size h) HN.out hB.out hB.out.size (by simp; omega) ?_)
      intro v3 w3 hN3 hB3 hg3 hat3
      obtain ⟨A3, c3, rfl, hc3, hc3m⟩ := N_cap hN3
      have hl3 : (xs.map some ++ [(none : Option S26)]).length = xs.length + 1 := by simp
      rw [hl3] at hc3
      have hC := (Kd.N_reads' hN3).2.2
      rw [hl3] at hC
      have HC := Aside0.mk hC
      have HB3 := Aside0.mk hB3
      clear hN3 hB3 hg3 hat3 hC
      simp only [hl3]
      clear hl3
      go_wp2
      go_ret
      exact ⟨⟨_, _, rfl, hc3, hc3m, HC.out⟩, HB3.out⟩
set_option maxRecDepth 100000 in
set_option maxHeartbeats 4000000 in
theorem same_any (A : Option Addr) (c : Nat) (A1 : Option Addr) (c1 : Nat) (xs : List S26) (w : World) (hr : Kd.C k26 w A xs.length xs) (hc : xs.length ≤ c) (hr1 : Kd.C k26 w A1 xs.length xs) (hc1 : xs.length ≤ c1) (hx : xs.length ≤ 140737488355328) :
    Calls Tryd.prog 20 #[.slice A xs.length c, .slice A1 xs.length c1] w fun e w' => e = .returned (.bool true) ∧ Below w.heap.size w w' := by
  have HR := Aside0.mk hr
  have HR1 := Aside0.mk hr1
  clear hr hr1
  go_enter Tryd.func20, Tryd.ntmps20
  go_wp2
  go_loopw [5] (fun i wr => ∃ k : Nat, k ≤ xs.length ∧ i = .int .i64 k ∧ Aside0 (Below w.heap.size w wr)) (fun i _ => xs.length - (intOf i).toNat)
  case atStart => exact ⟨0, Nat.zero_le _, rfl, ⟨Below.refl _ _⟩⟩
  case round =>
    obtain ⟨k, hk, rfl, hB⟩ := hrel
    by_cases hlt : k < xs.length
    · obtain ⟨ad, A4, c4, rfl, h0, h1, h2, h3, h4, h5, hl, hr4⟩ := at_it HR.out hB.out k hlt
      obtain ⟨bd, B4, d4, rfl, g0, g1, g2, g3, g4, g5, gl, gr4⟩ := at_it HR1.out hB.out k hlt
      have lt0 := World.block_lt_of_cell? _ _ g0
      have hbx : Below wr.heap.size wr ((wr.alloc (.cells #[.string (rd_T26 xs k).f0, .int .u8 (rd_T26 xs k).f1, .int .i64 (rd_T26 xs k).f2, .int .i64 (rd_T26 xs k).f3, .slice A4 (rd_T26 xs k).f4.length c4, .string (rd_T26 xs k).f5] 26)).alloc (.cells #[.string (rd_T26 xs k).f0, .int .u8 (rd_T26 xs k).f1, .int .i64 (rd_T26 xs k).f2, .int .i64 (rd_T26 xs k).f3, .slice B4 (rd_T26 xs k).f4.length d4, .string (rd_T26 xs k).f5] 26)) := ((Below.refl _ _).alloc (Nat.le_refl _) _).alloc (by simp) _
      have hcv1 := Kd.C_string (P := Tryd.prog) (A := A4) (c := c4) Tryd.underlying24 Tryd.underlying5 Tryd.underlying9 (Kd.C_below hr4 hbx)
      have hcv2 := Kd.C_string (P := Tryd.prog) (A := B4) (c := d4) Tryd.underlying24 Tryd.underlying5 Tryd.underlying9 (Kd.C_below gr4 hbx)
      have HBX := Aside0.mk (hB.out.trans (hbx.mono hB.out.size))
      clear hr4 gr4 hbx
      go_wp2
      go_roundw
      case rel => exact ⟨k + 1, by omega, by go_num, HBX⟩
      case measure => simp [intOf]; omega
    · go_wp2
      go_ret
      exact ⟨rfl, hB.out⟩
theorem at_L {w W : World} {A : Option Addr} {xs : List S26} (h : kL.C w A (xs.length + 1) (xs.map some ++ [none])) (hb : Below w.heap.size w W) (i : Nat) (h1 : i < xs.length) :
    ∃ ad b c4, A = some ad ∧ W.cell? ⟨(ad.add (i * 6)).block, (ad.add (i * 6)).off + 4, none⟩ = some (.slice (some b) (rd_T26 xs i).f4.length c4) ∧ (rd_T26 xs i).f4.length + 1 ≤ c4 ∧ c4 ≤ 9223372036854775807 ∧ W.cell? (b.add (rd_T26 xs i).f4.length) = some (.int .u8 201) := by
  obtain ⟨ad, e, hr⟩ := h.2.2 (by omega)
  have hx : (xs.map some ++ [(none : Option S26)])[i]? = some (some (rd_T26 xs i)) := by
    rw [List.getElem?_append_left (by rw [List.length_map]; exact h1), List.getElem?_map, List.getElem?_eq_getElem h1]
    unfold rd_T26
    rw [Int.toNat_natCast, List.getD_eq_getElem?_getD, List.getElem?_eq_getElem h1]; rfl
  obtain ⟨c, hl, ⟨b, c4, rfl, q1, q2, q3, q4⟩, hc⟩ := hr i _ hx
  have st : ∀ {a : Addr} {v : Value}, w.cell? a = some v → W.cell? a = some v := fun {a v} hv => (hb.cell (World.block_lt_of_cell? w _ hv)).trans hv
  refine ⟨ad, b, c4, e, st ?_, q1, q2, st q4⟩
  rw [← add_field _ _ 4 (by omega)]
  exact hc 4 _ rfl
theorem at_mark {w W : World} {A : Option Addr} {xs : List S26} (h : kL.C w A (xs.length + 1) (xs.map some ++ [none])) (hb : Below w.heap.size w W) :
    ∃ ad, A = some ad ∧ W.cell? (ad.add (xs.length * 6)) = some (.string ⟨#[109, 97, 114, 107]⟩) := by
  obtain ⟨ad, e, hr⟩ := h.2.2 (by omega)
  obtain ⟨c, hl, hk, hc⟩ := hr xs.length none (by rw [List.getElem?_append_right (by simp)]; simp)
  rw [show c = _ from hk] at hc
  have := hc 0 _ rfl
  exact ⟨ad, e, (hb.cell (World.block_lt_of_cell? w _ this)).trans this⟩
set_option maxRecDepth 100000 in
set_option maxHeartbeats 4000000 in
theorem kept_any (A : Option Addr) (c : Nat) (A1 : Option Addr) (c1 : Nat) (xs : List S26) (w : World) (hL : kL.C w A (xs.length + 1) (xs.map some ++ [none])) (hc : xs.length + 1 ≤ c) (hcm : c ≤ 9223372036854775807) (hr1 : Kd.C k26 w A1 xs.length xs) (hc1 : xs.length ≤ c1) (hx : xs.length ≤ 140737488355000) :
    Calls Tryd.prog 17 #[.slice A xs.length c, .slice A1 xs.length c1] w fun e w' => e = .returned (.bool true) ∧ Below w.heap.size w w' := by
  have HL := Aside0.mk hL
  have HR1 := Aside0.mk hr1
  clear hL hr1
  go_enter Tryd.func17, Tryd.ntmps17
  go_wp2
  go_loopw [5] (fun i wr => ∃ k : Nat, k ≤ xs.length ∧ i = .int .i64 k ∧ wr = w) (fun i _ => xs.length - (intOf i).toNat)
  case atStart => exact ⟨0, Nat.zero_le _, rfl, rfl⟩
  case round =>
    obtain ⟨k, hk, rfl, rfl⟩ := hrel
    by_cases hlt : k < xs.length
    · obtain ⟨ad, b, c4, rfl, h4, hq, hqm, hm⟩ := at_L HL.out (Below.refl _ _) k hlt
      go_wp2
      go_roundw
      case rel => exact ⟨k + 1, by omega, by go_num, trivial⟩
      case measure => simp [intOf]; omega
    · obtain rfl : k = xs.length := by omega
      obtain ⟨ad, rfl, hmk⟩ := at_mark HL.out (Below.refl _ _)
      go_wp2_with fail
      refine (same_any _ c A1 c1 xs _ (lent_reads HL.out) (by omega) HR1.out hc1 (by omega)).mono ?_
      rintro e w1 ⟨rfl, hb⟩
      have hmk1 := (hb.cell (World.block_lt_of_cell? _ _ hmk)).trans hmk
      have HB := Aside0.mk hb
      clear hmk hb
      go_wp2
      go_ret
      exact ⟨rfl, HB.out⟩
end Go.Proofs.YthpecpkncifngaaDoor.X
end

/- TreeChecks: the law's walk. -/
section
namespace Go.Proofs.YthpecpkncifngaaDoor.X
open Go.RowKit Go.Shelf Go.Proofs.YthpecpkncifngaaDoor Go.Proofs.YthpecpkncifngaaDoorW.PrintWords Go.Proofs.YthpecpkncifngaaDoorW.PrintLast Go.Proofs.YthpecpkncifngaaDoorW.PrintMore Go.Proofs.YthpecpkncifngaaDoor.Pure
theorem refcheck_any (A : Option Addr) (c : Nat) (xs : List S26) (w : World) (hr : Kd.C k26 w A xs.length xs) (hc : xs.length ≤ c) :
    Calls Tryd.prog 14 #[.slice A xs.length c] w fun e w' => e = .returned (.tuple #[.int .i64 (checkP xs).1, .int .i64 (checkP xs).2]) ∧ Below w.heap.size w w' := by
  obtain ⟨k, hk⟩ := Ev.rounds (refchk_ev xs)
  exact tabularyref11_Check.calls k A c xs _ _ w hr hc hk
end Go.Proofs.YthpecpkncifngaaDoor.X
end

/- The contracts of tree.Beneath, tree.checked, tree.Without. -/
section
namespace Go.Proofs.YthpecpkncifngaaDoor.X
open Go.RowKit Go.Shelf Go.Proofs.YthpecpkncifngaaDoor Go.Proofs.YthpecpkncifngaaDoorW.PrintWords Go.Proofs.YthpecpkncifngaaDoorW.PrintLast Go.Proofs.YthpecpkncifngaaDoorW.PrintMore Go.Proofs.YthpecpkncifngaaDoor.Pure
theorem checked_any (A : Option Addr) (c : Nat) (xs : List S26) (w : World) (hr : Kd.C k26 w A xs.length xs) :
    Calls Tryd.prog 45 #[.slice A xs.length c] w fun e w' => e = .returned (if (checkP xs).2 = 0 then .tuple #[.slice A xs.length c, .int .i64 0] else .tuple #[.slice none 0 0, .int .i64 (checkP xs).2]) ∧ Below w.heap.size w w' := by
  have HR := Aside0.mk hr
  clear hr
  by_cases h : (checkP xs).2 = 0
  · have hd : ((checkP xs).2 != 0) = false := by simpa using h
    rw [if_pos h]
    have H := Lib.hid h
    clear h
    go_enter Tryd.func45, Tryd.ntmps45
    go_wp2_with fail
    refine (check_tree A c xs _ HR.out).mono ?_
    rintro e w1 ⟨rfl, hb⟩
    go_wp2
    go_ret2
    exact ⟨rfl, hb⟩
  · have hd : ((checkP xs).2 != 0) = true := by simpa using h
    rw [if_neg h]
    have H := Lib.hid h
    clear h
    go_enter Tryd.func45, Tryd.ntmps45
    go_wp2_with fail
    refine (check_tree A c xs _ HR.out).mono ?_
    rintro e w1 ⟨rfl, hb⟩
    go_wp2
    go_ret2
    exact ⟨rfl, hb⟩
end Go.Proofs.YthpecpkncifngaaDoor.X
end

/- TreeWithout: the reference's Find and Without, and the law's walk. -/
section
namespace Go.Proofs.YthpecpkncifngaaDoor.X
open Go.RowKit Go.Shelf Go.Proofs.YthpecpkncifngaaDoor Go.Proofs.YthpecpkncifngaaDoorW.PrintWords Go.Proofs.YthpecpkncifngaaDoorW.PrintLast Go.Proofs.YthpecpkncifngaaDoorW.PrintMore Go.Proofs.YthpecpkncifngaaDoor.Pure
theorem at_itF {w W : World} {A : Option Addr} {n : Nat} {xs : List S26} (h : Kd.C k26 w A n xs) (hb : Below w.heap.size w W) (i : Nat) (h1 : i < n) :
    ∃ ad A4 c4, A = some ad ∧ W.cell? (ad.add (i * 6)) = some (.string (rd_T26 xs i).f0) ∧ W.cell? ⟨(ad.add (i * 6)).block, (ad.add (i * 6)).off + 1, none⟩ = some (.int .u8 (rd_T26 xs i).f1) ∧ W.cell? ⟨(ad.add (i * 6)).block, (ad.add (i * 6)).off + 2, none⟩ = some (.int .i64 (rd_T26 xs i).f2) ∧ W.cell? ⟨(ad.add (i * 6)).block, (ad.add (i * 6)).off + 3, none⟩ = some (.int .i64 (rd_T26 xs i).f3) ∧ W.cell? ⟨(ad.add (i * 6)).block, (ad.add (i * 6)).off + 4, none⟩ = some (.slice A4 (rd_T26 xs i).f4.length c4) ∧ W.cell? ⟨(ad.add (i * 6)).block, (ad.add (i * 6)).off + 5, none⟩ = some (.string (rd_T26 xs i).f5) ∧ (rd_T26 xs i).f4.length ≤ c4 ∧ Kd.F (Kd.int .u8) W (fun k => k < w.heap.size) A4 (rd_T26 xs i).f4.length (rd_T26 xs i).f4 := by
  obtain ⟨ad, A4, c4, e, h0, h1', h2, h3, h4, h5, hl, hr⟩ := at_it h (Below.refl _ w) i h1
  have st : ∀ {a : Addr} {v : Value}, w.cell? a = some v → W.cell? a = some v := fun {a v} hv => (hb.cell (World.block_lt_of_cell? w _ hv)).trans hv
  exact ⟨ad, A4, c4, e, st h0, st h1', st h2, st h3, st h4, st h5, hl, Kd.F_below (Kd.C_F (Kd.heap_int _) hr) hb⟩
end Go.Proofs.YthpecpkncifngaaDoor.X
end

/- Copies and appends of wide elements; a row of one's own that reads foreign elements. No program. -/
section
namespace Go.Proofs.YthpecpkncifngaaDoor.X
open Go Go.RowKit Go.Shelf Go.Proofs.YthpecpkncifngaaDoorW.PrintWords
theorem run_copy_wide {P : Program} (w : World) (dT sT ty elem : TypeId) (sz g o dLen dCap : Nat) (sp : Option Addr) (sLen sCap : Nat) (cur : Array Value) (t : TypeId) (cs : List Value)
    (hu : P.underlying dT = some (.slice elem)) (hs : (P.info? elem).map (·.size) = some sz)
    (hg : w.heap[g]? = some (.cells cur t (0, 0))) (hn : cs.length = Nat.min sLen dLen * sz)
    (hsrc : 0 < cs.length → ∃ ad, sp = some ad ∧ ∀ j v, cs[j]? = some v → w.cell? (ad.add j) = some v) (hfit : o + cs.length ≤ cur.size) (h1 : ∀ v ∈ cs, v.oneCell' = true) :
    (Builtin.copy_ #[dT, sT] ty #[.slice (some ⟨g, o, none⟩) dLen dCap, .slice sp sLen sCap]).run P w =
      .ok (goInt (Nat.min sLen dLen)) (w.setRow g (cur.toList.take o ++ cs ++ cur.toList.drop (o + cs.length)).toArray) := by
  have hst := run_storeCells_at P g o t cs 0 cur w hg (by simpa using hfit) h1
  cases hq : P.info? elem with
  | none => simp [hq] at hs
  | some i =>
    have hi : i.size = sz := by simpa [hq] using hs
    by_cases h0 : cs.length = 0
    · obtain rfl : cs = [] := List.eq_nil_of_length_eq_zero h0
      cases sp with
      | none => simp [Builtin.copy_, run_underlying hu, Builtin.lenOf, Builtin.firstCells, sizeOf, typeInfo, hq, hi] at hst ⊢; simp [hst]
      | some ad =>
        have hl := run_loadCells_list (P := P) w ad [] (fun j v h => by cases h)
        have hn' : Nat.min sLen dLen * sz = 0 := by rw [← hn]; rfl
        simp at hl hst
        simp [Builtin.copy_, run_underlying hu, Builtin.lenOf, Builtin.firstCells, sizeOf, typeInfo, hq, hi, hn', hl, hst]
    · obtain ⟨ad, rfl, hc⟩ := hsrc (by omega)
      have hl := run_loadCells_list (P := P) w ad cs hc
      simp [Builtin.copy_, run_underlying hu, Builtin.lenOf, Builtin.firstCells, sizeOf, typeInfo, hq, hi, ← hn, hl, hst]
theorem F_block {α : Type} {d : Kd α} {W : World} {ok : Nat → Prop} {g t : Nat} {cur : Array Value} {inner pad : List Value} {xs : List α} (hb : W.heap[g]? = some (.cells cur t (0, 0))) (hcur : cur.toList = inner ++ pad)
    (hR : Reps (Kd.FK d W ok) d.sz xs inner) (hg : ok g) (hm : xs.length ≤ 9223372036854775807) : Kd.F d W ok (some ⟨g, 0, none⟩) xs.length xs := by
  intro W' hW
  have hgl : g < W.heap.size := by
    rcases Nat.lt_or_ge g W.heap.size with h | h
    · exact h
    · rw [Array.getElem?_eq_none h] at hb; cases hb
  have hb' : W'.heap[g]? = some (.cells cur t (0, 0)) := (hW g hg hgl).trans hb
  refine ⟨rfl, hm, fun hn => ⟨_, rfl, fun j p hj => ?_⟩⟩
  have hjl : j < xs.length := (List.getElem?_eq_some_iff.1 hj).1
  have hk := hR.2 j p hj W' hW
  refine ⟨(inner.drop (j * d.sz)).take d.sz, d.K_len hk, hk, fun i u hu => ?_⟩
  have hi : i < d.sz := by
    have := (List.getElem?_eq_some_iff.1 hu).1
    rw [List.length_take] at this
    omega
  rw [List.getElem?_take_of_lt hi, List.getElem?_drop] at hu
  have ha : (⟨g, 0, none⟩ : Addr).add (j * d.sz + i) = ⟨g, j * d.sz + i, none⟩ := by rw [Addr.add_lit, Nat.zero_add]
  rw [ha, blk_cell hb']
  have : cur.toList[j * d.sz + i]? = some u := by rw [hcur, List.getElem?_append_left (List.getElem?_eq_some_iff.1 hu).1]; exact hu
  simpa using this
theorem F_inner {α : Type} {d : Kd α} {e : Nat} {W : World} {base : Nat} {ok : Nat → Prop} {ad : Addr} {n c : Nat} {xs : List α} (z : α) (h : Kd.V d e W base ok (.slice (some ad) n c) xs) :
    ∃ inner, Reps (Kd.FK d W ok) d.sz xs inner ∧ ∀ j u, inner[j]? = some u → W.cell? (ad.add j) = some u := by
  have hn := (Kd.V_at h).1
  have key : ∀ m, m ≤ xs.length → ∃ inner, Reps (Kd.FK d W ok) d.sz (xs.take m) inner ∧ ∀ j u, inner[j]? = some u → W.cell? (ad.add j) = some u := by
    intro m
    induction m with
    | zero => exact fun _ => ⟨[], Reps.none _ _, fun j u hu => by simp at hu⟩
    | succ m ih =>
      intro hm
      obtain ⟨inner, hr, hc⟩ := ih (by omega)
      obtain ⟨c', hcl, hK, hcc⟩ := Kd.V_get h z (m : Int) (by omega) (by omega)
      rw [Int.toNat_natCast] at hK hcc
      refine ⟨inner ++ c', ?_, fun j u hu => ?_⟩
      · rw [List.take_add_one, List.getElem?_eq_getElem (by omega)]
        refine Reps.snoc hr ?_ hcl
        rw [List.getD_eq_getElem?_getD, List.getElem?_eq_getElem (by omega)] at hK
        exact hK
      · have hil : inner.length = m * d.sz := by rw [hr.1, List.length_take]; congr 1; omega
        rcases Nat.lt_or_ge j inner.length with hj | hj
        · rw [List.getElem?_append_left hj] at hu; exact hc j u hu
        · rw [List.getElem?_append_right hj] at hu
          have := hcc _ u hu
          rwa [hil, show m * d.sz + (j - m * d.sz) = j by omega] at this
  obtain ⟨inner, hr, hc⟩ := key xs.length (Nat.le_refl _)
  rw [List.take_length] at hr
  exact ⟨inner, hr, hc⟩
theorem Reps.append_ {α : Type} {R : α → List Value → Prop} {size : Nat} {ps qs : List α} {cs ds : List Value} (h : Reps R size ps cs) (h' : Reps R size qs ds) : Reps R size (ps ++ qs) (cs ++ ds) := by
  refine ⟨by rw [List.length_append, List.length_append, h.1, h'.1, Nat.add_mul], fun j p hj => ?_⟩
  rcases Nat.lt_or_ge j ps.length with hlt | hge
  · rw [List.getElem?_append_left hlt] at hj
    have := h.2 j p hj
    have h2 : j * size + size ≤ cs.length := by rw [h.1, ← Nat.succ_mul]; exact Nat.mul_le_mul_right _ hlt
    rw [List.drop_append_of_le_length (by omega), List.take_append_of_le_length (by rw [List.length_drop]; omega)]
    exact this
  · rw [List.getElem?_append_right hge] at hj
    have := h'.2 _ p hj
    have e : j * size = cs.length + (j - ps.length) * size := by rw [h.1, ← Nat.add_mul]; congr 1; omega
    rw [e, List.drop_append, List.drop_eq_nil_of_le (by omega), List.nil_append, Nat.add_sub_cancel_left]
    exact this
theorem Reps.take_ {α : Type} {R : α → List Value → Prop} {size : Nat} {ps : List α} {cs : List Value} (h : Reps R size ps cs) (i : Nat) (hi : i ≤ ps.length) : Reps R size (ps.take i) (cs.take (i * size)) := by
  refine ⟨by rw [List.length_take, List.length_take, h.1, Nat.min_eq_left hi, Nat.min_eq_left (Nat.mul_le_mul_right _ hi)], fun j p hj => ?_⟩
  have hji : j < i := by have := (List.getElem?_eq_some_iff.1 hj).1; rw [List.length_take] at this; omega
  rw [List.getElem?_take_of_lt hji] at hj
  have := h.2 j p hj
  have h2 : j * size + size ≤ i * size := by rw [← Nat.succ_mul]; exact Nat.mul_le_mul_right _ hji
  rw [List.drop_take, List.take_take, Nat.min_eq_left (by omega)]
  exact this
theorem Reps.drop_ {α : Type} {R : α → List Value → Prop} {size : Nat} {ps : List α} {cs : List Value} (h : Reps R size ps cs) (i : Nat) (hi : i ≤ ps.length) : Reps R size (ps.drop i) (cs.drop (i * size)) := by
  refine ⟨by rw [List.length_drop, List.length_drop, h.1, Nat.sub_mul], fun j p hj => ?_⟩
  rw [List.getElem?_drop] at hj
  have := h.2 _ p hj
  rw [Nat.add_mul] at this
  rw [List.drop_drop]
  exact this
theorem Reps.single_ {α : Type} {R : α → List Value → Prop} {size : Nat} {p : α} {c : List Value} (hp : R p c) (hc : c.length = size) : Reps R size [p] c := by
  have := Reps.snoc (Reps.none R size) hp hc
  simpa using this
theorem Reps.one_ {α : Type} {d : Kd α} {W : World} {ok : Nat → Prop} {xs : List α} {inner : List Value} (h : Reps (Kd.FK d W ok) d.sz xs inner) : ∀ v ∈ inner, v.oneCell' = true := by
  intro v hv
  obtain ⟨k, hk, rfl⟩ := List.getElem_of_mem hv
  have hs : 0 < d.sz := by
    rcases Nat.eq_zero_or_pos d.sz with h0 | h0
    · have := h.1; rw [h0, Nat.mul_zero] at this; omega
    · exact h0
  have hkl : k / d.sz < xs.length := by rw [Nat.div_lt_iff_lt_mul hs, ← h.1]; exact hk
  have hK := Kd.FK_now (h.2 (k / d.sz) _ (List.getElem?_eq_getElem hkl))
  refine d.K_one hK _ ?_
  refine List.mem_iff_getElem?.2 ⟨k % d.sz, ?_⟩
  rw [List.getElem?_take_of_lt (Nat.mod_lt _ hs), List.getElem?_drop, Nat.mul_comm, Nat.div_add_mod]
  exact List.getElem?_eq_getElem hk
end Go.Proofs.YthpecpkncifngaaDoor.X
end

/- The contracts of slices.Insert (of one item, into a row without room), tree.byPath, slices.BinarySearchFunc, tree.With. -/
section
namespace Go.Proofs.YthpecpkncifngaaDoor.X
open Go Go.RowKit Go.Shelf Go.Proofs.YthpecpkncifngaaDoor Go.Proofs.YthpecpkncifngaaDoorW.PrintWords Go.Proofs.YthpecpkncifngaaDoorW.PrintLast Go.Proofs.YthpecpkncifngaaDoorW.PrintMore Go.Proofs.YthpecpkncifngaaDoor.Pure
def zIt : Value := .agg #[.string ⟨#[]⟩, .int .u8 0, .int .i64 0, .int .i64 0, .slice none 0 0, .string ⟨#[]⟩]
theorem zero_size (n : Nat) : (Builtin.zeroCells zIt.cells n).size = n * 6 := by
  simp [Builtin.zeroCells, Value.cells, zIt]
set_option maxRecDepth 100000 in
set_option maxHeartbeats 4000000 in
theorem insert_any (A : Option Addr) (i : Nat) (vd : Addr) (xs : List S26) (x : S26) (c : List Value) (base : Nat) (ok : Nat → Prop) (w : World)
    (hV : Kd.V k26 26 w base ok (.slice A xs.length xs.length) xs) (hx : Kd.FK k26 w ok x c) (hcv : ∀ j u, c[j]? = some u → w.cell? (vd.add j) = some u)
    (hi : i ≤ xs.length) (hm : (xs.length + 1) * 80 ≤ 140737488355328) :
    Calls Tryd.prog 55 #[.slice A xs.length xs.length, .int .i64 i, .slice (some vd) 1 1] w fun e w' => (∃ g G, e = .returned (.slice (some ⟨g, 0, none⟩) (xs.length + 1) G) ∧ xs.length + 1 ≤ G ∧ G ≤ 9223372036854775807 ∧ Kd.F k26 w' (fun k => ok k ∨ w.heap.size ≤ k) (some ⟨g, 0, none⟩) (xs.length + 1) (xs.take i ++ [x] ++ xs.drop i)) ∧ Below w.heap.size w w' := by
  obtain ⟨i0, hi0, hz0, hzs, hzb⟩ := info_parts info26
  have hsz : (Tryd.prog.info? 26).map (·.size) = some 6 := by rw [hi0]; simp [hzs]
  have hcl : c.length = 6 := k26.K_len (Kd.FK_now hx)
  have hc1 : ∀ v ∈ c, v.oneCell' = true := k26.K_one (Kd.FK_now hx)
  have hvw : vd.block < w.heap.size := World.block_lt_of_cell? w _ (by have := hcv 0 _ (List.getElem?_eq_getElem (by omega)); exact this)
  obtain ⟨inner, hR, hrd⟩ : ∃ inner, Reps (Kd.FK k26 w ok) 6 xs inner ∧ (0 < inner.length → ∃ ad, A = some ad ∧ ∀ j u, inner[j]? = some u → w.cell? (ad.add j) = some u) := by
    cases A with
    | none =>
      have h0 : xs.length = 0 := by
        rcases Nat.eq_zero_or_pos xs.length with h | h
        · exact h
        · obtain ⟨ad, e, _⟩ := (Kd.V_reads' hV).2.2.2.2 h; cases e
      obtain rfl : xs = [] := List.eq_nil_of_length_eq_zero h0
      exact ⟨[], Reps.none _ _, fun h => by simp at h⟩
    | some ad =>
      obtain ⟨inner, hR, hc⟩ := F_inner (⟨⟨#[]⟩, 0, 0, 0, [], ⟨#[]⟩⟩ : S26) hV
      exact ⟨inner, hR, fun _ => ⟨ad, rfl, hc⟩⟩
  have hil : inner.length = xs.length * 6 := hR.1
  have h1i : ∀ v ∈ inner, v.oneCell' = true := Reps.one_ (d := k26) hR
  have hold : ∀ m, m ≤ xs.length → (Builtin.firstCells i0.size m (.slice A m xs.length)).run Tryd.prog w.drew = .ok (inner.take (m * 6)).toArray w.drew := fun m hm => by
    rw [hzs]
    rcases Nat.eq_zero_or_pos m with h0 | h0
    · subst h0
      cases A with
      | none => rw [run_firstCells_none]; simp
      | some ad => exact run_firstCells_some w.drew 6 0 ad 0 _ (inner.take (0 * 6)) (by simp) (fun j v hj => by simp at hj)
    · obtain ⟨ad, rfl, hc⟩ := hrd (by omega)
      exact run_firstCells_some w.drew 6 m ad m _ (inner.take (m * 6)) (by rw [List.length_take]; omega) (fun j v hj => by
        rw [List.getElem?_take] at hj
        split at hj
        · exact hc j v hj
        · cases hj)
  obtain ⟨G, hG⟩ : ∃ G, G = grownCap w (xs.length + 1) xs.length 26 := ⟨_, rfl⟩
  have hGn : xs.length + 1 ≤ G := by rw [hG]; exact grownCap_ge w _ _ _
  have hG63 : G ≤ 9223372036854775807 := by
    have := grownCap_le_maxLen w (xs.length + 1) xs.length 26 (by unfold maxLen; omega)
    rw [← hG] at this
    unfold maxLen at this
    omega
  have hfr : w.heap.size < (w.drew.alloc (.cells #[] 0)).heap.size := by simp
  by_cases hin : i = xs.length
  · subst hin
    obtain ⟨W1, cur, pad, hW1, hB1, hcur, hrz⟩ : ∃ W1 cur pad, W1.heap[w.heap.size]? = some (.cells cur 26 (0, 0)) ∧ Below w.heap.size w W1 ∧ cur.toList = (inner ++ c) ++ pad ∧ ∀ ty, (Builtin.append_ #[22, 22] ty #[.slice A xs.length xs.length, .slice (some vd) 1 1]).run Tryd.prog w = .ok (.slice (some ⟨w.heap.size, 0, none⟩) (xs.length + 1) G) W1 := by
      refine ⟨w.drew.alloc (.cells ((inner ++ c).toArray ++ Builtin.zeroCells zIt.cells (G - (xs.length + 1))) 26), _, (Builtin.zeroCells zIt.cells (G - (xs.length + 1))).toList, blk_new w.drew _, (below_drew (Below.refl _ _)).alloc (by simp) _, by simp, fun ty => ?_⟩
      rw [hG]
      have hs : Src Tryd.prog i0.size 22 (.slice (some vd) 1 1) 1 c w := Src.ofSlice w Tryd.underlying22 vd 1 1 c (by rw [hzs]; omega) hcv hc1
      have := run_append_grow_src w 22 22 ty 26 i0 _ Tryd.underlying22 hi0 hz0 A xs.length xs.length inner (by have := hold xs.length (Nat.le_refl _); rwa [List.take_of_length_le (by omega)] at this) (.slice (some vd) 1 1) 1 c hs (by omega) (by omega) (by rw [hzb]; exact growslice_fits (by omega) hm)
      exact this
    have HF := Aside0.mk (show Kd.F k26 W1 (fun k => ok k ∨ w.heap.size ≤ k) (some ⟨w.heap.size, 0, none⟩) (xs ++ [x]).length (xs ++ [x]) from F_block hW1 hcur (Reps.append_ (hR.imp_ (fun p c hp => Kd.FK_mono (Kd.FK_below hp hB1) (fun k hk => .inl hk))) (Reps.single_ (Kd.FK_mono (Kd.FK_below hx hB1) (fun k hk => .inl hk)) hcl)) (.inr (Nat.le_refl _)) (by rw [List.length_append, List.length_singleton]; omega))
    have HB := Aside0.mk hB1
    clear hold hrd hR h1i hcv hx hV hcur hW1 hB1 hG hfr
    go_enter Tryd.func55, Tryd.ntmps55
    go_wp2_with (at_builtin; refine Lib.wpList_append_run _ rfl _ _ _ _ rfl _ _ rfl rfl _ _ (hrz _) ?_)
    go_ret
    refine ⟨⟨w.heap.size, G, rfl, hGn, hG63, ?_⟩, HB.out⟩
    have := HF.out
    rw [List.length_append, List.length_singleton] at this
    rw [List.take_length, List.drop_length, List.append_nil]
    exact this
  · have hlt : i < xs.length := by omega
    obtain ⟨ad, rfl, hc⟩ := hrd (by omega)
    have hbw : ad.block < w.heap.size := World.block_lt_of_cell? w _ (hc 0 _ (List.getElem?_eq_getElem (by omega)))
    obtain ⟨W1, cur1, Z, hW1, hB1, hcur1, hZ, hrz⟩ : ∃ W1 cur1 Z, W1.heap[w.heap.size]? = some (.cells cur1 26 (0, 0)) ∧ Below w.heap.size w W1 ∧ cur1.toList = inner.take (i * 6) ++ Z ∧ (xs.length + 1 - i) * 6 ≤ Z.length ∧ ∀ ty, (Builtin.append_ #[22, 3] ty #[.slice (some ad) i xs.length, .int .i64 ((xs.length : Int) + 1 - (i : Int))]).run Tryd.prog w = .ok (.slice (some ⟨w.heap.size, 0, none⟩) (xs.length + 1) G) W1 := by
      refine ⟨w.drew.alloc (.cells ((inner.take (i * 6)).toArray ++ Builtin.zeroCells zIt.cells (xs.length + 1 - i) ++ Builtin.zeroCells zIt.cells (G - (xs.length + 1))) 26), _, (Builtin.zeroCells zIt.cells (xs.length + 1 - i)).toList ++ (Builtin.zeroCells zIt.cells (G - (xs.length + 1))).toList, blk_new w.drew _, (below_drew (Below.refl _ _)).alloc (by simp) _, by simp, by have z1 := zero_size (xs.length + 1 - i); rw [← Array.length_toList] at z1; rw [List.length_append]; omega, fun ty => ?_⟩
      rw [hG]
      have hik : i + (xs.length + 1 - i) = xs.length + 1 := by omega
      have h := Lib.run_append_grow_zeros w 22 3 ty 26 i0 _ .i64 .i64 Tryd.underlying22 Tryd.underlying3 hi0 hz0 (some ad) i xs.length (inner.take (i * 6)) (by
        rw [hzs]
        exact run_firstCells_some w.drew 6 i ad i _ (inner.take (i * 6)) (by rw [List.length_take]; omega) (fun j v hj => by
          rw [List.getElem?_take] at hj
          split at hj
          · exact hc j v hj
          · cases hj)) (xs.length + 1 - i) (by omega) (by omega) (by omega) (by omega) (by rw [hzb]; omega) (by rw [hzb, hik]; exact growslice_fits (by omega) hm)
      rw [hik] at h
      rw [show (xs.length : Int) + 1 - (i : Int) = ((xs.length + 1 - i : Nat) : Int) by omega]
      exact h
    have hil2 : (inner.take (i * 6)).length = i * 6 := by rw [List.length_take]; omega
    -- the one copied
    obtain ⟨W2, cur2, hW2, hB2, hcur2, hcpA⟩ : ∃ W2 cur2, W2.heap[w.heap.size]? = some (.cells cur2 26 (0, 0)) ∧ Below w.heap.size w W2 ∧ cur2.toList = inner.take (i * 6) ++ c ++ Z.drop 6 ∧ ∀ ty dc, (Builtin.copy_ #[22, 22] ty #[.slice (some ⟨w.heap.size, i * 6, none⟩) (xs.length + 1 - i) dc, .slice (some vd) 1 1]).run Tryd.prog W1 = .ok (.int .i64 1) W2 := by
      have hmin : Nat.min 1 (xs.length + 1 - i) = 1 := by simp only [Nat.min_def]; split <;> omega
      have hfit : i * 6 + c.length ≤ cur1.size := by rw [← Array.length_toList, hcur1, List.length_append]; omega
      refine ⟨W1.setRow w.heap.size (cur1.toList.take (i * 6) ++ c ++ cur1.toList.drop (i * 6 + c.length)).toArray, _, setRow_heap W1 w.heap.size cur1 _ _ _ hW1, below_setRow hB1 (Nat.le_refl _) _, ?_, fun ty dc => ?_⟩
      · rw [hcur1, List.take_append_of_le_length (by omega), List.take_of_length_le (by omega), List.drop_append, List.drop_eq_nil_of_le (by omega), List.nil_append, hil2, hcl]
        simp
      · have := run_copy_wide W1 22 22 ty 26 6 w.heap.size (i * 6) (xs.length + 1 - i) dc (some vd) 1 1 cur1 26 c Tryd.underlying22 hsz hW1 (by rw [hmin]; omega) (fun _ => ⟨vd, rfl, fun j v hj => (hB1.cell (World.block_lt_of_cell? w _ (hcv j v hj))).trans (hcv j v hj)⟩) hfit hc1
        rw [hmin] at this
        exact this
    obtain ⟨W3, cur3, pad, hW3, hB3, hcur3, hcpB⟩ : ∃ W3 cur3 pad, W3.heap[w.heap.size]? = some (.cells cur3 26 (0, 0)) ∧ Below w.heap.size w W3 ∧ cur3.toList = (inner.take (i * 6) ++ c ++ inner.drop (i * 6)) ++ pad ∧ ∀ ty dc sc, (Builtin.copy_ #[22, 22] ty #[.slice (some ⟨w.heap.size, (i + 1) * 6, none⟩) (xs.length + 1 - (i + 1)) dc, .slice (some (ad.add (i * 6))) (xs.length - i) sc]).run Tryd.prog W2.drew = .ok (.int .i64 ((xs.length - i : Nat) : Int)) W3 := by
      have hmin : Nat.min (xs.length - i) (xs.length + 1 - (i + 1)) = xs.length - i := by simp only [Nat.min_def]; split <;> omega
      have hdl : (inner.drop (i * 6)).length = (xs.length - i) * 6 := by rw [List.length_drop]; omega
      have hfit : (i + 1) * 6 + (inner.drop (i * 6)).length ≤ cur2.size := by rw [← Array.length_toList, hcur2]; simp only [List.length_append, List.length_drop]; omega
      refine ⟨W2.drew.setRow w.heap.size (cur2.toList.take ((i + 1) * 6) ++ inner.drop (i * 6) ++ cur2.toList.drop ((i + 1) * 6 + (inner.drop (i * 6)).length)).toArray, _, cur2.toList.drop ((i + 1) * 6 + (inner.drop (i * 6)).length), setRow_heap W2.drew w.heap.size cur2 _ _ _ hW2, below_setRow (below_drew hB2) (Nat.le_refl _) _, ?_, fun ty dc sc => ?_⟩
      · rw [show cur2.toList.take ((i + 1) * 6) = inner.take (i * 6) ++ c by rw [hcur2, List.take_append_of_le_length (by rw [List.length_append]; omega), List.take_of_length_le (by rw [List.length_append]; omega)]]
      · have := run_copy_wide W2.drew 22 22 ty 26 6 w.heap.size ((i + 1) * 6) (xs.length + 1 - (i + 1)) dc (some (ad.add (i * 6))) (xs.length - i) sc cur2 26 (inner.drop (i * 6)) Tryd.underlying22 hsz hW2 (by rw [hmin]; exact hdl) (fun _ => ⟨_, rfl, fun j v hj => by
          rw [List.getElem?_drop] at hj
          have h := hc _ v hj
          rw [Addr.add_add]
          refine ((below_drew hB2).cell ?_).trans h
          exact World.block_lt_of_cell? w _ h⟩) hfit (fun v hv => h1i v (List.mem_of_mem_drop hv))
        rw [hmin] at this
        exact this
    have mv : ∀ {p : S26} {c : List Value}, Kd.FK k26 w ok p c → Kd.FK k26 W3 (fun k => ok k ∨ w.heap.size ≤ k) p c := fun h => Kd.FK_mono (Kd.FK_below h hB3) (fun k hk => .inl hk)
    have HF := Aside0.mk (show Kd.F k26 W3 (fun k => ok k ∨ w.heap.size ≤ k) (some ⟨w.heap.size, 0, none⟩) (xs.take i ++ [x] ++ xs.drop i).length (xs.take i ++ [x] ++ xs.drop i) from F_block hW3 hcur3 (Reps.append_ (Reps.append_ (Reps.take_ (hR.imp_ (fun p c hp => mv hp)) i hi) (Reps.single_ (mv hx) hcl)) (Reps.drop_ (hR.imp_ (fun p c hp => mv hp)) i hi)) (.inr (Nat.le_refl _)) (by simp; omega))
    have HB := Aside0.mk hB3
    clear hold hR h1i hcv hx hV hcur1 hW1 hB1 hG hfr hcur2 hW2 hB2 hcur3 hW3 hB3 mv hrd hc hZ
    go_enter Tryd.func55, Tryd.ntmps55
    go_wp2_with (first
      | (at_builtin; refine Lib.wpList_append_run _ rfl _ _ _ _ rfl _ _ rfl rfl _ _ (hrz _) ?_)
      | (at_builtin; refine wpList_copy_runI _ rfl _ _ 22 22 rfl _ _ rfl rfl (hcpA _ _) ?_))
    have hw1 : IntKind.i64.wrap ((i : Int) + 1) = (i : Int) + 1 := by rw [IntKind.wrap_i64]; omega
    have hb1 : (0 : Int) ≤ (i : Int) + 1 := by omega
    have htn : ((i : Int) + 1).toNat = i + 1 := by omega
    have hb2 : (i : Int) + 1 ≤ (xs.length : Int) + 1 := by omega
    have hb3 : (i : Int) ≤ (xs.length : Int) := by omega
    have hci : ¬ (xs.length = i) := by omega
    have hGim : ¬ (G = i + 1) := by omega
    have mixed : Tryd.prog.follows Departure.mixedOrders = true := by kernel_rfl
    go_region_law_o (refine step_copy_runI rfl _ _ 22 22 rfl (.slice (some ⟨w.heap.size, (i + 1) * 6, none⟩) (xs.length + 1 - (i + 1)) (G - (i + 1))) (.slice (some (ad.add (i * 6))) (xs.length - i) (xs.length - i)) (by simp [Act.eval, Act.put]) (by simp [Act.eval, Act.put]) (hcpB 3 (G - (i + 1)) (xs.length - i)) ?_)
    go_wp2
    go_ret
    refine ⟨⟨w.heap.size, G, rfl, hGn, hG63, ?_⟩, HB.out⟩
    have := HF.out
    rw [show (xs.take i ++ [x] ++ xs.drop i).length = xs.length + 1 by simp; omega] at this
    exact this
end Go.Proofs.YthpecpkncifngaaDoor.X
end

/- The contracts of tree.byPath, slices.BinarySearchFunc. -/
section
namespace Go.Proofs.YthpecpkncifngaaDoor.X
open Go Go.RowKit Go.Shelf Go.Proofs.YthpecpkncifngaaDoor Go.Proofs.YthpecpkncifngaaDoorW.PrintWords Go.Proofs.YthpecpkncifngaaDoorW.PrintLast Go.Proofs.YthpecpkncifngaaDoorW.PrintMore Go.Proofs.YthpecpkncifngaaDoor.Pure
def cmpI (x y : S26) : Int := Nm.cmpL (Nm.texts x.f0.data.toList) (Nm.texts y.f0.data.toList)
theorem bypath_any (x y : S26) (A4 B4 : Option Addr) (c4 d4 : Nat) (w : World) (hx : x.f0.size ≤ 140737488355328) (hy : y.f0.size ≤ 140737488355328) :
    Calls Tryd.prog 53 #[.agg (cellsIt x A4 c4), .agg (cellsIt y B4 d4)] w fun e w' => e = .returned (.int .i64 (cmpI x y)) ∧ Below w.heap.size w w' := by
  unfold cellsIt
  go_enter Tryd.func53, Tryd.ntmps53
  go_wp2_with fail
  refine (compare_any _ _ _ hx hy).mono ?_
  rintro e w1 ⟨rfl, n, rfl⟩
  go_wp2
  go_ret
  exact ⟨rfl, pw_below_drewN (((Below.refl _ w).alloc (Nat.le_refl _) _).alloc (by simp) _) _⟩
def posP (xs : List S26) (y : S26) : Nat := xs.countP (fun x => decide (cmpI x y < 0))
theorem rd_get (xs : List S26) (k : Nat) (h : k < xs.length) : rd_T26 xs k = xs[k] := by
  unfold rd_T26
  rw [Int.toNat_natCast, List.getD_eq_getElem?_getD, List.getElem?_eq_getElem h]; rfl
theorem posP_eq (y : S26) : ∀ (xs : List S26) (i : Nat), i ≤ xs.length → (∀ t, t < i → cmpI (rd_T26 xs t) y < 0) → (∀ t, i ≤ t → t < xs.length → 0 ≤ cmpI (rd_T26 xs t) y) → posP xs y = i
  | [], i, hi, _, _ => by simp at hi; simp [hi, posP]
  | a :: r, 0, _, _, h2 => by
    unfold posP
    rw [List.countP_eq_zero]
    intro x hx
    obtain ⟨t, ht, rfl⟩ := List.getElem_of_mem hx
    have := h2 t (Nat.zero_le _) ht
    rw [rd_get _ _ ht] at this
    simpa using this
  | a :: r, i + 1, hi, h1, h2 => by
    have ha : cmpI a y < 0 := by have := h1 0 (Nat.succ_pos _); rwa [rd_get (a :: r) 0 (by simp)] at this
    have ih := posP_eq y r i (by simpa using hi) (fun t ht => by
      have := h1 (t + 1) (by omega)
      have hl : t < r.length := by simp at hi; omega
      rw [rd_get (a :: r) (t + 1) (by simpa using hl)] at this
      rw [rd_get r t hl]; simpa using this) (fun t h3 h4 => by
      have := h2 (t + 1) (by omega) (by simpa using h4)
      rw [rd_get (a :: r) (t + 1) (by simpa using h4)] at this
      rw [rd_get r t h4]; simpa using this)
    unfold posP at ih ⊢
    rw [List.countP_cons_of_pos (by simpa using ha), ih]
set_option maxRecDepth 100000 in
set_option maxHeartbeats 4000000 in
theorem bsearch_any (A : Option Addr) (c : Nat) (xs : List S26) (y : S26) (B4 : Option Addr) (d4 : Nat) (w : World) (hr : Kd.C k26 w A xs.length xs) (hm : xs.length ≤ 140737488355328)
    (hx : ∀ k : Nat, k < xs.length → (rd_T26 xs k).f0.size ≤ 140737488355328) (hy : y.f0.size ≤ 140737488355328)
    (hmono : ∀ a b : Nat, a ≤ b → b < xs.length → cmpI (rd_T26 xs b) y < 0 → cmpI (rd_T26 xs a) y < 0) :
    Calls Tryd.prog 52 #[.slice A xs.length c, .agg (cellsIt y B4 d4), .func (.func 53) #[] #[]] w fun e w' => (∃ b, e = .returned (.tuple #[.int .i64 (posP xs y), .bool b])) ∧ Below w.heap.size w w' := by
  have HR := Aside0.mk hr
  have HX := Aside0.mk hx
  have M := Aside0.mk hmono
  clear hr hx hmono
  generalize hcnt : posP xs y = cnt
  have CN := Lib.hid hcnt
  clear hcnt
  have hB0 : Below w.heap.size w (w.alloc (.cells (cellsIt y B4 d4) 26)) := (Below.refl _ w).alloc (Nat.le_refl _) _
  obtain ⟨wb, hwb⟩ : ∃ wb, wb = w.alloc (.cells (cellsIt y B4 d4) 26) := ⟨_, rfl⟩
  have hbx := box_it y B4 d4 (w := w) (w1 := wb) (by rw [hwb]; exact Below.refl _ _)
  obtain ⟨b0, b1, b2, b3, b4, b5, bz⟩ := hbx
  have BX := Aside0.mk (And.intro b0 (And.intro b1 (And.intro b2 (And.intro b3 (And.intro b4 b5)))))
  clear b0 b1 b2 b3 b4 b5
  have HB0 := Aside0.mk hB0
  clear hB0
  rw [← hwb] at HB0
  have HWB := Lib.hid hwb
  have hcall : ∀ (args : Array Value) (W : World), (callFunc 53 args).run Tryd.prog W = .ok (.enter 53 args) W := fun args W => by kernel_rfl
  unfold cellsIt at hwb
  unfold cellsIt
  go_enter Tryd.func52, Tryd.ntmps52
  go_wp2
  rw [← hwb]
  clear hwb
  have mixed : Tryd.prog.follows Departure.mixedOrders = true := by kernel_rfl
  go_loopg [9, 10] xs.length (fun kx s9 s10 wr => ∃ lo hi : Nat, s9 = .int .i64 lo ∧ s10 = .int .i64 hi ∧ lo ≤ hi ∧ hi ≤ xs.length ∧ hi - lo ≤ kx ∧ Aside0 (Below wb.heap.size wb wr) ∧
    Aside0 ((∀ t, t < lo → cmpI (rd_T26 xs t) y < 0) ∧ (∀ t, hi ≤ t → t < xs.length → 0 ≤ cmpI (rd_T26 xs t) y)))
  case atStart => exact ⟨0, xs.length, rfl, rfl, Nat.zero_le _, Nat.le_refl _, by omega, ⟨Below.refl _ _⟩, ⟨⟨fun t ht => absurd ht (Nat.not_lt_zero _), fun t h1 h2 => by omega⟩⟩⟩
  case round =>
    obtain ⟨lo, hi, rfl, rfl, hlh, hin, hg, hB, I⟩ := hrel
    have hBx := Aside0.mk (HB0.out.trans (hB.out.mono HB0.out.size))
    have st : ∀ {j : Nat} {v : Value}, wb.cell? ⟨w.heap.size, j, none⟩ = some v → wr.cell? ⟨w.heap.size, j, none⟩ = some v := fun {j v} hv => (hB.out.cell (p := ⟨w.heap.size, j, none⟩) bz).trans hv
    have b0 := st BX.out.1
    have b1 := st BX.out.2.1
    have b2 := st BX.out.2.2.1
    have b3 := st BX.out.2.2.2.1
    have b4 := st BX.out.2.2.2.2.1
    have b5 := st BX.out.2.2.2.2.2
    clear st
    by_cases hlt : lo < hi
    · obtain ⟨ad, A4, c4, rfl, h0, h1, h2, h3, h4, h5, hl, hr4⟩ := at_it HR.out hBx.out ((lo + hi) / 2) (by omega)
      have hsx := HX.out ((lo + hi) / 2) (by omega)
      have i1 : (0 : Int) ≤ ((lo : Int) + (hi : Int)) / 2 := by omega
      have i2 : ((lo : Int) + (hi : Int)) / 2 < (xs.length : Int) := by omega
      have i3 : (((lo : Int) + (hi : Int)) / 2).toNat = (lo + hi) / 2 := by omega
      obtain ⟨x, hxk⟩ : ∃ x, x = rd_T26 xs ((lo + hi) / 2 : Nat) := ⟨_, rfl⟩
      rw [← hxk] at h0 h1 h2 h3 h4 h5 hl hsx
      have HXK := Lib.hid hxk
      clear hxk
      have HXC := Aside0.mk (And.intro h0 (And.intro h1 (And.intro h2 (And.intro h3 (And.intro h4 h5)))))
      by_cases hyx : cmpI x y < 0
      · have I2 := Aside0.mk (show (∀ t, t < (lo + hi) / 2 + 1 → cmpI (rd_T26 xs t) y < 0) ∧ (∀ t, hi ≤ t → t < xs.length → 0 ≤ cmpI (rd_T26 xs t) y) from ⟨fun t ht => M.out t ((lo + hi) / 2) (by omega) (by omega) (by rw [← HXK.out]; exact hyx), I.out.2⟩)
        have hd : decide (cmpI x y < 0) = true := decide_eq_true hyx
        clear hyx I
        go_wp2
        have hBn : Below wr.heap.size wr wr.drew := below_drew (Below.refl _ _)
        go_region_held3 (fun W => Below wr.heap.size wr W ∧ W.cell? (ad.add ((lo + hi) / 2 * 6)) = some (.string x.f0) ∧ W.cell? ⟨(ad.add ((lo + hi) / 2 * 6)).block, (ad.add ((lo + hi) / 2 * 6)).off + 1, none⟩ = some (.int .u8 x.f1) ∧ W.cell? ⟨(ad.add ((lo + hi) / 2 * 6)).block, (ad.add ((lo + hi) / 2 * 6)).off + 2, none⟩ = some (.int .i64 x.f2) ∧ W.cell? ⟨(ad.add ((lo + hi) / 2 * 6)).block, (ad.add ((lo + hi) / 2 * 6)).off + 3, none⟩ = some (.int .i64 x.f3) ∧ W.cell? ⟨(ad.add ((lo + hi) / 2 * 6)).block, (ad.add ((lo + hi) / 2 * 6)).off + 4, none⟩ = some (.slice A4 x.f4.length c4) ∧ W.cell? ⟨(ad.add ((lo + hi) / 2 * 6)).block, (ad.add ((lo + hi) / 2 * 6)).off + 5, none⟩ = some (.string x.f5) ∧ W.cell? ⟨w.heap.size, 0, none⟩ = some (.string y.f0) ∧ W.cell? ⟨w.heap.size, 1, none⟩ = some (.int .u8 y.f1) ∧ W.cell? ⟨w.heap.size, 2, none⟩ = some (.int .i64 y.f2) ∧ W.cell? ⟨w.heap.size, 3, none⟩ = some (.int .i64 y.f3) ∧ W.cell? ⟨w.heap.size, 4, none⟩ = some (.slice B4 y.f4.length d4) ∧ W.cell? ⟨w.heap.size, 5, none⟩ = some (.string y.f5))
          (exact ⟨hBn, (hBn.cell (World.block_lt_of_cell? wr _ HXC.out.1)).trans HXC.out.1, (hBn.cell (World.block_lt_of_cell? wr _ HXC.out.2.1)).trans HXC.out.2.1, (hBn.cell (World.block_lt_of_cell? wr _ HXC.out.2.2.1)).trans HXC.out.2.2.1, (hBn.cell (World.block_lt_of_cell? wr _ HXC.out.2.2.2.1)).trans HXC.out.2.2.2.1, (hBn.cell (World.block_lt_of_cell? wr _ HXC.out.2.2.2.2.1)).trans HXC.out.2.2.2.2.1, (hBn.cell (World.block_lt_of_cell? wr _ HXC.out.2.2.2.2.2)).trans HXC.out.2.2.2.2.2,
            (hBn.cell (World.block_lt_of_cell? wr _ b0)).trans b0, (hBn.cell (World.block_lt_of_cell? wr _ b1)).trans b1, (hBn.cell (World.block_lt_of_cell? wr _ b2)).trans b2, (hBn.cell (World.block_lt_of_cell? wr _ b3)).trans b3, (hBn.cell (World.block_lt_of_cell? wr _ b4)).trans b4, (hBn.cell (World.block_lt_of_cell? wr _ b5)).trans b5⟩)
          (first | (go_at_fn 53; refine (bypath_any x y A4 B4 c4 d4 _ hsx hy).mono ?_; rintro e w1 ⟨rfl, hb⟩; replace hBn := hBn.trans (hb.mono hBn.size); clear hb))
        go_wp2
        have HB2 := Aside0.mk (hB.out.trans (hBn.mono hB.out.size))
        go_roundg (hi - ((lo + hi) / 2 + 1))
        case measure => omega
        case rel => exact ⟨(lo + hi) / 2 + 1, hi, by rw [show ((lo : Int) + (hi : Int)) / 2 + 1 = (((lo + hi) / 2 + 1 : Nat) : Int) by omega], rfl, by omega, hin, Nat.le_refl _, HB2, I2⟩
      · have I2 := Aside0.mk (show (∀ t, t < lo → cmpI (rd_T26 xs t) y < 0) ∧ (∀ t, (lo + hi) / 2 ≤ t → t < xs.length → 0 ≤ cmpI (rd_T26 xs t) y) from ⟨I.out.1, fun t ht htn => Int.not_lt.1 fun h => hyx (by rw [HXK.out]; exact M.out ((lo + hi) / 2) t ht htn h)⟩)
        have hd : decide (cmpI x y < 0) = false := decide_eq_false hyx
        clear hyx I
        go_wp2
        have hBn : Below wr.heap.size wr wr.drew := below_drew (Below.refl _ _)
        go_region_held3 (fun W => Below wr.heap.size wr W ∧ W.cell? (ad.add ((lo + hi) / 2 * 6)) = some (.string x.f0) ∧ W.cell? ⟨(ad.add ((lo + hi) / 2 * 6)).block, (ad.add ((lo + hi) / 2 * 6)).off + 1, none⟩ = some (.int .u8 x.f1) ∧ W.cell? ⟨(ad.add ((lo + hi) / 2 * 6)).block, (ad.add ((lo + hi) / 2 * 6)).off + 2, none⟩ = some (.int .i64 x.f2) ∧ W.cell? ⟨(ad.add ((lo + hi) / 2 * 6)).block, (ad.add ((lo + hi) / 2 * 6)).off + 3, none⟩ = some (.int .i64 x.f3) ∧ W.cell? ⟨(ad.add ((lo + hi) / 2 * 6)).block, (ad.add ((lo + hi) / 2 * 6)).off + 4, none⟩ = some (.slice A4 x.f4.length c4) ∧ W.cell? ⟨(ad.add ((lo + hi) / 2 * 6)).block, (ad.add ((lo + hi) / 2 * 6)).off + 5, none⟩ = some (.string x.f5) ∧ W.cell? ⟨w.heap.size, 0, none⟩ = some (.string y.f0) ∧ W.cell? ⟨w.heap.size, 1, none⟩ = some (.int .u8 y.f1) ∧ W.cell? ⟨w.heap.size, 2, none⟩ = some (.int .i64 y.f2) ∧ W.cell? ⟨w.heap.size, 3, none⟩ = some (.int .i64 y.f3) ∧ W.cell? ⟨w.heap.size, 4, none⟩ = some (.slice B4 y.f4.length d4) ∧ W.cell? ⟨w.heap.size, 5, none⟩ = some (.string y.f5))
          (exact ⟨hBn, (hBn.cell (World.block_lt_of_cell? wr _ HXC.out.1)).trans HXC.out.1, (hBn.cell (World.block_lt_of_cell? wr _ HXC.out.2.1)).trans HXC.out.2.1, (hBn.cell (World.block_lt_of_cell? wr _ HXC.out.2.2.1)).trans HXC.out.2.2.1, (hBn.cell (World.block_lt_of_cell? wr _ HXC.out.2.2.2.1)).trans HXC.out.2.2.2.1, (hBn.cell (World.block_lt_of_cell? wr _ HXC.out.2.2.2.2.1)).trans HXC.out.2.2.2.2.1, (hBn.cell (World.block_lt_of_cell? wr _ HXC.out.2.2.2.2.2)).trans HXC.out.2.2.2.2.2,
            (hBn.cell (World.block_lt_of_cell? wr _ b0)).trans b0, (hBn.cell (World.block_lt_of_cell? wr _ b1)).trans b1, (hBn.cell (World.block_lt_of_cell? wr _ b2)).trans b2, (hBn.cell (World.block_lt_of_cell? wr _ b3)).trans b3, (hBn.cell (World.block_lt_of_cell? wr _ b4)).trans b4, (hBn.cell (World.block_lt_of_cell? wr _ b5)).trans b5⟩)
          (first | (go_at_fn 53; refine (bypath_any x y A4 B4 c4 d4 _ hsx hy).mono ?_; rintro e w1 ⟨rfl, hb⟩; replace hBn := hBn.trans (hb.mono hBn.size); clear hb))
        go_wp2
        have HB2 := Aside0.mk (hB.out.trans (hBn.mono hB.out.size))
        go_roundg ((lo + hi) / 2 - lo)
        case measure => omega
        case rel => exact ⟨lo, (lo + hi) / 2, rfl, by rw [show ((lo : Int) + (hi : Int)) / 2 = (((lo + hi) / 2 : Nat) : Int) by omega], by omega, by omega, Nat.le_refl _, HB2, I2⟩
    · obtain rfl : hi = lo := by omega
      have hcn : cnt = hi := by rw [← CN.out]; exact posP_eq y xs hi hin I.out.1 I.out.2
      have HCN := Lib.hid hcn
      clear I hlt hcn
      have hBn : Below wr.heap.size wr wr.drew := below_drew (Below.refl _ _)
      by_cases hn : hi < xs.length
      · obtain ⟨ad, A4, c4, rfl, h0, h1, h2, h3, h4, h5, hl, hr4⟩ := at_it HR.out hBx.out hi hn
        have hsx := HX.out hi hn
        clear hr4
        obtain ⟨x, hxk⟩ : ∃ x, x = rd_T26 xs hi := ⟨_, rfl⟩
        rw [← hxk] at h0 h1 h2 h3 h4 h5 hl hsx
        have HXC := Aside0.mk (And.intro h0 (And.intro h1 (And.intro h2 (And.intro h3 (And.intro h4 h5)))))
        clear hxk
        go_wp2
        go_region_held3 (fun W => Below wr.heap.size wr W ∧ W.cell? (ad.add (hi * 6)) = some (.string x.f0) ∧ W.cell? ⟨(ad.add (hi * 6)).block, (ad.add (hi * 6)).off + 1, none⟩ = some (.int .u8 x.f1) ∧ W.cell? ⟨(ad.add (hi * 6)).block, (ad.add (hi * 6)).off + 2, none⟩ = some (.int .i64 x.f2) ∧ W.cell? ⟨(ad.add (hi * 6)).block, (ad.add (hi * 6)).off + 3, none⟩ = some (.int .i64 x.f3) ∧ W.cell? ⟨(ad.add (hi * 6)).block, (ad.add (hi * 6)).off + 4, none⟩ = some (.slice A4 x.f4.length c4) ∧ W.cell? ⟨(ad.add (hi * 6)).block, (ad.add (hi * 6)).off + 5, none⟩ = some (.string x.f5) ∧ W.cell? ⟨w.heap.size, 0, none⟩ = some (.string y.f0) ∧ W.cell? ⟨w.heap.size, 1, none⟩ = some (.int .u8 y.f1) ∧ W.cell? ⟨w.heap.size, 2, none⟩ = some (.int .i64 y.f2) ∧ W.cell? ⟨w.heap.size, 3, none⟩ = some (.int .i64 y.f3) ∧ W.cell? ⟨w.heap.size, 4, none⟩ = some (.slice B4 y.f4.length d4) ∧ W.cell? ⟨w.heap.size, 5, none⟩ = some (.string y.f5))
          (exact ⟨hBn, (hBn.cell (World.block_lt_of_cell? wr _ HXC.out.1)).trans HXC.out.1, (hBn.cell (World.block_lt_of_cell? wr _ HXC.out.2.1)).trans HXC.out.2.1, (hBn.cell (World.block_lt_of_cell? wr _ HXC.out.2.2.1)).trans HXC.out.2.2.1, (hBn.cell (World.block_lt_of_cell? wr _ HXC.out.2.2.2.1)).trans HXC.out.2.2.2.1, (hBn.cell (World.block_lt_of_cell? wr _ HXC.out.2.2.2.2.1)).trans HXC.out.2.2.2.2.1, (hBn.cell (World.block_lt_of_cell? wr _ HXC.out.2.2.2.2.2)).trans HXC.out.2.2.2.2.2,
            (hBn.cell (World.block_lt_of_cell? wr _ b0)).trans b0, (hBn.cell (World.block_lt_of_cell? wr _ b1)).trans b1, (hBn.cell (World.block_lt_of_cell? wr _ b2)).trans b2, (hBn.cell (World.block_lt_of_cell? wr _ b3)).trans b3, (hBn.cell (World.block_lt_of_cell? wr _ b4)).trans b4, (hBn.cell (World.block_lt_of_cell? wr _ b5)).trans b5⟩)
          (first | (go_at_fn 53; refine (bypath_any x y A4 B4 c4 d4 _ hsx hy).mono ?_; rintro e w1 ⟨rfl, hb⟩; replace hBn := hBn.trans (hb.mono hBn.size); clear hb))
        go_wp2
        go_ret2
        exact ⟨⟨cmpI x y == 0, by rw [HCN.out]; rfl⟩, hBx.out.trans (hBn.mono hBx.out.size)⟩
      · obtain rfl : hi = xs.length := by omega
        clear hn
        have hno : decide ((xs.length : Int) < (xs.length : Int)) = false := decide_eq_false (by omega)
        go_wp2
        go_quiet (fail)
        go_wp2
        go_ret2
        exact ⟨⟨false, by rw [HCN.out]; rfl⟩, pw_below_drewN hBx.out _⟩
noncomputable def insP (xs : List S26) (y : S26) : List S26 := xs.take (posP xs y) ++ [y] ++ xs.drop (posP xs y)
def neP (y x : S26) : Bool := x.f0.toList != y.f0.toList
noncomputable def withP (xs : List S26) (y : S26) : List S26 × Int :=
  if (checkP xs).2 ≠ 0 then ([], (checkP xs).2) else
  if (checkP (insP (keepP (neP y) xs xs.length) y)).2 = 0 then (insP (keepP (neP y) xs xs.length) y, 0) else ([], (checkP (insP (keepP (neP y) xs xs.length) y)).2)
theorem with1_tells (y : S26) (B : Nat) (w : World) (hc : w.cell? ⟨B, 0, none⟩ = some (.string y.f0)) : Tells 51 #[.pointer (some ⟨B, 0, none⟩)] (neP y) w := by
  intro W x A4 c4 hB hl hr
  have hb := World.block_lt_of_cell? w _ hc
  have hc' := (hB.cell hb).trans hc
  have hbW : B < W.heap.size := Nat.lt_of_lt_of_le hb hB.size
  clear hc
  unfold cellsIt
  go_enter Tryd.func51, Tryd.ntmps51
  go_wp2
  go_ret
  exact ⟨by unfold neP; first | rfl | (simp [bne]; done), (Below.refl _ W).alloc (Nat.le_refl _) _⟩
end Go.Proofs.YthpecpkncifngaaDoor.X
end

/- The contract of tree.With. -/
section
namespace Go.Proofs.YthpecpkncifngaaDoor.X
open Go Go.RowKit Go.Shelf Go.Proofs.YthpecpkncifngaaDoor Go.Proofs.YthpecpkncifngaaDoorW.PrintWords Go.Proofs.YthpecpkncifngaaDoorW.PrintLast Go.Proofs.YthpecpkncifngaaDoorW.PrintMore Go.Proofs.YthpecpkncifngaaDoor.Pure
theorem chk_all {xs : List S26} (d : Nat) : ∀ i : Nat, xs.length - i = d → i ≤ xs.length → (chkP xs i).2 = 0 → ∀ j, i ≤ j → j < xs.length → stepP xs j = 0 := by
  induction d with
  | zero => intro i hd hi h j h1 h2; omega
  | succ d ih =>
    intro i hd hi h j h1 h2
    have hlt : i < xs.length := by omega
    by_cases hs : stepP xs i = 0
    · rw [chkP_go hlt hs] at h
      rcases Nat.eq_or_lt_of_le h1 with e | e
      · rw [← e]; exact hs
      · exact ih (i + 1) (by omega) (by omega) h j e h2
    · rw [chkP_stop hlt rfl hs] at h
      exact absurd h hs
theorem chk_ok {xs : List S26} (h : (checkP xs).2 = 0) : xs.length ≤ 256 ∧ ∀ j, j < xs.length → stepP xs j = 0 := by
  unfold checkP at h
  split at h
  · simp at h
  · exact ⟨by omega, fun j hj => chk_all _ 0 rfl (Nat.zero_le _) h j (Nat.zero_le _) hj⟩
theorem step_may {xs : List S26} {j : Nat} (h : stepP xs j = 0) : mayP (rd_T26 xs j) = 0 := by
  by_cases hm : mayP (rd_T26 xs j) = 0
  · exact hm
  · rw [step1 hm] at h; exact h
theorem chk_rise {xs : List S26} (h : (checkP xs).2 = 0) : xs.Pairwise (fun a b => cmpI a b = -1) ∧ ∀ x ∈ xs, mayP x = 0 := by
  obtain ⟨_, hs⟩ := chk_ok h
  constructor
  · rw [List.pairwise_iff_getElem]
    intro i j hi hj hij
    have := rises hs j i hij hj
    rw [rd_get xs i hi, rd_get xs j hj] at this
    exact this
  · intro x hx
    obtain ⟨i, hi, rfl⟩ := List.getElem_of_mem hx
    have := step_may (hs i hi)
    rwa [rd_get xs i hi] at this
theorem keepP_filter (p : S26 → Bool) (xs : List S26) : ∀ k, k ≤ xs.length → keepP p xs k = (xs.take k).filter p
  | 0, _ => rfl
  | k + 1, h => by
    have ih := keepP_filter p xs k (by omega)
    rw [keepP, rd_get xs k (by omega), List.take_add_one, List.getElem?_eq_getElem (by omega), List.filter_append, ih]
    by_cases hp : p xs[k] = true
    · rw [if_pos hp]; simp [hp]
    · rw [if_neg hp]; simp [hp]
theorem keepP_all (p : S26 → Bool) (xs : List S26) : keepP p xs xs.length = xs.filter p := by
  rw [keepP_filter p xs _ (Nat.le_refl _), List.take_length]
theorem rise_mono {xs : List S26} (h : xs.Pairwise (fun a b => cmpI a b = -1)) (y : S26) (a b : Nat) (hab : a ≤ b) (hb : b < xs.length) (hc : cmpI (rd_T26 xs b) y < 0) : cmpI (rd_T26 xs a) y < 0 := by
  rcases Nat.eq_or_lt_of_le hab with rfl | hlt
  · exact hc
  · have h1 := List.pairwise_iff_getElem.1 h a b (by omega) hb hlt
    rw [rd_get xs a (by omega)]
    rw [rd_get xs b hb] at hc
    have h2 : cmpI xs[b] y = -1 := by
      rcases Nm.cmp_vals (Nm.texts xs[b].f0.data.toList) (Nm.texts y.f0.data.toList) with e | e | e <;> unfold cmpI at hc ⊢ <;> omega
    have := Nm.cmp_lt_trans _ _ _ h1 h2
    unfold cmpI
    omega
end Go.Proofs.YthpecpkncifngaaDoor.X
end

/- The reference's Sort as plain words: one by one, each behind all that are not behind it. -/
section
namespace Go.Proofs.YthpecpkncifngaaDoor.X
open Go.RowKit Go.Shelf Go.Proofs.YthpecpkncifngaaDoor Go.Proofs.YthpecpkncifngaaDoorW.PrintWords Go.Proofs.YthpecpkncifngaaDoorW.PrintLast Go.Proofs.YthpecpkncifngaaDoorW.PrintMore Go.Proofs.YthpecpkncifngaaDoor.Pure
noncomputable def place (out : List S26) (x : S26) : Nat → Nat
  | 0 => 0
  | n + 1 => if cmpI (rd_T26 out n) x = 1 then place out x n else n + 1
theorem place_le (out : List S26) (x : S26) : ∀ n, place out x n ≤ n
  | 0 => Nat.le_refl _
  | n + 1 => by rw [place]; split; exact Nat.le_succ_of_le (place_le out x n); exact Nat.le_refl _
noncomputable def insS (out : List S26) (x : S26) : List S26 := out.take (place out x out.length) ++ [x] ++ out.drop (place out x out.length)
noncomputable def sortP (xs : List S26) : List S26 := xs.foldl insS []
theorem insS_len (out : List S26) (x : S26) : (insS out x).length = out.length + 1 := by
  unfold insS
  have := place_le out x out.length
  simp
  omega
theorem it_eta (x : S26) : (⟨x.f0, x.f1, x.f2, x.f3, x.f4, x.f5⟩ : S26) = x := by cases x; rfl
theorem sort_l1 (xs out : List S26) (i : Nat) (hi : i < xs.length) (ho : out.length ≤ 1099511627776) (hs : ∀ k : Nat, k < xs.length → (rd_T26 xs k).f0.size ≤ 1099511627776) (hso : ∀ k : Nat, k < out.length → (rd_T26 out k).f0.size ≤ 1099511627776) (R : List S26) (n : Nat) : n ≤ out.length →
    Ev (fun k => tabularyref11_Sort.l0 k xs (out.take (place out (rd_T26 xs i) n) ++ [rd_T26 xs i] ++ out.drop (place out (rd_T26 xs i) n)) (wrap64 ((i : Int) + 1))) R →
    Ev (fun k => tabularyref11_Sort.l1 k xs out (i : Int) (n : Int)) R := by
  induction n with
  | zero =>
    intro hn h
    simp only [place] at h
    refine Ev.step (fun k => ?_) h
    simp only [tabularyref11_Sort.l1, Option.bind_some]
    rw [if_neg (by omega), if_pos (by omega), if_pos (by omega), if_pos (by simp), if_pos (by omega), if_pos (by omega), if_pos (by simp), if_pos (by simp; omega), it_eta]
    simp
  | succ n ih =>
    intro hn h
    have hw : wrap64 (((n + 1 : Nat) : Int) - 1) = (n : Int) := by rw [show ((n + 1 : Nat) : Int) - 1 = ((n : Nat) : Int) by omega]; exact wrap_nat (by omega)
    by_cases hc : cmpI (rd_T26 out n) (rd_T26 xs i) = 1
    · rw [place, if_pos hc] at h
      refine Ev.step (fun k => by simp only [tabularyref11_Sort.l1]; rw [if_pos (by omega), hw, if_pos (by omega), if_pos (by omega), if_pos (by omega), if_pos (by omega)]) (Ev.bind (refcompare_ev _ _ (hso n (by omega)) (hs i hi)) (Ev.congr (fun k => if_pos hc) (ih (by omega) h)))
    · rw [place, if_neg hc] at h
      refine Ev.step (fun k => by simp only [tabularyref11_Sort.l1]; rw [if_pos (by omega), hw, if_pos (by omega), if_pos (by omega), if_pos (by omega), if_pos (by omega)]) (Ev.bind (refcompare_ev _ _ (hso n (by omega)) (hs i hi)) (Ev.congr (fun k => ?_) h))
      simp only [Option.bind_some]
      refine (if_neg hc).trans ?_
      rw [if_pos (by omega), if_pos (by omega), if_pos (by simp; omega), if_pos (by simp; omega), if_pos (by simp; omega), it_eta]
      simp
theorem insS_size {out : List S26} {x : S26} {B : Nat} (h : ∀ z ∈ out, z.f0.size ≤ B) (hx : x.f0.size ≤ B) : ∀ z ∈ insS out x, z.f0.size ≤ B := by
  intro z hz
  unfold insS at hz
  rw [List.mem_append, List.mem_append, List.mem_singleton] at hz
  rcases hz with (hz | rfl) | hz
  · exact h z (List.mem_of_mem_take hz)
  · exact hx
  · exact h z (List.mem_of_mem_drop hz)
theorem sort_l0 (xs : List S26) (hm : xs.length ≤ 1099511627775) (hs : ∀ x ∈ xs, x.f0.size ≤ 1099511627776) (d : Nat) : ∀ (i : Nat) (out : List S26), i ≤ xs.length → xs.length - i = d → out.length ≤ i → (∀ z ∈ out, z.f0.size ≤ 1099511627776) →
    Ev (fun k => tabularyref11_Sort.l0 k xs out (i : Int)) ((xs.drop i).foldl insS out) := by
  induction d with
  | zero =>
    intro i out hi hd ho hz
    obtain rfl : i = xs.length := by omega
    rw [List.drop_length]
    exact Ev.step (fun k => by simp only [tabularyref11_Sort.l0]; rw [if_neg (by omega)]; rfl) (Ev.now _)
  | succ d ih =>
    intro i out hi hd ho hz
    have hlt : i < xs.length := by omega
    have hx : (rd_T26 xs i).f0.size ≤ 1099511627776 := by rw [rd_get xs i hlt]; exact hs _ (List.getElem_mem hlt)
    rw [rd_drop xs i hlt, List.foldl_cons]
    refine Ev.step (fun k => by simp only [tabularyref11_Sort.l0]; rw [if_pos (by omega)]) (sort_l1 xs out i hlt (by omega) (fun k hk => by rw [rd_get xs k hk]; exact hs _ (List.getElem_mem hk)) (fun k hk => by rw [rd_get out k hk]; exact hz _ (List.getElem_mem hk)) _ out.length (Nat.le_refl _) ?_)
    exact Ev.congr (fun k => by rw [wrap_succ (by omega)]; rfl) (ih (i + 1) (insS out (rd_T26 xs i)) (by omega) (by omega) (by rw [insS_len]; omega) (insS_size hz hx))
theorem sort_ev (xs : List S26) (hm : xs.length ≤ 1099511627775) (hs : ∀ x ∈ xs, x.f0.size ≤ 1099511627776) : Ev (fun k => tabularyref11_Sort.f k xs) (sortP xs) :=
  Ev.congr (fun k => rfl) (sort_l0 xs hm hs _ 0 [] (Nat.zero_le _) rfl (Nat.le_refl _) (fun z hz => by cases hz))
end Go.Proofs.YthpecpkncifngaaDoor.X
end

/- Plain laws: the reference's Sort of a rising list with one more item behind it is the list with the item in its place. -/
section
namespace Go.Proofs.YthpecpkncifngaaDoor.X
open Go.RowKit Go.Shelf Go.Proofs.YthpecpkncifngaaDoor Go.Proofs.YthpecpkncifngaaDoorW.PrintWords Go.Proofs.YthpecpkncifngaaDoorW.PrintLast Go.Proofs.YthpecpkncifngaaDoorW.PrintMore Go.Proofs.YthpecpkncifngaaDoor.Pure
theorem place_behind (out : List S26) (x : S26) : ∀ n : Nat, ∀ t : Nat, place out x n ≤ t → t < n → cmpI (rd_T26 out t) x = 1
  | 0, _, _, h => by omega
  | n + 1, t, h1, h2 => by
    rw [place] at h1
    by_cases hc : cmpI (rd_T26 out n) x = 1
    · rw [if_pos hc] at h1
      rcases Nat.lt_succ_iff_lt_or_eq.1 h2 with h | rfl
      · exact place_behind out x n t h1 h
      · exact hc
    · rw [if_neg hc] at h1; omega
theorem place_ahead (out : List S26) (x : S26) : ∀ n m : Nat, place out x n = m + 1 → cmpI (rd_T26 out m) x ≠ 1
  | 0, m, h => by simp [place] at h
  | n + 1, m, h => by
    rw [place] at h
    by_cases hc : cmpI (rd_T26 out n) x = 1
    · rw [if_pos hc] at h; exact place_ahead out x n m h
    · rw [if_neg hc] at h
      obtain rfl : n = m := by omega
      exact hc
theorem cmpI_zero {x y : S26} (h : cmpI x y = 0) : x.f0.toList = y.f0.toList := by
  have h1 := Nm.cmp_zero _ _ h
  have h2 := Nm.texts_inj h1
  rw [Lib.toList_data, Lib.toList_data, h2]
theorem insS_insP {ks : List S26} {y : S26} (hr : ks.Pairwise (fun a b => cmpI a b = -1)) (hn : ∀ x ∈ ks, x.f0.toList ≠ y.f0.toList) : insS ks y = insP ks y := by
  have hp : posP ks y = place ks y ks.length := by
    refine posP_eq y ks _ (place_le ks y _) (fun t ht => ?_) (fun t h1 h2 => ?_)
    · obtain ⟨m, hm⟩ : ∃ m, place ks y ks.length = m + 1 := ⟨place ks y ks.length - 1, by omega⟩
      have hle := place_le ks y ks.length
      have h1 := place_ahead ks y ks.length m hm
      have h0 : cmpI (rd_T26 ks m) y ≠ 0 := fun h => hn _ (by rw [rd_get ks m (by omega)]; exact List.getElem_mem _) (cmpI_zero h)
      have hlt : cmpI (rd_T26 ks m) y < 0 := by
        rcases Nm.cmp_vals (Nm.texts (rd_T26 ks m).f0.data.toList) (Nm.texts y.f0.data.toList) with e | e | e <;> unfold cmpI at h1 h0 ⊢ <;> omega
      exact rise_mono hr y t m (by omega) (by omega) hlt
    · have := place_behind ks y ks.length t h1 h2
      omega
  unfold insS insP
  rw [hp]
theorem place_end (out : List S26) (x : S26) (h : ∀ z ∈ out, cmpI z x = -1) : place out x out.length = out.length := by
  rcases hl : out.length with _ | n
  · rfl
  · rw [place, if_neg]
    rw [rd_get out n (by omega), h _ (List.getElem_mem _)]
    decide
theorem fold_rise : ∀ (xs out : List S26), (out ++ xs).Pairwise (fun a b => cmpI a b = -1) → xs.foldl insS out = out ++ xs
  | [], out, _ => by simp
  | x :: xs, out, h => by
    have hi : insS out x = out ++ [x] := by
      unfold insS
      rw [place_end out x (fun z hz => (List.pairwise_append.1 h).2.2 z hz x (by simp))]
      simp
    rw [List.foldl_cons, hi, fold_rise xs (out ++ [x]) (by simpa using h)]
    simp
theorem sortP_rise {ks : List S26} (h : ks.Pairwise (fun a b => cmpI a b = -1)) : sortP ks = ks := by
  have := fold_rise ks [] (by simpa using h)
  simpa [sortP] using this
theorem sortP_with {xs : List S26} (y : S26) (h : xs.Pairwise (fun a b => cmpI a b = -1)) : sortP (keepP (neP y) xs xs.length ++ [y]) = insP (keepP (neP y) xs xs.length) y := by
  have hk := keepP_all (neP y) xs
  have hr : (keepP (neP y) xs xs.length).Pairwise (fun a b => cmpI a b = -1) := by rw [hk]; exact h.filter _
  have h1 : sortP (keepP (neP y) xs xs.length ++ [y]) = insS (sortP (keepP (neP y) xs xs.length)) y := by unfold sortP; rw [List.foldl_append]; rfl
  rw [h1, sortP_rise hr]
  refine insS_insP hr (fun x hx => ?_)
  rw [hk] at hx
  have := (List.mem_filter.1 hx).2
  simpa [neP] using this
end Go.Proofs.YthpecpkncifngaaDoor.X
end

/- The contract of tree.With: the walk. -/
section
namespace Go.Proofs.YthpecpkncifngaaDoor.X
open Go Go.RowKit Go.Shelf Go.Proofs.YthpecpkncifngaaDoor Go.Proofs.YthpecpkncifngaaDoorW.PrintWords Go.Proofs.YthpecpkncifngaaDoorW.PrintLast Go.Proofs.YthpecpkncifngaaDoorW.PrintMore Go.Proofs.YthpecpkncifngaaDoor.Pure
set_option maxRecDepth 100000 in
set_option maxHeartbeats 4000000 in
theorem with_any (A : Option Addr) (c : Nat) (xs : List S26) (y : S26) (A4 : Option Addr) (c4 : Nat) (w : World) (hr : Kd.C k26 w A xs.length xs) (hm : xs.length * 80 ≤ 140737488351232) (hb4 : ∀ x ∈ xs, x.f4.length ≤ 140737488355328)
    (hy0 : y.f0.size ≤ 140737488355328) (hl : y.f4.length ≤ c4) (hy4 : y.f4.length ≤ 140737488355328) (hr4 : (Kd.int .u8).C w A4 y.f4.length y.f4) :
    Calls Tryd.prog 21 #[.slice A xs.length c, .agg (cellsIt y A4 c4)] w fun e w' => (∃ v, e = .returned (.tuple #[v, .int .i64 (withP xs y).2]) ∧ Kd.V k26 26 w' w.heap.size (fun k => w.heap.size ≤ k) v (withP xs y).1) ∧ Below w.heap.size w w' := by
  have HR := Aside0.mk hr
  have HR4 := Aside0.mk hr4
  have H4 := Aside0.mk hb4
  clear hr hr4 hb4
  have hB0 : Below w.heap.size w (w.alloc (.cells (cellsIt y A4 c4) 26)) := (Below.refl _ w).alloc (Nat.le_refl _) _
  by_cases h1 : (checkP xs).2 = 0
  case neg =>
    have H := Lib.hid (show withP xs y = ([], (checkP xs).2) by unfold withP; rw [if_pos h1])
    have hd : ((checkP xs).2 != 0) = true := by simpa using h1
    rw [H.out]
    clear h1
    unfold cellsIt
    go_enter Tryd.func21, Tryd.ntmps21
    go_wp2_with fail
    refine (check_tree A c xs _ (Kd.C_below HR.out hB0)).mono ?_
    rintro e w1 ⟨rfl, hb⟩
    go_wp2
    go_ret2
    exact ⟨⟨_, rfl, Kd.V_nil _ _ _ _ _⟩, hB0.trans (hb.mono hB0.size)⟩
  have hd : ((checkP xs).2 != 0) = false := by simpa using h1
  obtain ⟨hlen, _⟩ := chk_ok h1
  obtain ⟨hrise, hmay⟩ := chk_rise h1
  have hkeep := keepP_all (neP y) xs
  have hkr : (keepP (neP y) xs xs.length).Pairwise (fun a b => cmpI a b = -1) := by rw [hkeep]; exact hrise.filter _
  have hkm : ∀ x ∈ keepP (neP y) xs xs.length, x.f0.size ≤ 140737488355328 := by
    rw [hkeep]
    intro x hx
    have := may_size (hmay x (List.mem_filter.1 hx).1)
    omega
  have hkl : (keepP (neP y) xs xs.length).length ≤ 256 := Nat.le_trans (keepP_len _ _ _) hlen
  have H := Lib.hid (show withP xs y = if (checkP (insP (keepP (neP y) xs xs.length) y)).2 = 0 then (insP (keepP (neP y) xs xs.length) y, 0) else ([], (checkP (insP (keepP (neP y) xs xs.length) y)).2) by unfold withP; rw [if_neg (by simpa using h1)])
  clear h1 hlen hrise hmay hkeep
  generalize hks : keepP (neP y) xs xs.length = ks at *
  have HKS := Lib.hid hks
  have HKR := Aside0.mk hkr
  have HKM := Aside0.mk hkm
  clear hkr hkm hks
  unfold cellsIt
  go_enter Tryd.func21, Tryd.ntmps21
  go_wp2_with fail
  refine (check_tree A c xs _ (Kd.C_below HR.out hB0)).mono ?_
  rintro e w1 ⟨rfl, hb⟩
  obtain ⟨a0, a1, a2, a3, a4, a5, az⟩ := box_it y A4 c4 hb
  have HB1 := Aside0.mk (hB0.trans (hb.mono hB0.size))
  clear hb
  have HT := Aside0.mk (with1_tells y w.heap.size w1 a0)
  go_wp2_with fail
  refine (some_clip 51 _ _ A c xs _ (Kd.C_below HR.out HB1.out) hm H4.out (fun args W => by kernel_rfl) HT.out).mono ?_
  rw [HKS.out]
  rintro e w2 ⟨⟨A', rfl, hV⟩, hb⟩
  have st : ∀ {j : Nat} {v : Value}, w1.cell? ⟨w.heap.size, j, none⟩ = some v → w2.cell? ⟨w.heap.size, j, none⟩ = some v := fun {j v} hv => (hb.cell (p := ⟨w.heap.size, j, none⟩) az).trans hv
  have b0 := st a0
  have b1 := st a1
  have b2 := st a2
  have b3 := st a3
  have b4 := st a4
  have b5 := st a5
  have bz := Nat.lt_of_lt_of_le az hb.size
  have HB2 := Aside0.mk (HB1.out.trans (hb.mono HB1.out.size))
  have HV2 := Aside0.mk (Kd.V_mono hV (fun k hk => Nat.le_trans HB1.out.size hk))
  have HT := ()
  clear hb hV st a0 a1 a2 a3 a4 a5 az HT
  go_wp2_with fail
  refine (bsearch_any A' ks.length ks y A4 c4 _ (Kd.V_reads' HV2.out).2.2 (by omega) (fun k hk => HKM.out _ (by rw [rd_get _ _ hk]; exact List.getElem_mem hk)) hy0 (rise_mono HKR.out y)).mono ?_
  rintro e w3 ⟨⟨bb, rfl⟩, hb⟩
  have st : ∀ {j : Nat} {v : Value}, w2.cell? ⟨w.heap.size, j, none⟩ = some v → w3.cell? ⟨w.heap.size, j, none⟩ = some v := fun {j v} hv => (hb.cell (p := ⟨w.heap.size, j, none⟩) bz).trans hv
  replace b0 := st b0
  replace b1 := st b1
  replace b2 := st b2
  replace b3 := st b3
  replace b4 := st b4
  replace b5 := st b5
  have HB3 := Aside0.mk (HB2.out.trans (hb.mono HB2.out.size))
  have HV3 := Aside0.mk (Kd.V_below HV2.out hb)
  clear hb st HB1 HB2 HV2 bz
  go_wp2_with fail
  refine (own_any y A4 c4 _ hl hy4 (Kd.C_below HR4.out HB3.out)).mono ?_
  rintro e w4 ⟨⟨A5, rfl, hF⟩, hb⟩
  unfold cellsIt
  have HB4 := Aside0.mk (HB3.out.trans (hb.mono HB3.out.size))
  have HV4 := Aside0.mk (Kd.V_below HV3.out hb)
  have HF4 := Aside0.mk (Kd.F_mono hF (fun k hk => Nat.le_trans HB3.out.size hk))
  clear hb hF
  go_wp2_with fail
  have hBa : Below w4.heap.size w4 (w4.alloc (.cells (cellsIt y A5 y.f4.length) 26)) := (Below.refl _ w4).alloc (Nat.le_refl _) _
  have hpl : posP ks y ≤ ks.length := List.countP_le_length
  refine (insert_any A' (posP ks y) ⟨w4.heap.size, 0, none⟩ ks y (cellsIt y A5 y.f4.length).toList w.heap.size (fun k => w.heap.size ≤ k) _ (Kd.V_below HV4.out hBa) (k26_mkF _ _ _ (Nat.le_refl _) (Kd.F_below HF4.out hBa)) (fun j u hj => ?_) hpl (by omega)).mono ?_
  · rw [Addr.add_lit, Nat.zero_add]
    refine (blk_cell (blk_new w4 _) j).trans ?_
    simpa using hj
  rintro e w5 ⟨⟨g, G, rfl, hG1, hG2, hF5⟩, hb⟩
  have HB5 := Aside0.mk (HB4.out.trans ((hBa.trans (hb.mono hBa.size)).mono HB4.out.size))
  have HF5 := Aside0.mk (show Kd.F k26 w5 (fun k => w.heap.size ≤ k) (some ⟨g, 0, none⟩) (insP ks y).length (insP ks y) by
    have hl5 : (insP ks y).length = ks.length + 1 := by unfold insP; simp; omega
    rw [hl5]
    exact Kd.F_mono hF5 (fun k hk => hk.elim id (fun h => Nat.le_trans HB4.out.size (Nat.le_trans hBa.size h))))
  have hl5 : ks.length + 1 = (insP ks y).length := by unfold insP; simp; omega
  clear hF5 hb hBa HV4 HV3 HF4 b0 b1 b2 b3 b4 b5 hpl
  rw [hl5] at hG1 ⊢
  generalize hins : insP ks y = r at *
  go_wp2_with fail
  refine (clip_items (some ⟨g, 0, none⟩) r.length G _ hG1 hG2).mono ?_
  rintro e w6 ⟨rfl, rfl⟩
  go_wp2_with fail
  refine (checked_any (some ⟨g, 0, none⟩) r.length r _ (Kd.F_now HF5.out)).mono ?_
  by_cases h3 : (checkP r).2 = 0
  · rw [if_pos h3]
    rw [if_pos h3] at H
    clear h3
    rintro e w7 ⟨rfl, hb⟩
    go_wp2
    go_ret2
    exact ⟨by rw [H.out]; exact ⟨_, rfl, Kd.V_below (Kd.V_mk (Nat.le_refl _) HF5.out) hb⟩, HB5.out.trans (hb.mono HB5.out.size)⟩
  · rw [if_neg h3]
    rw [if_neg h3] at H
    clear h3
    rintro e w7 ⟨rfl, hb⟩
    go_wp2
    go_ret2
    exact ⟨by rw [H.out]; exact ⟨_, rfl, Kd.V_nil _ _ _ _ _⟩, HB5.out.trans (hb.mono HB5.out.size)⟩
end Go.Proofs.YthpecpkncifngaaDoor.X
end

/- TreeWith: the reference's With, and the law's walk. -/
section
namespace Go.Proofs.YthpecpkncifngaaDoor.X
open Go.RowKit Go.Shelf Go.Proofs.YthpecpkncifngaaDoor Go.Proofs.YthpecpkncifngaaDoorW.PrintWords Go.Proofs.YthpecpkncifngaaDoorW.PrintLast Go.Proofs.YthpecpkncifngaaDoorW.PrintMore Go.Proofs.YthpecpkncifngaaDoor.Pure
theorem refsort_any (A : Option Addr) (c : Nat) (xs : List S26) (w : World) (hV : Kd.V k26 26 w w.heap.size (fun _ => True) (.slice A xs.length c) xs) (hm : xs.length ≤ 1099511627775) (hs : ∀ x ∈ xs, x.f0.size ≤ 1099511627776) :
    Calls Tryd.prog 57 #[.slice A xs.length c] w fun e w' => (∃ v, e = .returned v ∧ Kd.N k26 26 w' w.heap.size (fun _ => True) v (sortP xs)) ∧ Below w.heap.size w w' := by
  obtain ⟨k, hk⟩ := Ev.rounds (sort_ev xs hm hs)
  refine (tabularyref11_Sort.calls k (fun _ => True) A c xs (sortP xs) w hV hk).mono ?_
  rintro e w1 ⟨v, rfl, hN, hb⟩
  exact ⟨⟨v, rfl, Kd.N_mono hN (fun _ _ => trivial)⟩, hb⟩
set_option maxRecDepth 100000 in
set_option maxHeartbeats 4000000 in
theorem refwith_any (A : Option Addr) (c : Nat) (xs : List S26) (y : S26) (A4 : Option Addr) (c4 : Nat) (w : World) (hr : Kd.C k26 w A xs.length xs) (hc : xs.length ≤ c) (hm : xs.length * 80 ≤ 140737488351232)
    (hy0 : y.f0.size ≤ 1099511627776) (hl : y.f4.length ≤ c4) (hr4 : (Kd.int .u8).C w A4 y.f4.length y.f4) :
    Calls Tryd.prog 22 #[.slice A xs.length c, .agg (cellsIt y A4 c4)] w fun e w' => (∃ A' c', e = .returned (.tuple #[.slice A' (withP xs y).1.length c', .int .i64 (withP xs y).2]) ∧ (withP xs y).1.length ≤ c' ∧ Kd.C k26 w' A' (withP xs y).1.length (withP xs y).1) ∧ Below w.heap.size w w' := by
  have HR := Aside0.mk hr
  have HR4 := Aside0.mk hr4
  clear hr hr4
  have hB0 : Below w.heap.size w (w.alloc (.cells (cellsIt y A4 c4) 26)) := (Below.refl _ w).alloc (Nat.le_refl _) _
  by_cases h1 : (checkP xs).2 = 0
  case neg =>
    have H := Lib.hid (show withP xs y = ([], (checkP xs).2) by unfold withP; rw [if_pos h1])
    have hd : ((checkP xs).2 != 0) = true := by simpa using h1
    rw [H.out]
    clear h1
    unfold cellsIt
    go_enter Tryd.func22, Tryd.ntmps22
    go_wp2_with fail
    refine (refcheck_any A c xs _ (Kd.C_below HR.out hB0) hc).mono ?_
    rintro e w1 ⟨rfl, hb⟩
    go_wp2
    go_ret2
    exact ⟨⟨none, 0, rfl, Nat.zero_le _, Kd.C_nil _ _⟩, hB0.trans (hb.mono hB0.size)⟩
  have hd : ((checkP xs).2 != 0) = false := by simpa using h1
  obtain ⟨hlen, _⟩ := chk_ok h1
  obtain ⟨hrise, hmay⟩ := chk_rise h1
  have hkm : ∀ x ∈ keepP (neP y) xs xs.length ++ [y], x.f0.size ≤ 1099511627776 := by
    rw [keepP_all]
    intro x hx
    rcases List.mem_append.1 hx with hx | hx
    · have := may_size (hmay x (List.mem_filter.1 hx).1)
      omega
    · obtain rfl : x = y := by simpa using hx
      exact hy0
  have HS := Lib.hid (sortP_with y hrise)
  have HKM := Aside0.mk hkm
  have H := Lib.hid (show withP xs y = if (checkP (insP (keepP (neP y) xs xs.length) y)).2 = 0 then (insP (keepP (neP y) xs xs.length) y, 0) else ([], (checkP (insP (keepP (neP y) xs xs.length) y)).2) by unfold withP; rw [if_neg (by simpa using h1)])
  clear h1 hrise hmay hkm
  unfold cellsIt
  go_enter Tryd.func22, Tryd.ntmps22
  go_wp2_with fail
  refine (refcheck_any A c xs _ (Kd.C_below HR.out hB0) hc).mono ?_
  rintro e w1 ⟨rfl, hb⟩
  obtain ⟨a0, a1, a2, a3, a4, a5, az⟩ := box_it y A4 c4 hb
  have HB1 := Aside0.mk (hB0.trans (hb.mono hB0.size))
  have HR1 := Aside0.mk (Kd.C_below HR.out HB1.out)
  have HR41 := Aside0.mk (Kd.C_below HR4.out HB1.out)
  have HA := Aside0.mk (show ∀ W : World, Below w1.heap.size w1 W → W.cell? ⟨w.heap.size, 0, none⟩ = some (.string y.f0) ∧ W.cell? ⟨w.heap.size, 1, none⟩ = some (.int .u8 y.f1) ∧ W.cell? ⟨w.heap.size, 2, none⟩ = some (.int .i64 y.f2) ∧ W.cell? ⟨w.heap.size, 3, none⟩ = some (.int .i64 y.f3) ∧ W.cell? ⟨w.heap.size, 4, none⟩ = some (.slice A4 y.f4.length c4) ∧ W.cell? ⟨w.heap.size, 5, none⟩ = some (.string y.f5) from fun W hW =>
    ⟨(hW.cell (p := ⟨w.heap.size, 0, none⟩) az).trans a0, (hW.cell (p := ⟨w.heap.size, 1, none⟩) az).trans a1, (hW.cell (p := ⟨w.heap.size, 2, none⟩) az).trans a2, (hW.cell (p := ⟨w.heap.size, 3, none⟩) az).trans a3, (hW.cell (p := ⟨w.heap.size, 4, none⟩) az).trans a4, (hW.cell (p := ⟨w.heap.size, 5, none⟩) az).trans a5⟩)
  clear hb a0 a1 a2 a3 a4 a5 hB0
  go_wp2
  go_loopw [8, 9] (fun v i wr => ∃ k : Nat, k ≤ xs.length ∧ i = .int .i64 k ∧ Aside0 (Below w1.heap.size w1 wr) ∧ Aside0 (Kd.N k26 26 wr w1.heap.size (fun _ => True) v (keepP (neP y) xs k))) (fun _ i _ => xs.length - (intOf i).toNat)
  case atStart => exact ⟨0, Nat.zero_le _, rfl, ⟨Below.refl _ _⟩, ⟨Kd.N_nil _ _ _ _ _⟩⟩
  case round =>
    obtain ⟨k, hk, rfl, hB, hN⟩ := hrel
    by_cases hlt : k < xs.length
    · obtain ⟨ad, A4', c4', rfl, h0, h1, h2, h3, h4, h5, hl', hr4⟩ := at_itF HR1.out hB.out k hlt
      have HR4' := Aside0.mk hr4
      obtain ⟨b0, -⟩ := HA.out wr hB.out
      clear hr4
      have take : neP y (rd_T26 xs k) = true → keepP (neP y) xs (k + 1) = keepP (neP y) xs k ++ [rd_T26 xs k] := fun h => by rw [keepP, if_pos h]
      have leave : neP y (rd_T26 xs k) = false → keepP (neP y) xs (k + 1) = keepP (neP y) xs k := fun h => by rw [keepP, if_neg (by simp [h])]
      by_cases h : ((rd_T26 xs k).f0.toList != y.f0.toList) = true
      · have he : ((rd_T26 xs k).f0.toList == y.f0.toList) = false := by simpa using h
        have hp : ¬ ((rd_T26 xs k).f0.toList = y.f0.toList) := by simpa using h
        have HT := Lib.hid (take h)
        have hkl := keepP_len (neP y) xs k
        clear h take leave
        go_wp2
        go_quiet (fail)
        have hNq := Kd.N_drewN hN.out nq
        have hBq : Below w1.heap.size w1 (wr.drewN nq) := pw_below_drewN hB.out nq
        have hFq := Kd.F_drewN HR4'.out nq
        go_wp2_with ((with_reducible refine gate_builtin (b := .append) (xs := #[.tmp 32, .tmp 37]) rfl ?_); at_builtin; refine Kd.N_append k26 (w0 := w1) w1.heap.size rfl (.tmp 32) (.tmp 37) 22 26 (.agg #[.string ⟨#[]⟩, .int .u8 0, .int .i64 0, .int .i64 0, .slice none 0 0, .string ⟨#[]⟩]) 80 rfl Tryd.underlying22 info26 rfl (by decide) (by decide) _ (keepP (neP y) xs k) (rd_T26 xs k) [.string (rd_T26 xs k).f0, .int .u8 (rd_T26 xs k).f1, .int .i64 (rd_T26 xs k).f2, .int .i64 (rd_T26 xs k).f3, .slice A4' (rd_T26 xs k).f4.length c4', .string (rd_T26 xs k).f5] (fun _ => True) (fun k_ => k_ < w1.heap.size) rfl rfl (k26_mkF _ _ _ hl' hFq) (fun k_ h => ⟨trivial, fun e => by have := Kd.N_base hNq k_ e.symm; omega⟩) (fun _ _ => trivial) hNq hBq hBq.size (by omega) ?_)
        intro v1 w4 hN4 hB4 hg hat
        rw [← HT.out] at hN4
        have HN4 := Aside0.mk hN4
        have HB4 := Aside0.mk hB4
        clear hN4 hB4 hg hat hkl hNq hBq hFq
        go_wp2
        go_roundw
        case rel => exact ⟨k + 1, by omega, by go_num, HB4, HN4⟩
        case measure => simp [intOf]; omega
      · have h' : ((rd_T26 xs k).f0.toList != y.f0.toList) = false := by simpa using h
        have he : ((rd_T26 xs k).f0.toList == y.f0.toList) = true := by simpa using h
        have hp : (rd_T26 xs k).f0.toList = y.f0.toList := by simpa using h
        have hN3 := hN.out
        rw [← leave h'] at hN3
        have HN3 := Aside0.mk hN3
        clear h h' hN3 take leave
        go_wp2
        go_quiet (fail)
        go_wp2
        go_roundw
        case rel => exact ⟨k + 1, by omega, by go_num, ⟨pw_below_drewN hB.out _⟩, ⟨Kd.N_drewN HN3.out _⟩⟩
        case measure => simp [intOf]; omega
    · obtain rfl : k = xs.length := by omega
      obtain ⟨b0, b1, b2, b3, b4, b5⟩ := HA.out wr hB.out
      have hkl := keepP_len (neP y) xs xs.length
      have HRy := Aside0.mk (Kd.F_below (Kd.C_F (Kd.heap_int _) HR41.out) hB.out)
      generalize hks : keepP (neP y) xs xs.length = ks at *
      go_wp2_with ((with_reducible refine gate_builtin (b := .append) (xs := #[.tmp 39, .tmp 41]) rfl ?_); at_builtin; refine Kd.N_append k26 (w0 := w1) w1.heap.size rfl (.tmp 39) (.tmp 41) 22 26 (.agg #[.string ⟨#[]⟩, .int .u8 0, .int .i64 0, .int .i64 0, .slice none 0 0, .string ⟨#[]⟩]) 80 rfl Tryd.underlying22 info26 rfl (by decide) (by decide) _ ks y [.string y.f0, .int .u8 y.f1, .int .i64 y.f2, .int .i64 y.f3, .slice A4 y.f4.length c4, .string y.f5] (fun _ => True) (fun k_ => k_ < w1.heap.size) rfl rfl (k26_mkF _ _ _ hl HRy.out) (fun k_ h => ⟨trivial, fun e => by have := Kd.N_base hN.out k_ e.symm; omega⟩) (fun _ _ => trivial) hN.out hB.out hB.out.size (by omega) ?_)
      intro v1 w4 hN4 hB4 hg hat
      obtain ⟨A', c', rfl⟩ := Kd.N_slice hN4
      have hlk : (ks ++ [y]).length ≤ 257 := by simp; omega
      generalize ks ++ [y] = zs at *
      have HN4 := Aside0.mk hN4
      have HB4 := Aside0.mk (HB1.out.trans (hB4.mono HB1.out.size))
      clear hN4 hB4 hg hat b0 b1 b2 b3 b4 b5 hkl
      go_wp2_with fail
      refine (refsort_any A' c' zs _ (Kd.N_V HN4.out) (by omega) HKM.out).mono ?_
      rw [HS.out]
      rintro e w5 ⟨⟨v, rfl, hN5⟩, hb⟩
      obtain ⟨A5, c5, rfl, hc5, hcm5⟩ := N_cap hN5
      have HB5 := Aside0.mk (HB4.out.trans (hb.mono HB4.out.size))
      have HC5 := Aside0.mk (Kd.N_reads' hN5)
      clear hN5 hb HN4 HB4 HKM
      generalize insP ks y = r at *
      go_wp2_with fail
      refine (refcheck_any A5 c5 r _ HC5.out.2.2 hc5).mono ?_
      by_cases h3 : (checkP r).2 = 0
      · have hd3 : ((checkP r).2 != 0) = false := by simpa using h3
        rw [if_pos h3] at H
        clear h3
        rintro e w6 ⟨rfl, hb⟩
        go_wp2
        go_ret2
        exact ⟨by rw [H.out]; exact ⟨A5, c5, rfl, hc5, Kd.C_below HC5.out.2.2 hb⟩, HB5.out.trans (hb.mono HB5.out.size)⟩
      · have hd3 : ((checkP r).2 != 0) = true := by simpa using h3
        rw [if_neg h3] at H
        clear h3
        rintro e w6 ⟨rfl, hb⟩
        go_wp2
        go_ret2
        exact ⟨by rw [H.out]; exact ⟨none, 0, rfl, Nat.zero_le _, Kd.C_nil _ _⟩, HB5.out.trans (hb.mono HB5.out.size)⟩
theorem withP_len (xs : List S26) (y : S26) : (withP xs y).1.length ≤ xs.length + 1 := by
  unfold withP
  split
  · exact Nat.zero_le _
  · split
    · have := keepP_len (neP y) xs xs.length
      have h2 : posP (keepP (neP y) xs xs.length) y ≤ (keepP (neP y) xs xs.length).length := List.countP_le_length
      unfold insP
      simp
      omega
    · exact Nat.zero_le _
set_option maxRecDepth 100000 in
set_option maxHeartbeats 4000000 in
theorem treeWith_walk (A : Option Addr) (c : Nat) (xs : List S26) (y : S26) (A4 : Option Addr) (c4 : Nat) (w : World) (hr : Kd.C k26 w A xs.length xs) (hc : xs.length ≤ c) (hm : xs.length * 80 ≤ 140737488351232) (hb4 : ∀ x ∈ xs, x.f4.length ≤ 140737488351232)
    (hy0 : y.f0.size ≤ 1048576) (hl : y.f4.length ≤ c4) (hy4 : y.f4.length ≤ 140737488351232) (hr4 : (Kd.int .u8).C w A4 y.f4.length y.f4) :
    Calls Tryd.prog 5 #[.slice A xs.length c, .agg (cellsIt y A4 c4)] w fun e w' => e = .returned (.bool true) ∧ Below w.heap.size w w' := by
  have HR := Aside0.mk hr
  have HR4 := Aside0.mk hr4
  have H4 := Aside0.mk hb4
  clear hr hb4 hr4
  have hB0 : Below w.heap.size w (w.alloc (.cells (cellsIt y A4 c4) 26)) := (Below.refl _ w).alloc (Nat.le_refl _) _
  unfold cellsIt
  go_enter Tryd.func5, Tryd.ntmps5
  go_wp2_with fail
  refine (lent_any A c xs _ (Kd.C_below HR.out hB0) hm H4.out).mono ?_
  rintro e w1 ⟨⟨A', c', rfl, hc', hcm', hL⟩, hb⟩
  obtain ⟨a0, a1, a2, a3, a4, a5, az⟩ := box_it y A4 c4 hb
  have HB1 := Aside0.mk (hB0.trans (hb.mono hB0.size))
  have HL1 := Aside0.mk hL
  clear hb hL
  go_wp2_with fail
  refine (with_any A' c' xs y A4 c4 _ (lent_reads HL1.out) hm (fun x hx => Nat.le_trans (H4.out x hx) (by decide)) (by omega) hl (by omega) (Kd.C_below HR4.out HB1.out)).mono ?_
  rintro e w2 ⟨⟨v, rfl, hV⟩, hb⟩
  have st : ∀ {j : Nat} {v : Value}, w1.cell? ⟨w.heap.size, j, none⟩ = some v → w2.cell? ⟨w.heap.size, j, none⟩ = some v := fun {j v} hv => (hb.cell (p := ⟨w.heap.size, j, none⟩) az).trans hv
  replace a0 := st a0
  replace a1 := st a1
  replace a2 := st a2
  replace a3 := st a3
  replace a4 := st a4
  replace a5 := st a5
  obtain ⟨A2, c2, rfl⟩ := Kd.V_slice hV
  have hV' := Kd.V_reads' hV
  have HB2 := Aside0.mk (HB1.out.trans (hb.mono HB1.out.size))
  have HL2 := Aside0.mk (Kd.C_below HL1.out hb)
  have HV2 := Aside0.mk hV'.2.2
  have hcl2 := hV'.2.1
  clear hb HB1 HL1 hV hV' st az hB0
  go_wp2_with fail
  refine (refwith_any A c xs y A4 c4 _ (Kd.C_below HR.out HB2.out) hc hm (by omega) hl (Kd.C_below HR4.out HB2.out)).mono ?_
  rintro e w3 ⟨⟨A3, c3, rfl, hcl3, hC3⟩, hb⟩
  have HB3 := Aside0.mk (HB2.out.trans (hb.mono HB2.out.size))
  have HL3 := Aside0.mk (Kd.C_below HL2.out hb)
  have HV3 := Aside0.mk (Kd.C_below HV2.out hb)
  have HW3 := Aside0.mk hC3
  clear hb HB2 HL2 HV2 hC3 a0 a1 a2 a3 a4 a5
  have e2 : ((withP xs y).2 == (withP xs y).2) = true := beq_self_eq_true _
  have hwl : (withP xs y).1.length ≤ 140737488355328 := Nat.le_trans (withP_len xs y) (by omega)
  go_wp2_with fail
  refine (same_any A2 c2 A3 c3 (withP xs y).1 _ HV3.out hcl2 HW3.out hcl3 hwl).mono ?_
  rintro e w4 ⟨rfl, hb⟩
  have HB4 := Aside0.mk (HB3.out.trans (hb.mono HB3.out.size))
  have HL4 := Aside0.mk (Kd.C_below HL3.out hb)
  clear hb
  go_wp2_with fail
  refine (kept_any A' c' A c xs _ HL4.out hc' hcm' (Kd.C_below HR.out HB4.out) hc (by omega)).mono ?_
  rintro e w5 ⟨rfl, hb⟩
  go_wp2
  go_ret
  exact ⟨rfl, HB4.out.trans (hb.mono HB4.out.size)⟩
end Go.Proofs.YthpecpkncifngaaDoor.X
end

/- Arguments laid open by their kinds: what a reading of an argument says of its cells, kind by kind; that no part of it is greater than the reach, and of what bulk it is at most. -/
section
namespace Go.Proofs.YthpecpkncifngaaDoor.Op3
open Go.RowKit Go.Proofs.YthpecpkncifngaaDoorW.PrintWords
section
variable {H : Type} (enc : TypeId × Value → H) (P : Program) (W : World) (base : Nat) (spare : Nat → Bool) (held : Bool)
def Opens {α : Type} (t : TypeId) (d : Kd α) (G : α → Prop) : Prop :=
  ∀ (fuel : Nat) (cs : List Value) (x : DataW H × List MemPlace), DataW.trod enc P W base spare held fuel t cs = some x → (∀ n ∈ x.1.weights P t, n ≤ reachBytes) → Rows.uptoBulk x.1 ≤ 1048576 → ∃ y, d.K W y cs ∧ G y
variable {enc P W base spare held}
theorem bulk_mem : ∀ {l : List (DataW H)} {d : DataW H}, d ∈ l → Rows.uptoBulk d ≤ Rows.uptoBulkAll l
  | x :: r, d, h => by
    rw [Rows.uptoBulkAll]
    rcases List.mem_cons.1 h with rfl | h
    · omega
    · have := bulk_mem h; omega
theorem opens_int {t : TypeId} {k : IntKind} (ht : P.underlying t = some (.int k)) : Opens enc P W base spare held t (Kd.int k) (fun n => (Lit.int k n).wf = true) := by
  intro fuel cs x h _ _
  obtain ⟨n, rfl, rfl, hw⟩ := DataW.trod_int ht h
  exact ⟨n, rfl, hw⟩
theorem opens_string {t : TypeId} (ht : P.underlying t = some .string) : Opens enc P W base spare held t Kd.string (fun s => s.size ≤ 1048576) := by
  intro fuel cs x h _ hu
  obtain ⟨s, rfl, rfl, hs⟩ := DataW.trod_string ht h
  refine ⟨s, rfl, ?_⟩
  simp only [Rows.uptoBulk] at hu
  have e : s.data.toList.length = s.size := by rw [Array.length_toList]; rfl
  omega
theorem weightsAll_mem {e : TypeId} : ∀ {l : List (DataW H)} {d : DataW H} {n : Nat}, d ∈ l → n ∈ d.weights P e → n ∈ DataW.weightsAll P e l
  | x :: r, d, n, hd, hn => by
    rw [DataW.weightsAll]
    rcases List.mem_cons.1 hd with rfl | hd
    · exact List.mem_append_left _ hn
    · exact List.mem_append_right _ (weightsAll_mem hd hn)
theorem weightsEach_mem : ∀ {ts : List TypeId} {l : List (DataW H)} {j : Nat} {t : TypeId} {d : DataW H} {n : Nat}, ts[j]? = some t → l[j]? = some d → n ∈ d.weights P t → n ∈ DataW.weightsEach P ts l
  | t :: ts, x :: r, 0, _, _, n, h1, h2, hn => by
    simp at h1 h2
    subst h1; subst h2
    rw [DataW.weightsEach]
    exact List.mem_append_left _ hn
  | t :: ts, x :: r, j + 1, _, _, n, h1, h2, hn => by
    rw [DataW.weightsEach]
    exact List.mem_append_right _ (weightsEach_mem (by simpa using h1) (by simpa using h2) hn)
  | [], _, _, _, _, _, h1, _, _ => by simp at h1
  | _ :: _, [], _, _, _, _, _, h2, _ => by simp at h2
theorem choose_list {α β : Type} {R : Nat → α → β → Prop} : ∀ (l : List α), (∀ i a, l[i]? = some a → ∃ b, R i a b) → ∃ m : List β, m.length = l.length ∧ ∀ i a b, l[i]? = some a → m[i]? = some b → R i a b
  | [], _ => ⟨[], rfl, by simp⟩
  | a :: r, h => by
    obtain ⟨b, hb⟩ := h 0 a rfl
    obtain ⟨m, hm, hr⟩ := choose_list (R := fun i => R (i + 1)) r (fun i x hx => h (i + 1) x (by simpa using hx))
    refine ⟨b :: m, by simp [hm], fun i x y hx hy => ?_⟩
    cases i with
    | zero =>
      simp at hx hy
      subst hx; subst hy
      exact hb
    | succ i => exact hr i x y (by simpa using hx) (by simpa using hy)
theorem cells_all {a : Addr} {n : Nat} {cs : List Value} (h : W.cells? base a n = some cs) : cs.length = n ∧ ∀ i u, cs[i]? = some u → W.cell? (a.add i) = some u := by
  obtain ⟨h1, h2, h3⟩ := World.cells?_some h
  refine ⟨h2, fun i u hu => ?_⟩
  have hi : i < n := by rw [← h2]; exact (List.getElem?_eq_some_iff.1 hu).1
  rw [h3 i hi]; exact hu
theorem opens_slice {t e : TypeId} {α : Type} {d : Kd α} {G : α → Prop} {b : Nat} (ht : P.underlying t = some (.slice e)) (hc : P.cellsOf e = d.sz) (hb : P.bytesOf e = b) (he : Opens enc P W base spare held e d G) :
    Opens enc P W base spare held t (Kd.slice e d) (fun xs => xs.length * b ≤ 140737488351232 ∧ xs.length ≤ 9223372036854775807 ∧ ∀ x ∈ xs, G x) := by
  intro fuel cs x h hw hu
  rcases DataW.trod_slice ht h with ⟨rfl, rfl⟩ | ⟨a, len, cap, elems, rest, n, _, rfl, rfl, hbs, hl, hm, hlen, hel, _, _⟩
  · exact ⟨[], ⟨none, 0, rfl, Nat.le_refl _, Kd.C_nil _ _⟩, by simp, by simp, by simp⟩
  · simp only [DataW.weights, ht] at hw
    simp only [Rows.uptoBulk] at hu
    have h1 := hw ((List.map (·.1) elems).length + (List.map (·.1) rest).length |> (· * P.bytesOf e)) List.mem_cons_self
    have each : ∀ i y, elems[i]? = some y → ∃ z, (∃ c, c.length = d.sz ∧ d.K W z c ∧ ∀ j u, c[j]? = some u → W.cell? (a.add (i * d.sz + j)) = some u) ∧ G z := by
      intro i y hy
      have hi : i < len := by rw [← hlen]; exact (List.getElem?_eq_some_iff.1 hy).1
      have hq := hel i hi
      rw [hy, Option.bind_eq_some_iff] at hq
      obtain ⟨c, hcs, hy'⟩ := hq
      obtain ⟨z, hz, hg⟩ := he n c y hy' (fun m hm' => hw m (List.mem_cons_of_mem _ (List.mem_append_left _ (weightsAll_mem (List.mem_map.2 ⟨y, List.mem_of_getElem? hy, rfl⟩) hm')))) (by have := bulk_mem (List.mem_map.2 ⟨y, List.mem_of_getElem? hy, rfl⟩ : y.1 ∈ elems.map (·.1)); omega)
      rw [hc] at hcs
      obtain ⟨q1, q2⟩ := cells_all hcs
      refine ⟨z, ⟨c, q1, hz, fun j u hu => ?_⟩, hg⟩
      have := q2 j u hu
      rwa [add_add] at this
    obtain ⟨zs, hzl, hz⟩ := choose_list elems each
    have hzlen : zs.length = len := hzl.trans hlen
    have get : ∀ i z, zs[i]? = some z → (∃ c, c.length = d.sz ∧ d.K W z c ∧ ∀ j u, c[j]? = some u → W.cell? (a.add (i * d.sz + j)) = some u) ∧ G z := by
      intro i z hzi
      have hi : i < elems.length := by rw [← hzl]; exact (List.getElem?_eq_some_iff.1 hzi).1
      exact hz i _ z (List.getElem?_eq_getElem hi) hzi
    have hmx : cap ≤ 9223372036854775807 := by unfold maxLen at hm; omega
    refine ⟨zs, ⟨some a, cap, by rw [hzlen], by omega, ⟨hzlen ▸ rfl, by omega, fun _ => ⟨a, rfl, fun j p hj => (get j p hj).1⟩⟩⟩, ?_, by omega, ?_⟩
    · rw [hzlen, ← hlen]
      rw [hb] at h1
      simp only [List.length_map] at h1
      have : elems.length * b ≤ (elems.length + rest.length) * b := Nat.mul_le_mul_right _ (Nat.le_add_right _ _)
      exact Nat.le_trans this h1
    · intro z hz'
      obtain ⟨i, hi⟩ := List.getElem?_of_mem hz'
      exact (get i z hi).2
end
end Go.Proofs.YthpecpkncifngaaDoor.Op3
end

/- Arguments laid open by their kinds: what a reading of an argument says of its cells, kind by kind; and that no part of it is greater than the reach. -/
section
namespace Go.Proofs.YthpecpkncifngaaDoor.Op2
open Go.RowKit Go.Proofs.YthpecpkncifngaaDoorW.PrintWords
section
variable {H : Type} (enc : TypeId × Value → H) (P : Program) (W : World) (base : Nat) (spare : Nat → Bool) (held : Bool)
def Opens {α : Type} (t : TypeId) (d : Kd α) (G : α → Prop) : Prop :=
  ∀ (fuel : Nat) (cs : List Value) (x : DataW H × List MemPlace), DataW.trod enc P W base spare held fuel t cs = some x → (∀ n ∈ x.1.weights P t, n ≤ reachBytes) → ∃ y, d.K W y cs ∧ G y
variable {enc P W base spare held}
theorem opens_int {t : TypeId} {k : IntKind} (ht : P.underlying t = some (.int k)) : Opens enc P W base spare held t (Kd.int k) (fun n => (Lit.int k n).wf = true) := by
  intro fuel cs x h _
  obtain ⟨n, rfl, rfl, hw⟩ := DataW.trod_int ht h
  exact ⟨n, rfl, hw⟩
theorem opens_string {t : TypeId} (ht : P.underlying t = some .string) : Opens enc P W base spare held t Kd.string (fun s => s.size ≤ 140737488351232) := by
  intro fuel cs x h hw
  obtain ⟨s, rfl, rfl, hs⟩ := DataW.trod_string ht h
  refine ⟨s, rfl, ?_⟩
  have := hw s.data.toList.length (by simp [DataW.weights])
  rw [Array.length_toList] at this
  exact this
theorem weightsAll_mem {e : TypeId} : ∀ {l : List (DataW H)} {d : DataW H} {n : Nat}, d ∈ l → n ∈ d.weights P e → n ∈ DataW.weightsAll P e l
  | x :: r, d, n, hd, hn => by
    rw [DataW.weightsAll]
    rcases List.mem_cons.1 hd with rfl | hd
    · exact List.mem_append_left _ hn
    · exact List.mem_append_right _ (weightsAll_mem hd hn)
theorem weightsEach_mem : ∀ {ts : List TypeId} {l : List (DataW H)} {j : Nat} {t : TypeId} {d : DataW H} {n : Nat}, ts[j]? = some t → l[j]? = some d → n ∈ d.weights P t → n ∈ DataW.weightsEach P ts l
  | t :: ts, x :: r, 0, _, _, n, h1, h2, hn => by
    simp at h1 h2
    subst h1; subst h2
    rw [DataW.weightsEach]
    exact List.mem_append_left _ hn
  | t :: ts, x :: r, j + 1, _, _, n, h1, h2, hn => by
    rw [DataW.weightsEach]
    exact List.mem_append_right _ (weightsEach_mem (by simpa using h1) (by simpa using h2) hn)
  | [], _, _, _, _, _, h1, _, _ => by simp at h1
  | _ :: _, [], _, _, _, _, _, h2, _ => by simp at h2
theorem choose_list {α β : Type} {R : Nat → α → β → Prop} : ∀ (l : List α), (∀ i a, l[i]? = some a → ∃ b, R i a b) → ∃ m : List β, m.length = l.length ∧ ∀ i a b, l[i]? = some a → m[i]? = some b → R i a b
  | [], _ => ⟨[], rfl, by simp⟩
  | a :: r, h => by
    obtain ⟨b, hb⟩ := h 0 a rfl
    obtain ⟨m, hm, hr⟩ := choose_list (R := fun i => R (i + 1)) r (fun i x hx => h (i + 1) x (by simpa using hx))
    refine ⟨b :: m, by simp [hm], fun i x y hx hy => ?_⟩
    cases i with
    | zero =>
      simp at hx hy
      subst hx; subst hy
      exact hb
    | succ i => exact hr i x y (by simpa using hx) (by simpa using hy)
theorem cells_all {a : Addr} {n : Nat} {cs : List Value} (h : W.cells? base a n = some cs) : cs.length = n ∧ ∀ i u, cs[i]? = some u → W.cell? (a.add i) = some u := by
  obtain ⟨h1, h2, h3⟩ := World.cells?_some h
  refine ⟨h2, fun i u hu => ?_⟩
  have hi : i < n := by rw [← h2]; exact (List.getElem?_eq_some_iff.1 hu).1
  rw [h3 i hi]; exact hu
theorem opens_slice {t e : TypeId} {α : Type} {d : Kd α} {G : α → Prop} {b : Nat} (ht : P.underlying t = some (.slice e)) (hc : P.cellsOf e = d.sz) (hb : P.bytesOf e = b) (he : Opens enc P W base spare held e d G) :
    Opens enc P W base spare held t (Kd.slice e d) (fun xs => xs.length * b ≤ 140737488351232 ∧ xs.length ≤ 9223372036854775807 ∧ ∀ x ∈ xs, G x) := by
  intro fuel cs x h hw
  rcases DataW.trod_slice ht h with ⟨rfl, rfl⟩ | ⟨a, len, cap, elems, rest, n, _, rfl, rfl, hbs, hl, hm, hlen, hel, _, _⟩
  · exact ⟨[], ⟨none, 0, rfl, Nat.le_refl _, Kd.C_nil _ _⟩, by simp, by simp, by simp⟩
  · simp only [DataW.weights, ht] at hw
    have h1 := hw ((List.map (·.1) elems).length + (List.map (·.1) rest).length |> (· * P.bytesOf e)) List.mem_cons_self
    have each : ∀ i y, elems[i]? = some y → ∃ z, (∃ c, c.length = d.sz ∧ d.K W z c ∧ ∀ j u, c[j]? = some u → W.cell? (a.add (i * d.sz + j)) = some u) ∧ G z := by
      intro i y hy
      have hi : i < len := by rw [← hlen]; exact (List.getElem?_eq_some_iff.1 hy).1
      have hq := hel i hi
      rw [hy, Option.bind_eq_some_iff] at hq
      obtain ⟨c, hcs, hy'⟩ := hq
      obtain ⟨z, hz, hg⟩ := he n c y hy' (fun m hm' => hw m (List.mem_cons_of_mem _ (List.mem_append_left _ (weightsAll_mem (List.mem_map.2 ⟨y, List.mem_of_getElem? hy, rfl⟩) hm'))))
      rw [hc] at hcs
      obtain ⟨q1, q2⟩ := cells_all hcs
      refine ⟨z, ⟨c, q1, hz, fun j u hu => ?_⟩, hg⟩
      have := q2 j u hu
      rwa [add_add] at this
    obtain ⟨zs, hzl, hz⟩ := choose_list elems each
    have hzlen : zs.length = len := hzl.trans hlen
    have get : ∀ i z, zs[i]? = some z → (∃ c, c.length = d.sz ∧ d.K W z c ∧ ∀ j u, c[j]? = some u → W.cell? (a.add (i * d.sz + j)) = some u) ∧ G z := by
      intro i z hzi
      have hi : i < elems.length := by rw [← hzl]; exact (List.getElem?_eq_some_iff.1 hzi).1
      exact hz i _ z (List.getElem?_eq_getElem hi) hzi
    have hmx : cap ≤ 9223372036854775807 := by unfold maxLen at hm; omega
    refine ⟨zs, ⟨some a, cap, by rw [hzlen], by omega, ⟨hzlen ▸ rfl, by omega, fun _ => ⟨a, rfl, fun j p hj => (get j p hj).1⟩⟩⟩, ?_, by omega, ?_⟩
    · rw [hzlen, ← hlen]
      rw [hb] at h1
      simp only [List.length_map] at h1
      have : elems.length * b ≤ (elems.length + rest.length) * b := Nat.mul_le_mul_right _ (Nat.le_add_right _ _)
      exact Nat.le_trans this h1
    · intro z hz'
      obtain ⟨i, hi⟩ := List.getElem?_of_mem hz'
      exact (get i z hi).2
end
end Go.Proofs.YthpecpkncifngaaDoor.Op2
end

/- Items, and lists of items, laid open. -/
section
namespace Go.Proofs.YthpecpkncifngaaDoor.X
open Go.RowKit Go.Proofs.YthpecpkncifngaaDoorW.PrintWords Go.Proofs.YthpecpkncifngaaDoor.Op2
theorem six {α : Type} {l : List α} (h : l.length = 6) : ∃ a b c d e f, l = [a, b, c, d, e, f] := by
  match l, h with
  | [a, b, c, d, e, f], _ => exact ⟨a, b, c, d, e, f, rfl⟩
end Go.Proofs.YthpecpkncifngaaDoor.X
end

/- Items, and lists of items, laid open, where their bulk is bounded. -/
section
namespace Go.Proofs.YthpecpkncifngaaDoor.X
open Go.RowKit Go.Proofs.YthpecpkncifngaaDoor Go.Proofs.YthpecpkncifngaaDoorW.PrintWords Go.Proofs.YthpecpkncifngaaDoor.Op3
def GoodItU (x : S26) : Prop := x.f0.size ≤ 1048576 ∧ (Lit.int .u8 x.f1).wf = true ∧ (Lit.int .i64 x.f2).wf = true ∧ (Lit.int .i64 x.f3).wf = true ∧ (x.f4.length * 1 ≤ 140737488351232 ∧ x.f4.length ≤ 9223372036854775807 ∧ ∀ n ∈ x.f4, (Lit.int .u8 n).wf = true) ∧ x.f5.size ≤ 1048576
theorem opens_itemU {H : Type} {enc : TypeId × Value → H} {W : World} {base : Nat} {spare : Nat → Bool} {held : Bool} : Opens enc Tryd.prog W base spare held 26 k26 GoodItU := by
  intro fuel cs x h hw hu
  obtain ⟨xs, n, _, rfl, hl, hx, hel⟩ := DataW.trod_struct Tryd.underlying26 h
  have hc : Tryd.prog.cellsOf 26 = 6 := by kernel_rfl
  rw [hc] at hl
  obtain ⟨u0, u1, u2, u3, u4, u5, rfl⟩ := six hl
  obtain ⟨y0, y1, y2, y3, y4, y5, rfl⟩ := six (show xs.length = 6 from hx)
  simp only [DataW.weights, Tryd.underlying26] at hw
  simp only [Rows.uptoBulk, Rows.uptoBulkAll, List.map_cons, List.map_nil] at hu
  have c0 : Tryd.prog.cellsOf 9 = 1 := by kernel_rfl
  have c1 : Tryd.prog.cellsOf 23 = 1 := by kernel_rfl
  have c2 : Tryd.prog.cellsOf 3 = 1 := by kernel_rfl
  have c4 : Tryd.prog.cellsOf 24 = 1 := by kernel_rfl
  have e0 : DataW.trod enc Tryd.prog W base spare held n 9 (([u0, u1, u2, u3, u4, u5].drop 0).take (Tryd.prog.cellsOf 9)) = some y0 := hel 0 _ rfl
  rw [c0] at e0
  have e1 : DataW.trod enc Tryd.prog W base spare held n 23 (([u0, u1, u2, u3, u4, u5].drop 1).take (Tryd.prog.cellsOf 23)) = some y1 := hel 1 _ rfl
  rw [c1] at e1
  have e2 : DataW.trod enc Tryd.prog W base spare held n 3 (([u0, u1, u2, u3, u4, u5].drop 2).take (Tryd.prog.cellsOf 3)) = some y2 := hel 2 _ rfl
  rw [c2] at e2
  have e3 : DataW.trod enc Tryd.prog W base spare held n 3 (([u0, u1, u2, u3, u4, u5].drop 3).take (Tryd.prog.cellsOf 3)) = some y3 := hel 3 _ rfl
  rw [c2] at e3
  have e4 : DataW.trod enc Tryd.prog W base spare held n 24 (([u0, u1, u2, u3, u4, u5].drop 4).take (Tryd.prog.cellsOf 24)) = some y4 := hel 4 _ rfl
  rw [c4] at e4
  have e5 : DataW.trod enc Tryd.prog W base spare held n 9 (([u0, u1, u2, u3, u4, u5].drop 5).take (Tryd.prog.cellsOf 9)) = some y5 := hel 5 _ rfl
  rw [c0] at e5
  have wt : ∀ (j : Nat) (t : TypeId) (y : DataW H × List MemPlace), ((#[_, _, _, _, _, _] : Array Field).toList.map (·.type))[j]? = some t → [y0, y1, y2, y3, y4, y5][j]? = some y → ∀ m ∈ y.1.weights Tryd.prog t, m ≤ reachBytes :=
    fun j t y h1 h2 m hm => hw m (weightsEach_mem h1 (by rw [List.getElem?_map, h2]; rfl) hm)
  obtain ⟨z0, k0, g0⟩ := opens_string Tryd.underlying9 n _ _ e0 (wt 0 _ _ rfl rfl) (by omega)
  obtain ⟨z1, k1, g1⟩ := opens_int Tryd.underlying23 n _ _ e1 (wt 1 _ _ rfl rfl) (by omega)
  obtain ⟨z2, k2, g2⟩ := opens_int Tryd.underlying3 n _ _ e2 (wt 2 _ _ rfl rfl) (by omega)
  obtain ⟨z3, k3, g3⟩ := opens_int Tryd.underlying3 n _ _ e3 (wt 3 _ _ rfl rfl) (by omega)
  obtain ⟨z4, k4, g4⟩ := opens_slice (b := 1) Tryd.underlying24 (by kernel_rfl) (by kernel_rfl) (opens_int Tryd.underlying5) n _ _ e4 (wt 4 _ _ rfl rfl) (by omega)
  obtain ⟨z5, k5, g5⟩ := opens_string Tryd.underlying9 n _ _ e5 (wt 5 _ _ rfl rfl) (by omega)
  exact ⟨⟨z0, z1, z2, z3, z4, z5⟩, ⟨_, _, rfl, k0, ⟨_, _, rfl, k1, ⟨_, _, rfl, k2, ⟨_, _, rfl, k3, ⟨_, _, rfl, k4, k5⟩⟩⟩⟩⟩, g0, g1, g2, g3, g4, g5⟩
theorem opens_itemsU {H : Type} {enc : TypeId × Value → H} {W : World} {base : Nat} {spare : Nat → Bool} {held : Bool} : Opens enc Tryd.prog W base spare held 22 (Kd.slice 26 k26) (fun xs => xs.length * 80 ≤ 140737488351232 ∧ xs.length ≤ 9223372036854775807 ∧ ∀ x ∈ xs, GoodItU x) :=
  opens_slice Tryd.underlying22 (by kernel_rfl) (by kernel_rfl) opens_itemU
end Go.Proofs.YthpecpkncifngaaDoor.X
end

section
namespace Go.Proofs.YthpecpkncifngaaDoor.treeWithRow
open Go.ChangeShapes Go.WideShapes Go.ChangeAt Go.RowKit
open Go.ChangeMaps (open_string shut_string)
theorem own : ownKnob Tryd.prog.godebug = none := by kernel_rfl
open Go.Proofs.YthpecpkncifngaaDoor Go.Proofs.YthpecpkncifngaaDoorW.PrintWords
theorem laidOut : laidOutB Tryd.prog = true := by kernel_rfl
theorem walk (A0 : Option Addr) (c0 : Nat) (a0 : List X.S26) (a1 : X.S26) (A1 : Option Addr) (c1 : Nat) (w : World) (h0 : Kd.C X.k26 w A0 a0.length a0) (hc0 : a0.length ≤ c0) (hg0 : a0.length * 80 ≤ 140737488351232 ∧ a0.length ≤ 9223372036854775807 ∧ ∀ x ∈ a0, X.GoodItU x) (hl1 : a1.f4.length ≤ c1) (h1 : (Kd.int .u8).C w A1 a1.f4.length a1.f4) (hg1 : X.GoodItU a1) : Calls Tryd.prog 5 #[.slice A0 a0.length c0, .agg (X.cellsIt a1 A1 c1)] w fun e w' => e = .returned (.bool true) ∧ Below w.heap.size w w' := by
  exact X.treeWith_walk A0 c0 a0 a1 A1 c1 w h0 hc0 hg0.1 (fun x hx => by have := (hg0.2.2 x hx).2.2.2.2.1.1; omega) hg1.1 hl1 (by have := hg1.2.2.2.2.1.1; omega) h1
set_option maxRecDepth 100000 in
theorem contract (H : Type) (enc : TypeId × Value → H) (W : World) (base : Nat) (args : Array Value) (ds gs : List (DataW H)) (before : List MemPlace)
    (hval : ∀ (j : Nat) t v, Tryd.f5.params[j]? = some t → args[j]? = some v → Value.okWide Tryd.prog W .any base t v)
    (hW : DataW.Whole enc Tryd.prog Tryd.f5.params.toList Rows.treeWithSpec.vars false W args.toList ds gs before) (hk : Rows.uptoSmall H (ds ++ gs) = true) (hsz0 : (DataW.weightsEach Tryd.prog (Tryd.f5.params.toList ++ Rows.treeWithSpec.plain.varTypes Tryd.prog) (ds ++ gs)).all (· ≤ reachBytes) = true) :
    Calls Tryd.prog 5 args W fun e W' => ∃ v, e = .returned v ∧ Rows.treeWithSpec.post enc Tryd.prog Tryd.f5 false true false false W args v W' := by
  have hW' := hW
  obtain ⟨p, q, hA0, hV, rfl, hfz, hnd⟩ := hW
  have hA : DataW.TrodAll enc Tryd.prog W 0 (fun _ => true) true Tryd.f5.params.toList args.toList ds p := hA0
  have hsz := hsz0
  rw [Tryd.params5] at hA hval hsz
  obtain ⟨v0, vs0, d0, ds0, p0, q0, hargs, rfl, rfl, h0, r0⟩ := trodAll_cons hA
  obtain ⟨v1, vs1, d1, ds1, p1, q1, rfl, rfl, rfl, h1, r1⟩ := trodAll_cons r0
  obtain ⟨rfl, rfl, rfl⟩ := trodAll_nil r1
  obtain rfl : args = #[v0, v1] := by cases args; simp_all
  obtain ⟨rfl, rfl⟩ := trodVars_none hV
  have hkb : Rows.uptoBulkAll _ ≤ 1048576 := of_decide_eq_true hk
  simp only [List.append_nil, Rows.uptoBulkAll] at hkb
  have k0 := h0
  have lt0 : ∀ x ∈ p0, x.block < W.heap.size := by obtain ⟨m, hm⟩ := k0; exact DataW.trod_lt m _ _ _ hm
  obtain ⟨va0, vl0, vc0, rfl⟩ := okWide_slice Tryd.underlying22 (hval 0 22 v0 rfl rfl)
  obtain ⟨m0, hm0⟩ := h0
  obtain ⟨a0, hK0, w0⟩ := X.opens_itemsU m0 _ _ hm0 (fun n hn => of_decide_eq_true (List.all_eq_true.1 hsz n (DataW.weights_mem_each (j := 0) rfl rfl n hn))) (show Rows.uptoBulk d0 ≤ 1048576 by omega)
  obtain ⟨A0, c0, he0, wc0, wK0⟩ := hK0
  obtain ⟨ea0, el0, ec0⟩ : va0 = A0 ∧ vl0 = a0.length ∧ vc0 = c0 := by simpa [Value.cells] using he0
  obtain rfl : A0 = va0 := ea0.symm
  obtain rfl : a0.length = vl0 := el0.symm
  obtain rfl : c0 = vc0 := ec0.symm
  have k1 := h1
  have lt1 : ∀ x ∈ p1, x.block < W.heap.size := by obtain ⟨m, hm⟩ := k1; exact DataW.trod_lt m _ _ _ hm
  obtain ⟨cs1, rfl, _⟩ := okWide_struct Tryd.underlying26 (hval 1 26 v1 rfl rfl)
  obtain ⟨m1, hm1⟩ := h1
  obtain ⟨a1, hK1, w1⟩ := X.opens_itemU m1 _ _ hm1 (fun n hn => of_decide_eq_true (List.all_eq_true.1 hsz n (DataW.weights_mem_each (j := 1) rfl rfl n hn))) (show Rows.uptoBulk d1 ≤ 1048576 by omega)
  obtain ⟨A1, c1, he1, wc1, wK1⟩ := X.k26_open hK1
  obtain rfl : cs1 = X.cellsIt a1 A1 c1 := Array.toList_inj.1 he1
  have hk2 : Rows.uptoBulkAll _ ≤ 1048576 := of_decide_eq_true hk
  simp only [List.append_nil, Rows.uptoBulkAll, Rows.uptoBulk] at hk2
  clear hA0
  refine (walk A0 c0 a0 a1 A1 c1 W wK0 wc0 w0 wc1 wK1 w1).mono fun e W' ⟨he, bel⟩ => ?_
  subst he
  exact ⟨_, rfl, _, _, _, [], _, [], hW', trodAll_mk1 (shut_bool Tryd.underlying4 _), (trodAll_cons_mk (Below.trod laidOut (by kernel_rfl) (of_decide_eq_true (by kernel_rfl)) k0 bel lt0) (trodAll_cons_mk (Below.trod laidOut (by kernel_rfl) (of_decide_eq_true (by kernel_rfl)) k1 bel lt1) trodAll_mk0)), rfl, bel.frame _, fun h => by cases h⟩
noncomputable def laidWorld (os : Os) : World := { World.holding Tryd.prog os ⟨#[], #[], []⟩ with heap := (((World.holding Tryd.prog os ⟨#[], #[], []⟩).heap.modify 2 fun | .cells _ t frozen => .cells (#[.int .u8 128, .int .u8 191, .int .u8 160, .int .u8 191, .int .u8 128, .int .u8 159, .int .u8 144, .int .u8 191, .int .u8 128, .int .u8 143, .int .u8 0, .int .u8 0, .int .u8 0, .int .u8 0, .int .u8 0, .int .u8 0, .int .u8 0, .int .u8 0, .int .u8 0, .int .u8 0, .int .u8 0, .int .u8 0, .int .u8 0, .int .u8 0, .int .u8 0, .int .u8 0, .int .u8 0, .int .u8 0, .int .u8 0, .int .u8 0, .int .u8 0, .int .u8 0]) t frozen | o => o).modify 1 fun | .cells _ t frozen => .cells ((Go.Pinned.utf8FirstZ.map fun (n : Nat) => Value.int .u8 (n : Int)).toArray) t frozen | o => o) }
set_option maxRecDepth 100000 in
theorem laid_met (os : Os) : laidMet Tryd.prog Rows.treeWithUptoRow.laid ((laidWorld os).forCall (fun _ _ => 0) ⟨#[], #[.slice none 0 0, .agg #[.string ByteArray.empty, .int .u8 0, .int .i64 0, .int .i64 0, .slice none 0 0, .string ByteArray.empty]], []⟩).memory :=
  laidMet_of_run' 8 (by kernel_rfl) (by kernel_rfl)
set_option maxRecDepth 100000 in
theorem reads (os : Os) {H : Type} (enc : TypeId × Value → H) : ∃ places, DataW.whole enc Tryd.prog ((laidWorld os).forCall (fun _ _ => 0) ⟨#[], #[.slice none 0 0, .agg #[.string ByteArray.empty, .int .u8 0, .int .i64 0, .int .i64 0, .slice none 0 0, .string ByteArray.empty]], []⟩).memory Tryd.f5.params.toList Rows.treeWithSpec.vars false (#[.slice none 0 0, .agg #[.string ByteArray.empty, .int .u8 0, .int .i64 0, .int .i64 0, .slice none 0 0, .string ByteArray.empty]] : Array Value).toList 8 = some ([.nil, .agg [.lit (.string []), .lit (.int .u8 0), .lit (.int .i64 0), .lit (.int .i64 0), .nil, .lit (.string [])]], [], places) :=
  ⟨[], by kernel_rfl⟩
set_option maxRecDepth 100000 in
theorem lifted (os : Os) (started : os.Started) (H : Type) (enc : TypeId × Value → H) (F : Stop.Interp) :
    ReturnsInHanded {} Tryd.checked os 5 .any ((Rows.OpenSpec.upto Rows.treeWithSpec).preRow enc Tryd.prog Tryd.f5 Rows.treeWithUptoRow.domain false Rows.treeWithUptoRow.laid) (((Rows.OpenSpec.upto Rows.treeWithSpec).at F).post enc Tryd.prog Tryd.f5 false true false false) := by
  obtain ⟨places, hx⟩ := reads os enc
  refine returnsInHanded_of_row (C := Tryd.checked) (s := Rows.OpenSpec.upto Rows.treeWithSpec) own started (by kernel_rfl) Tryd.func5
    (witness_row_at (enc := enc) (C := Tryd.checked) false (laidWorld os) #[.slice none 0 0, .agg #[.string ByteArray.empty, .int .u8 0, .int .i64 0, .int .i64 0, .slice none 0 0, .string ByteArray.empty]] rfl (by kernel_rfl) (by kernel_rfl) (by kernel_rfl)
      (OpenSpec.preRow_of_cond 8 hx (by kernel_rfl) (fun k hk => by cases hk; kernel_rfl) (by kernel_rfl) (laid_met os))) ?_
  intro W base args ds gs before hval hW _ hcond hsz0 _ _ _
  exact contract H enc W base args ds gs before hval hW (hcond _ rfl) hsz0
set_option maxRecDepth 100000 in
theorem proved : Rows.TreeWithUptoSaid :=
  OpenClaim.holds_of_cond 5 Tryd.f5 rfl rfl rfl rfl rfl rfl rfl ⟨rfl, rfl, rfl, rfl, rfl⟩ rfl rfl rfl rfl rfl (by kernel_rfl) Tryd.func5 (by kernel_rfl)
    (of_decide_eq_true (by kernel_rfl)) (by unfold Func.isWrapper; first | (rw [if_pos (by decide +kernel)]; kernel_rfl) | (rw [if_neg (by decide +kernel)]; exact ⟨rfl, rfl⟩))
    (fun os started H enc _ F => by rw [OpenClaim.pre_eq_preRow]; exact lifted os started H enc F)
theorem plain (f : FuncId) (fn : Func) (hf : Tryd.pinned.checked.prog.funcNamed "tabulary/tabularylaw11.TreeWith" = some f) (hfn : Tryd.pinned.checked.prog.funcs[f]? = some fn) :
    false = Tryd.pinned.checked.prog.looks [] ∧ ∀ (j : Nat) t, fn.params[j]? = some t → Tryd.pinned.checked.prog.wantsStandIn t = false := by
  obtain rfl : f = 5 := Option.some.inj ((show Tryd.prog.funcNamed "tabulary/tabularylaw11.TreeWith" = some 5 by kernel_rfl).symm.trans hf) |>.symm
  obtain rfl : fn = Tryd.f5 := (Option.some.inj (Tryd.func5.symm.trans hfn)).symm
  refine ⟨by kernel_rfl, fun j t ht => ?_⟩
  rw [Tryd.params5] at ht
  have hm : t = 22 ∨ t = 26 := by have := Array.mem_of_getElem? ht; simp at this; rcases this with h | h <;> simp [h]
  rcases hm with rfl | rfl
  · exact (show Tryd.prog.wantsStandIn 22 = false by kernel_rfl)
  · exact (show Tryd.prog.wantsStandIn 26 = false by kernel_rfl)
set_option maxRecDepth 100000 in
theorem card : Rows.TreeWithUptoCardSaid :=
  Claim7.holds_tied_plain_at .later [] _ _ _ _ proved (fun _ h => by cases h) (by kernel_rfl) (fun _ h => by cases h) treeWithUpto_row_tie rfl ⟨rfl, rfl⟩ (by kernel_rfl) rfl plain (by kernel_rfl)
end Go.Proofs.YthpecpkncifngaaDoor.treeWithRow
namespace Go.Proofs.YthpecpkncifngaaDoor
theorem treeWithUpto_holds : Rows.TreeWithUptoCardSaid := treeWithRow.card
#print axioms treeWithUpto_holds
end Go.Proofs.YthpecpkncifngaaDoor
end
