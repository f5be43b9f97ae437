/- The reference's disk: Sync at any state; Restart. -/
import Derived.Test.YtojpmihgpjmobaaRdC
import Derived.Deep.RegionLaw
namespace Go.Proofs.Ytojpmihgpjmobaa.X
open Go Go.RowKit Go.Maps Go.Shelf Go.Proofs.Ytojpmihgpjmobaa Go.Proofs.YtojpmihgpjmobaaW.PrintWords Go.Proofs.YtojpmihgpjmobaaW.PrintLast Go.Proofs.YtojpmihgpjmobaaW.PrintMore
set_option linter.unusedVariables false
set_option linter.unusedSimpArgs false

theorem rsync_all {W : World} {p : Nat} {s : DS} {B : Nat → Prop} (h : RefAt W p s B) (hf : s.fuse ≤ 9223372036854775807) :
    Calls Try.prog 35 #[dptr p] W fun e w' => e = .returned (.int .i64 s.syncE) ∧ RefAt w' p s.synced B ∧ Tn W w' B := by
  obtain ⟨_, _, hc, n1, n2, _⟩ := h.cells
  have c1 := (blk_cell hc 1).trans rfl
  clear hc
  unfold DS.syncE DS.synced
  by_cases hd : s.dead = true
  · simp only [if_pos hd]
    rw [hd] at c1
    have H := Aside0.mk h
    clear h
    go_enter Try.func35, Try.ntmps35
    go_wp2
    go_ret
    exact ⟨rfl, H.out, Tn.refl _ _⟩
  · simp only [if_neg hd]
    have hd' : s.dead = false := by cases hs : s.dead with | true => exact absurd hs hd | false => rfl
    by_cases h0 : s.fuse = 0
    · simp only [if_pos h0]
      rw [hd'] at c1
      have H := Aside0.mk h
      clear h
      go_enter Try.func35, Try.ntmps35
      go_wp2_with fail
      refine (rburn_any H.out hf).mono ?_
      rw [if_pos h0]
      rintro e w1 ⟨rfl, hR, hT⟩
      have HR := Aside0.mk hR
      have HT := Aside0.mk hT
      clear hR hT
      go_wp2
      go_ret
      exact ⟨rfl, HR.out, HT.out⟩
    · simp only [if_neg h0]
      exact rsync_in h hd' h0 hf

/-- An empty row of one's own. -/
theorem r_empty (W : World) (base : Nat) (ok : Nat → Prop) (hb : base ≤ W.heap.size) (hok : ok W.heap.size) : (Kd.int .u8).R 5 (W.alloc (.cells #[] 5)) base ok (.slice (some ⟨W.heap.size, 0, none⟩) 0 0) [] :=
  ⟨fun k hk => by
    have e : W.heap.size = k := by simpa [Value.ownBlock] using hk
    rw [← e]; exact hok, [], ⟨rfl, .inr ⟨W.heap.size, 0, #[], rfl, hb, blk_new _ _, Nat.le_refl _, Nat.zero_le _, rfl, rfl⟩⟩, Reps.none _ _⟩
theorem size_u8r (w : World) : (Go.sizeOf 5).run Try.prog w = .ok 1 w := by
  obtain ⟨i0, hi0, _, hzs, _⟩ := info_u8
  simp [Go.sizeOf, typeInfo, Sem.run_bind, hi0, hzs, Result.andThen]
/-- The part of a row behind a place. -/
theorem slice_from (g G c : Nat) (hc : c ≤ 64) (hG : 64 ≤ G) : ∃ (A : Option Addr) (C : Nat), (∀ W : World, (Instr.slice 30 (.slice (some ⟨g, 0, none⟩) 64 G) (some (.int .i64 (c : Int))) none none).run Try.prog W = .ok (.slice A (64 - c) C) W) ∧ ∀ (W : World) (cur : Array Value) (f : Nat → Int), W.heap[g]? = some (.cells cur 5 (0, 0)) → (∀ i, i < 64 → cur[i]? = some (.int .u8 (f i))) → By W A (64 - c) (fun i => f (c + i)) := by
  refine ⟨if G = c then some ⟨g, 0, none⟩ else some ⟨g, c, none⟩, G - c, fun W => ?_, fun W cur f h1 h2 => ?_⟩
  · have e := run_slice_l (P := Try.prog) (w := W) 30 (some ⟨g, 0, none⟩) 64 G Try.underlying30 .i64 (c : Int) (by omega) (by omega)
    rw [e]
    have e2 : Try.prog.elem 30 = 5 := by kernel_rfl
    rw [e2, size_u8r]
    simp only [Result.andThen, sliced, Int.toNat_natCast]
    by_cases h : G = c
    · rw [if_pos h, if_pos h]
    · rw [if_neg h, if_neg h]
      simp [Addr.add]
      omega
  · by_cases h64 : c = 64
    · exact .inl (by omega)
    · rw [if_neg (by omega)]
      refine .inr ⟨_, rfl, fun i hi => ?_⟩
      rw [Addr.add_lit]
      exact (blk_cell h1 _).trans (h2 _ (by omega))
/-- The first i sectors brought back. -/
def DS.backTo (s : DS) (fates : List Int) (i : Nat) : DS := { s with la := fun j => if j / 64 < i then s.left fates j else s.la j, wt := fun k => if k < i then none else s.wt k }
theorem idx_cnt (s : DS) (i : Nat) : s.idx i = s.cntTo i := rfl
/-- How much of a sector is taken. -/
def takes (s : DS) (fates : List Int) (i : Nat) : Nat := if s.cntTo i < fates.length then cut (fates.getD (s.cntTo i) 0) else 0
theorem takes_le (s : DS) (fates : List Int) (i : Nat) : takes s fates i ≤ 64 := by
  unfold takes
  split
  · exact cut_le _
  · omega
theorem left_takes {s : DS} {fates : List Int} {i : Nat} {f : Nat → Int} (h : s.wt i = some f) (c : Nat) (hc : c < 64) : s.left fates (64 * i + c) = if c < takes s fates i then f c else s.la (64 * i + c) := by
  unfold DS.left takes
  rw [show (64 * i + c) / 64 = i by omega, show (64 * i + c) % 64 = c by omega, h]
  show (if s.cntTo i < fates.length ∧ c < cut (fates.getD (s.cntTo i) 0) then f c else s.la (64 * i + c)) = _
  by_cases h1 : s.cntTo i < fates.length
  · rw [if_pos h1]
    by_cases h2 : c < cut (fates.getD (s.cntTo i) 0)
    · rw [if_pos ⟨h1, h2⟩, if_pos h2]
    · rw [if_neg (fun h => h2 h.2), if_neg h2]
  · rw [if_neg (fun h => h1 h.1), if_neg h1, if_neg (by omega)]
/-- A row of one's own, made new, as one of the disk's. -/
theorem RowIn.of_r {w1 : World} {base : Nat} {ok : Nat → Prop} {v : Value} {xs : List Int} (h : (Kd.int .u8).R 5 w1 base ok v xs) (hl : xs.length = 64) (B : Nat → Prop) (hB : ∀ k, ok k → B k) : RowIn w1 B v (fun i => xs.getD i 0) := by
  have hr := h
  obtain ⟨A, c, rfl, hc, hC⟩ := Kd.R_reads h
  obtain ⟨inner, ho⟩ := Kd.R_own hr
  rw [hl] at *
  rcases ho.2 with ⟨he, h0⟩ | ⟨g, cap, cur, he, hb, h2, h3, h4, h5, h6⟩
  · omega
  · injection he with e1 e2 e3
    subst e1
    subst e3
    refine ⟨g, c, cur, rfl, hc, by unfold maxLen at h4; omega, hB _ (hr.1 g (by simp [Value.ownBlock])), h2, fun i hi => ?_⟩
    obtain ⟨ad, cs, hae, _, hK, hcell⟩ := Kd.C_get hC 0 (i : Int) (by omega) (by omega)
    injection hae with hae
    subst hae
    rw [show cs = _ from hK] at hcell
    have := hcell 0 _ rfl
    rw [Int.toNat_natCast, Addr.add_lit] at this
    have e : 0 + (i * (Kd.int .u8).sz + 0) = i := by show 0 + (i * 1 + 0) = i; omega
    rw [e, blk_cell h2] at this
    exact this
theorem backs (s : DS) (fates : List Int) (i : Nat) {f : Nat → Int} (h : s.wt i = some f) (xs : List Int) (hx : xs = ((List.range (takes s fates i)).map f) ++ (List.range (64 - takes s fates i)).map (fun j => s.la (64 * i + (takes s fates i + j)))) : xs.length = 64 ∧ ∀ c, c < 64 → xs.getD c 0 = s.left fates (64 * i + c) := by
  have hle := takes_le s fates i
  refine ⟨by rw [hx]; simp; omega, fun c hc => ?_⟩
  rw [left_takes h c hc, hx, List.getD_eq_getElem?_getD, List.getElem?_append]
  by_cases h1 : c < takes s fates i
  · rw [if_pos h1, if_pos (by simpa using h1)]
    simp [h1]
  · rw [if_neg h1, if_neg (by simpa using h1)]
    simp only [List.length_map, List.length_range, List.getElem?_map]
    rw [List.getElem?_range (by omega)]
    show s.la (64 * i + (takes s fates i + (c - takes s fates i))) = _
    rw [show takes s fates i + (c - takes s fates i) = c by omega]
end Go.Proofs.Ytojpmihgpjmobaa.X
