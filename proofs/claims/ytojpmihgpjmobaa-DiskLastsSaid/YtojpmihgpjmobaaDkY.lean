/- stays: is each sector as it was that no write names? -/
import Derived.Test.YtojpmihgpjmobaaDkX
import Derived.Test.YtojpmihgpjmobaaDkT
import Derived.Lib.SlBytesRow
import Derived.BigQuiet
import Derived.Deep.QuietTactic
namespace Go.Proofs.Ytojpmihgpjmobaa.X
open Go Go.RowKit Go.Maps Go.Shelf Go.Proofs.Ytojpmihgpjmobaa Go.Proofs.YtojpmihgpjmobaaW.PrintWords Go.Proofs.YtojpmihgpjmobaaW.PrintLast Go.Proofs.YtojpmihgpjmobaaW.PrintMore
set_option linter.unusedVariables false
set_option linter.unusedSimpArgs false

theorem info_bool : ∃ i0, Try.prog.info? 4 = some i0 ∧ i0.zero = some (.bool false) ∧ i0.size = 1 ∧ i0.bytes = 1 := by
  have h : (Try.prog.info? 4).map (fun i => (i.zero, i.size, i.bytes)) = some (some (.bool false), 1, 1) := by kernel_rfl
  obtain ⟨i0, hi, hz⟩ := Option.map_eq_some_iff.1 h
  simp only [Prod.mk.injEq] at hz
  exact ⟨i0, hi, hz.1, hz.2.1, hz.2.2⟩
theorem made_getb (k i : Nat) (h : i < k) : (madeCells #[.bool false] k)[i]? = some (.bool false) := by
  simp [madeCells, Value.cells, h, Nat.mod_one]
theorem make_runb (W : World) (n : Nat) (hn : n ≤ 140737488355328) : (Instr.makeSlice 40 (.int .i64 (n : Int)) (.int .i64 (n : Int))).run Try.prog W = .ok (.slice (some ⟨W.heap.size, 0, none⟩) n n) (W.alloc (.cells (madeCells #[.bool false] n) 4)) := by
  obtain ⟨i0, hi0, hz0, hzs, hzb⟩ := info_bool
  have := run_make (P := Try.prog) W 40 4 i0 (.bool false) Try.underlying40 hi0 hz0 .i64 .i64 (n : Int) (n : Int) (by omega) (by omega) (by rw [hzb]; omega) (by omega)
  rw [hzs, Int.toNat_natCast, Nat.mul_one] at this
  exact this
theorem drewN_below {B : Nat} (w : World) (n : Nat) : Below B w (w.drewN n) := ⟨rfl, rfl, rfl, Nat.le_refl _, fun _ _ => rfl⟩
/-- A row of n marks at block g. -/
def BRow (W : World) (g n : Nat) (T : Nat → Bool) : Prop := ∃ cur, W.heap[g]? = some (.cells cur 4 (0, 0)) ∧ cur.size = n ∧ ∀ i, i < n → cur[i]? = some (.bool (T i))
theorem BRow.cell {W : World} {g n : Nat} {T : Nat → Bool} (h : BRow W g n T) {i : Nat} (hi : i < n) : W.cell? ⟨g, i, none⟩ = some (.bool (T i)) := by
  obtain ⟨cur, h1, _, h2⟩ := h
  exact (blk_cell h1 i).trans (h2 i hi)
theorem BRow.put {W : World} {g n : Nat} {T : Nat → Bool} (h : BRow W g n T) {k : Nat} (hk : k < n) : BRow (W.setCell ⟨g, k, none⟩ (.bool true)) g n (fun i => if i = k then true else T i) := by
  obtain ⟨cur, h1, h2, h3⟩ := h
  refine ⟨_, blk_set h1 _ _, by rw [Array.size_setIfInBounds]; exact h2, fun i hi => ?_⟩
  rw [Array.getElem?_setIfInBounds]
  by_cases e : k = i
  · subst e
    simp only [if_true]
    rw [if_pos (by omega)]
  · have e2 : ¬ i = k := fun e' => e e'.symm
    simp only [if_neg e, if_neg e2]
    exact h3 i hi
theorem BRow.frozen {W : World} {g n : Nat} {T : Nat → Bool} (h : BRow W g n T) (i : Nat) : W.frozen? ⟨g, i, none⟩ = false := by
  obtain ⟨cur, h1, _⟩ := h
  exact blk_frozen h1 i
theorem row_madeb (W : World) (n : Nat) : BRow (W.alloc (.cells (madeCells #[.bool false] n) 4)) W.heap.size n (fun _ => false) := ⟨_, blk_new W _, by simp [madeCells], fun i hi => made_getb n i hi⟩

/-- Does a write name the sector among its first m? -/
def Names (x : SAct) (m s : Nat) : Prop := x.f0 = 0 ∧ ∃ k : Nat, k < m ∧ 0 ≤ x.f1 ∧ x.f1 + k = s
def Mk (xs : List SAct) (i : Nat) (T : Nat → Bool) : Prop := ∀ s, s < 40 → T s = false → ∀ j, j < i → ¬ Names (xs.getD j zAct) ((xs.getD j zAct).f3.length / 64) s
def Mk2 (xs : List SAct) (i m : Nat) (T : Nat → Bool) : Prop := Mk xs i T ∧ ∀ s, s < 40 → T s = false → ¬ Names (xs.getD i zAct) m s
theorem Mk.more {xs : List SAct} {i : Nat} {T : Nat → Bool} (h : Mk xs i T) (hn : (xs.getD i zAct).f0 ≠ 0) : Mk xs (i + 1) T := fun s hs ht j hj => by
  by_cases e : j = i
  · rw [e]; exact fun hq => hn hq.1
  · exact h s hs ht j (by omega)
theorem Mk.open_ {xs : List SAct} {i : Nat} {T : Nat → Bool} (h : Mk xs i T) : Mk2 xs i 0 T := ⟨h, fun s _ _ hq => by obtain ⟨_, k, hk, _⟩ := hq; omega⟩
theorem Mk2.close {xs : List SAct} {i : Nat} {T : Nat → Bool} (h : Mk2 xs i ((xs.getD i zAct).f3.length / 64) T) : Mk xs (i + 1) T := fun s hs ht j hj => by
  by_cases e : j = i
  · rw [e]; exact h.2 s hs ht
  · exact h.1 s hs ht j (by omega)
theorem Mk2.skip {xs : List SAct} {i m : Nat} {T : Nat → Bool} (h : Mk2 xs i m T) (ho : (xs.getD i zAct).f1 < 0 ∨ 40 ≤ (xs.getD i zAct).f1 + m) : Mk2 xs i (m + 1) T := ⟨h.1, fun s hs ht hq => by
  obtain ⟨q0, k, hk, h1, h2⟩ := hq
  by_cases e : k = m
  · subst e; omega
  · exact h.2 s hs ht ⟨q0, k, by omega, h1, h2⟩⟩
theorem Mk2.set {xs : List SAct} {i m a : Nat} {T : Nat → Bool} (h : Mk2 xs i m T) (ha : (xs.getD i zAct).f1 = (a : Int)) : Mk2 xs i (m + 1) (fun j => if j = a + m then true else T j) := by
  have key : ∀ s, (if s = a + m then true else T s) = false → s ≠ a + m ∧ T s = false := fun s hs => by
    by_cases e : s = a + m
    · rw [if_pos e] at hs; cases hs
    · rw [if_neg e] at hs; exact ⟨e, hs⟩
  refine ⟨fun s hs ht => h.1 s hs (key s ht).2, fun s hs ht hq => ?_⟩
  obtain ⟨h1, h2⟩ := key s ht
  obtain ⟨q0, k, hk, q1, q2⟩ := hq
  by_cases e : k = m
  · subst e; omega
  · exact h.2 s hs h2 ⟨q0, k, by omega, q1, q2⟩
theorem size_u8 (w : World) : (Go.sizeOf 5).run Try.prog w = .ok 1 w := by
  obtain ⟨i0, hi0, _, hzs, _⟩ := info_u8
  simp [Go.sizeOf, typeInfo, Sem.run_bind, hi0, hzs, Result.andThen]
theorem slice_sec (G g s : Nat) (h : 64 * s + 64 ≤ G) (W : World) : (Instr.slice 30 (.slice (some ⟨g, 0, none⟩) 2560 G) (some (.int .i64 ((s : Int) * 64))) (some (.int .i64 (((s : Int) + 1) * 64))) none).run Try.prog W = .ok (.slice (some ⟨g, 64 * s, none⟩) 64 (G - 64 * s)) W := by
  have := Lib.run_slice_window (P := Try.prog) W 30 5 Try.underlying30 size_u8 g 0 2560 G (64 * s) (64 * s + 64) (by omega) h
  rw [show ((64 * s : Nat) : Int) = (s : Int) * 64 by omega, show ((64 * s + 64 : Nat) : Int) = ((s : Int) + 1) * 64 by omega, Nat.zero_add, show 64 * s + 64 - 64 * s = 64 by omega] at this
  exact this
theorem row_str_at {W : World} {g o n G : Nat} {f : Nat → Int} (h : ∀ i, i < n → W.cell? ⟨g, o + i, none⟩ = some (.int .u8 (f (o + i)))) : (convert 30 9 (.slice (some ⟨g, o, none⟩) n G)).run Try.prog W = .ok (.string (strOfNums ((List.range n).map fun i => f (o + i)))) W := by
  refine run_convert_bytes_arg W _ _ Try.underlying30 Try.underlying5 g o n G _ (by simp) (fun i hi => ?_) _ Try.underlying9
  rw [h i hi]
  simp [List.getD, hi]
set_option maxRecDepth 100000 in
set_option maxHeartbeats 8000000 in
theorem stays_any (w W : World) (gw Gw go Go' : Nat) (fw fo : Nat → Int) (A : Option Addr) (c : Nat) (xs : List SAct) (hw : ∀ i, i < 2560 → W.cell? ⟨gw, i, none⟩ = some (.int .u8 (fw i))) (ho : ∀ i, i < 2560 → W.cell? ⟨go, i, none⟩ = some (.int .u8 (fo i))) (hGw : 2560 ≤ Gw) (hGo : 2560 ≤ Go')
    (hr : kAct.C w A xs.length xs) (hb : Below w.heap.size w W) (hm : xs.length ≤ 140737488355328) (hx : ∀ x ∈ xs, GoodAct x)
    (hst : ∀ s, s < 40 → (∀ j, j < xs.length → ¬ Names (xs.getD j zAct) ((xs.getD j zAct).f3.length / 64) s) → ∀ i, i < 64 → fo (64 * s + i) = fw (64 * s + i)) :
    Calls Try.prog 17 #[.slice (some ⟨gw, 0, none⟩) 2560 Gw, .slice (some ⟨go, 0, none⟩) 2560 Go', .slice A xs.length c] W fun e w' => e = .returned (.bool true) ∧ Below W.heap.size W w' := by
  have HR := Aside0.mk hr
  have HB := Aside0.mk hb
  have HW := Aside0.mk hw
  have HO := Aside0.mk ho
  have HX := Aside0.mk hx
  have HST := Aside0.mk hst
  clear hr hb hw ho hx hst
  have hmk : ∀ W : World, (Instr.makeSlice 40 (.int .i64 40) (.int .i64 40)).run Try.prog W = .ok (.slice (some ⟨W.heap.size, 0, none⟩) 40 40) (W.alloc (.cells (madeCells #[.bool false] 40) 4)) := fun W => make_runb W 40 (by decide)
  have HT0 := Aside0.mk (row_madeb W 40)
  have HX0 := Aside0.mk ((Below.refl _ W).alloc (Nat.le_refl _) (.cells (madeCells #[.bool false] 40) 4))
  go_enter Try.func17, Try.ntmps17
  go_wp2
  go_loopw [8] (fun i wr => ∃ k : Nat, k ≤ xs.length ∧ i = .int .i64 k ∧ Aside0 (∃ T, BRow wr W.heap.size 40 T ∧ Mk xs k T) ∧ Aside0 (Below W.heap.size W wr)) (fun i _ => xs.length - (intOf i).toNat)
  case atStart => exact ⟨0, Nat.zero_le _, rfl, ⟨_, HT0.out, fun s _ _ j hj => by omega⟩, HX0⟩
  case round =>
    obtain ⟨k, hk1, rfl, hT, hQ⟩ := hrel
    by_cases hlt : k < xs.length
    · obtain ⟨ad, A3, c3, A4, c4, rfl, HA, HAw⟩ := act_at HR.out (HB.out.trans (hQ.out.mono HB.out.size)) k hlt
      have hgood := HX.out _ (show xs.getD k zAct ∈ xs by rw [List.getD_eq_getElem?_getD, List.getElem?_eq_getElem hlt]; exact List.getElem_mem hlt)
      obtain ⟨T, hT1, hT2⟩ := hT.out
      have hB0 := HB.out.trans (hQ.out.mono HB.out.size)
      have hlen := hgood.2.2.2.1.2.1
      have HM := Aside0.mk hT2
      obtain ⟨x, hxe⟩ : ∃ x, x = xs.getD k zAct := ⟨_, rfl⟩
      rw [← hxe] at HA HAw hlen
      have HXE := Lib.hid hxe
      have HAW := Aside0.mk HAw
      obtain ⟨⟨q0, q1, q2⟩, ⟨q3, q4⟩, q5, _⟩ := HA
      clear hxe HAw hgood hT hT2
      by_cases hf : x.f0 = 0
      · rw [hf] at q0
        have hq64 : (x.f3.length : Int).tdiv 64 = ((x.f3.length / 64 : Nat) : Int) := by rw [Int.tdiv_eq_ediv_of_nonneg (by omega)]; omega
        have HT1 := Aside0.mk hT1
        go_wp2
        obtain ⟨wo, hwo⟩ : ∃ z, z = wr := ⟨_, rfl⟩
        subst hwo
        go_loopw [9] (fun i2 wr => ∃ m : Nat, m ≤ x.f3.length / 64 ∧ i2 = .int .i64 m ∧ Aside0 (∃ T, BRow wr W.heap.size 40 T ∧ Mk2 xs k m T) ∧ Aside0 (Below W.heap.size W wr)) (fun i2 _ => x.f3.length / 64 - (intOf i2).toNat)
        case atStart => exact ⟨0, Nat.zero_le _, rfl, ⟨T, HT1.out, HM.out.open_⟩, hQ⟩
        case round =>
          obtain ⟨m, hm1, rfl, hT, hQ2⟩ := hrel
          obtain ⟨T, hT1, hT2⟩ := hT.out
          have hB1 := HB.out.trans (hQ2.out.mono HB.out.size)
          have st : ∀ {a : Addr} {v : Value}, w.cell? a = some v → wr.cell? a = some v := fun {a v} hv => (hB1.cell (World.block_lt_of_cell? w _ hv)).trans hv
          obtain ⟨⟨r0, r1, r2⟩, ⟨r3, r4⟩, r5, _⟩ := HAW.out
          have q0 := st r0
          have q1 := st r1
          have q3 := st r3
          have HM2 := Aside0.mk hT2
          clear r0 r1 r2 r3 r4 r5 st hT hT2
          by_cases hlm : m < x.f3.length / 64
          · have hmi : (m : Int) < ((x.f3.length / 64 : Nat) : Int) := by omega
            have hcs : (0 ≤ x.f1 ∧ x.f1 < 40 ∧ (m : Int) < 40 - x.f1) ∨ x.f1 < 0 ∨ (0 ≤ x.f1 ∧ 40 ≤ x.f1) ∨ (0 ≤ x.f1 ∧ x.f1 < 40 ∧ 40 - x.f1 ≤ m) := by omega
            rcases hcs with ⟨h1, h2, h3⟩ | h1 | ⟨h1, h2⟩ | ⟨h1, h2, h3⟩
            · obtain ⟨a, ha⟩ := Int.eq_ofNat_of_zero_le h1
              have HA1 := Lib.hid ha
              rw [ha] at q1 h1 h2 h3
              have n1 : IntKind.i64.wrap (40 - (a : Int)) = 40 - (a : Int) := by rw [IntKind.wrap_i64]; omega
              have n2 : IntKind.i64.wrap ((a : Int) + (m : Int)) = (a : Int) + (m : Int) := by rw [IntKind.wrap_i64]; omega
              have n3 : ((a : Int) + (m : Int)).toNat = a + m := by omega
              have n4 : a + m < 40 := by omega
              have n5 : (a : Int) + (m : Int) < 40 := by omega
              have n6 : (0 : Int) ≤ (a : Int) + (m : Int) := by omega
              have hck := hT1.cell n4
              have hfz := hT1.frozen (a + m)
              have HT2 := Aside0.mk (hT1.put n4)
              have HQ3 := Aside0.mk (hQ2.out.setCell (p := ⟨W.heap.size, a + m, none⟩) (Nat.le_refl _) (.bool true))
              clear hT1 ha
              go_wp2
              go_roundw
              case rel => exact ⟨m + 1, by omega, by go_num, ⟨_, HT2.out, HM2.out.set (by rw [← HXE.out]; exact HA1.out)⟩, HQ3⟩
              case measure => simp [intOf]; omega
            · have n1 : ¬ 0 ≤ x.f1 := by omega
              have HT2 := Aside0.mk hT1
              clear hT1
              go_wp2
              go_roundw
              case rel => exact ⟨m + 1, by omega, by go_num, ⟨_, HT2.out, HM2.out.skip (by rw [← HXE.out]; omega)⟩, hQ2⟩
              case measure => simp [intOf]; omega
            · have n1 : ¬ x.f1 < 40 := by omega
              have HT2 := Aside0.mk hT1
              clear hT1
              go_wp2
              go_roundw
              case rel => exact ⟨m + 1, by omega, by go_num, ⟨_, HT2.out, HM2.out.skip (by rw [← HXE.out]; omega)⟩, hQ2⟩
              case measure => simp [intOf]; omega
            · have n1 : IntKind.i64.wrap (40 - x.f1) = 40 - x.f1 := by rw [IntKind.wrap_i64]; omega
              have n2 : ¬ (m : Int) < 40 - x.f1 := by omega
              have HT2 := Aside0.mk hT1
              clear hT1
              go_wp2
              go_roundw
              case rel => exact ⟨m + 1, by omega, by go_num, ⟨_, HT2.out, HM2.out.skip (by rw [← HXE.out]; omega)⟩, hQ2⟩
              case measure => simp [intOf]; omega
          · obtain rfl : m = x.f3.length / 64 := by omega
            have HT2 := Aside0.mk hT1
            clear hT1 hlm
            go_wp2
            go_roundw
            case rel => exact ⟨k + 1, by omega, by go_num, ⟨_, HT2.out, by have q := HM2.out; rw [HXE.out] at q; exact q.close⟩, hQ2⟩
            case measure => simp [intOf]; omega
      · have HT2 := Aside0.mk hT1
        clear hT1
        go_wp2
        go_roundw
        case rel => exact ⟨k + 1, by omega, by go_num, ⟨_, HT2.out, HM.out.more (by rw [← HXE.out]; exact hf)⟩, hQ⟩
        case measure => simp [intOf]; omega
    · obtain rfl : k = xs.length := by omega
      obtain ⟨T, hT1, hT2⟩ := hT.out
      have HT1 := Aside0.mk hT1
      have HM := Aside0.mk hT2
      have HB2 := Aside0.mk hQ.out
      clear hlt hT hT1 hT2
      go_wp2
      obtain ⟨wo, hwo⟩ : ∃ z, z = wr := ⟨_, rfl⟩
      subst hwo
      go_loopw [11] (fun i2 wr => ∃ m : Nat, m ≤ 40 ∧ i2 = .int .i64 m ∧ Aside0 (Below wo.heap.size wo wr)) (fun i2 _ => 40 - (intOf i2).toNat)
      case atStart => exact ⟨0, by decide, rfl, ⟨Below.refl _ _⟩⟩
      case round =>
        obtain ⟨s, hs1, rfl, hq⟩ := hrel
        by_cases hlt : s < 40
        · have ct0 := HT1.out.cell hlt
          have ct := (hq.out.cell (World.block_lt_of_cell? wo _ ct0)).trans ct0
          clear ct0
          have HQD := Aside0.mk (hq.out.drew)
          cases hTs : T s
          · rw [hTs] at ct
            have hst := HST.out s hlt (fun j hj => HM.out s hlt hTs j hj)
            have hwW : ∀ W2 : World, W2.heap = wr.heap → ∀ i, i < 64 → W2.cell? ⟨gw, 64 * s + i, none⟩ = some (.int .u8 (fw (64 * s + i))) := fun W2 h2 i hi => by
              have q := HW.out (64 * s + i) (by omega)
              have q2 := (HB2.out.cell (World.block_lt_of_cell? W _ q)).trans q
              rw [← (hq.out.cell (World.block_lt_of_cell? wo _ q2)).trans q2]
              simp only [World.cell?, h2]
            have hoW : ∀ W2 : World, W2.heap = wr.heap → ∀ i, i < 64 → W2.cell? ⟨go, 64 * s + i, none⟩ = some (.int .u8 (fw (64 * s + i))) := fun W2 h2 i hi => by
              have q := HO.out (64 * s + i) (by omega)
              rw [hst i hi] at q
              have q2 := (HB2.out.cell (World.block_lt_of_cell? W _ q)).trans q
              rw [← (hq.out.cell (World.block_lt_of_cell? wo _ q2)).trans q2]
              simp only [World.cell?, h2]
            obtain ⟨S, hS⟩ : ∃ S, S = strOfNums ((List.range 64).map fun i => fw (64 * s + i)) := ⟨_, rfl⟩
            have k1 := fun W2 h2 => row_str_at (G := Gw - 64 * s) (hwW W2 h2)
            have k2 := fun W2 h2 => row_str_at (G := Go' - 64 * s) (hoW W2 h2)
            rw [← hS] at k1 k2
            have K1 := Aside0.mk k1
            have K2 := Aside0.mk k2
            have w1 : IntKind.i64.wrap ((s : Int) * 64) = (s : Int) * 64 := by rw [IntKind.wrap_i64]; omega
            have w2 : IntKind.i64.wrap ((s : Int) + 1) = (s : Int) + 1 := by rw [IntKind.wrap_i64]; omega
            have w3 : IntKind.i64.wrap (((s : Int) + 1) * 64) = ((s : Int) + 1) * 64 := by rw [IntKind.wrap_i64]; omega
            have j1 := slice_sec (Gw) gw s (by omega)
            have j2 := slice_sec (Go') go s (by omega)
            clear hst hwW hoW hS hTs k1 k2
            go_upto_region 15 with (fail)
            go_region_held3 (fun W' => W'.cell? ⟨W.heap.size, s, none⟩ = some (.bool false) ∧ (convert 30 9 (.slice (some ⟨gw, 64 * s, none⟩) 64 (Gw - 64 * s))).run Try.prog W' = .ok (.string S) W' ∧ (convert 30 9 (.slice (some ⟨go, 64 * s, none⟩) 64 (Go' - 64 * s))).run Try.prog W' = .ok (.string S) W') (exact ⟨ct, K1.out _ rfl, K2.out _ rfl⟩) (fail)
            all_goals
              go_wp2
              go_roundw
              case rel => exact ⟨s + 1, by omega, by go_num, HQD⟩
              case measure => simp [intOf]; omega
          · rw [hTs] at ct
            clear hTs
            go_upto_region 15 with (fail)
            go_quiet (fail)
            all_goals
              go_wp2
              go_roundw
              case rel => exact ⟨s + 1, by omega, by go_num, ⟨hq.out.trans (drewN_below _ _)⟩⟩
              case measure => simp [intOf]; omega
        · obtain rfl : s = 40 := by omega
          have HQ2 := Aside0.mk (HB2.out.trans (hq.out.mono HB2.out.size))
          go_wp2
          go_ret
          exact ⟨rfl, HQ2.out⟩
end Go.Proofs.Ytojpmihgpjmobaa.X
