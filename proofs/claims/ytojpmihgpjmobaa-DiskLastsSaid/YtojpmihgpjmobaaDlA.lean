/- The law DiskLasts. -/
import Derived.Test.YtojpmihgpjmobaaDkZ
namespace Go.Proofs.Ytojpmihgpjmobaa.X
open Go Go.RowKit Go.Maps Go.Shelf Go.Proofs.Ytojpmihgpjmobaa Go.Proofs.YtojpmihgpjmobaaW.PrintWords Go.Proofs.YtojpmihgpjmobaaW.PrintLast Go.Proofs.YtojpmihgpjmobaaW.PrintMore
set_option linter.unusedVariables false
set_option linter.unusedSimpArgs false

/-- A write whose place and bytes stand in an act that came in. -/
theorem write_act {w W : World} {p : Nat} {s : DS} {B : Nat → Prop} (h : DiskAt W p s B) (hBs : ∀ k, B k → k < W.heap.size) (hBw : ∀ k, B k → w.heap.size ≤ k) (hf : s.fuse ≤ 9223372036854775807) (hb : Below w.heap.size w W) (ad : Addr) (x : SAct) (A3 : Option Addr) (c3 : Nat) (A4 : Option Addr) (c4 : Nat) (hx : ActAt w ad x A3 c3 A4 c4) (hn : x.f3.length ≤ 9223372036854775807) :
    Calls Try.prog 11 #[dptr p, .int .i64 x.f1, .slice A3 x.f3.length c3] W fun e w' => e = .returned (.int .i64 (s.writeE x.f1 x.f3.length)) ∧ (w'.cell? ⟨ad.block, ad.off + 1, none⟩ = some (.int .i64 x.f1) ∧ w'.cell? ⟨ad.block, ad.off + 3, none⟩ = some (.slice A3 x.f3.length c3)) ∧ DiskAt w' p (s.written x.f1 x.f3.length (fun i => x.f3.getD i 0)) (New W B) ∧ Tn W w' B := by
  obtain ⟨⟨q0, q1, q2⟩, ⟨q3, q4⟩, q5, l3, g3, l4, g4⟩ := hx
  have hby : By w A3 x.f3.length (fun i => x.f3.getD i 0) := By.of_reads g3
  refine (write_all h hBs hf x.f1 x.f3.length c3 A3 (fun i => x.f3.getD i 0) (fun a e h0 hB => ?_) (hby.below hb) l3 hn).mono ?_
  · rcases hby with h1 | ⟨ad', e', hr⟩
    · omega
    · rw [e] at e'
      obtain rfl := Option.some.inj e'
      have h1 := World.block_lt_of_cell? w _ (hr 0 h0)
      rw [add_block] at h1
      have := hBw _ hB
      omega
  · rintro e w' ⟨rfl, hD, hT⟩
    have hbw := hT.to_below hb hBw
    exact ⟨rfl, ⟨(hbw.cell (World.block_lt_of_cell? w _ q1)).trans q1, (hbw.cell (World.block_lt_of_cell? w _ q3)).trans q3⟩, hD, hT⟩
theorem fa_below {w W : World} {A : Option Addr} {xs : List Int} (h : FaAt w A xs) (hb : Below w.heap.size w W) : FaAt W A xs := fun i x hx => by
  obtain ⟨ad, e, hc⟩ := h i x hx
  exact ⟨ad, e, (hb.cell (World.block_lt_of_cell? w _ hc)).trans hc⟩
/-- n bytes at block g. -/
def CellsAt (W : World) (g n : Nat) (f : Nat → Int) : Prop := g < W.heap.size ∧ ∀ i, i < n → W.cell? ⟨g, i, none⟩ = some (.int .u8 (f i))
theorem CellsAt.step {W W1 : World} {g n : Nat} {f : Nat → Int} (h : CellsAt W g n f) (hs : W.heap.size ≤ W1.heap.size) (he : W1.heap[g]? = W.heap[g]?) : CellsAt W1 g n f := ⟨Nat.lt_of_lt_of_le h.1 hs, fun i hi => (cell_heap he i).trans (h.2 i hi)⟩
theorem CellsAt.below {W W1 : World} {g n : Nat} {f : Nat → Int} (h : CellsAt W g n f) (hb : Below W.heap.size W W1) : CellsAt W1 g n f := h.step hb.size (hb.block g h.1)
theorem CellsAt.tn {W W1 : World} {g n : Nat} {f : Nat → Int} {B : Nat → Prop} (h : CellsAt W g n f) (ht : Tn W W1 B) (hg : ¬ B g) : CellsAt W1 g n f := h.step ht.size (ht.block g h.1 hg)
/-- The disk's blocks: new since w, and not g. -/
def BB (w : World) (g : Nat) (W : World) : Nat → Prop := fun j => w.heap.size ≤ j ∧ j ≠ g ∧ j < W.heap.size
theorem act_mem {xs : List SAct} {k : Nat} (h : k < xs.length) : xs.getD k zAct ∈ xs := by
  rw [List.getD_eq_getElem?_getD, List.getElem?_eq_getElem h]; exact List.getElem_mem h
set_option maxRecDepth 100000 in
set_option maxHeartbeats 16000000 in
theorem diskLasts_any (w : World) (A1 : Option Addr) (c1 : Nat) (xs : List SAct) (A2 : Option Addr) (c2 : Nat) (ys : List SAct) (A3 : Option Addr) (c3 : Nat) (fates : List Int)
    (hr1 : kAct.C w A1 xs.length xs) (hr2 : kAct.C w A2 ys.length ys) (hr3 : (Kd.int .i64).C w A3 fates.length fates) (hm1 : xs.length ≤ 140737488355328) (hm2 : ys.length ≤ 140737488355328) (hm3 : fates.length ≤ 140737488355328)
    (hx1 : ∀ x ∈ xs, GoodAct x) (hx2 : ∀ x ∈ ys, GoodAct x) (hx3 : ∀ x ∈ fates, -9223372036854775808 ≤ x ∧ x ≤ 9223372036854775807) :
    Calls Try.prog 3 #[.slice A1 xs.length c1, .slice A2 ys.length c2, .slice A3 fates.length c3] w fun e w' => e = .returned (.bool true) ∧ Below w.heap.size w w' := by
  have HR1 := Aside0.mk hr1
  have HR2 := Aside0.mk hr2
  have HFA := Aside0.mk (FaAt.of_reads hr3)
  have HX1 := Aside0.mk hx1
  have HX2 := Aside0.mk hx2
  have HX3 := Aside0.mk hx3
  clear hr1 hr2 hr3 hx1 hx2 hx3
  go_enter Try.func3, Try.ntmps3
  go_wp2_with fail
  refine (great_any w w A1 c1 xs HR1.out (Below.refl _ _) hm1).mono ?_
  rintro e w' ⟨⟨b1, rfl⟩, hq⟩
  obtain rfl := hq.symm
  cases b1
  case true =>
    go_wp2_with fail
    refine (wakes_any _).mono ?_
    rintro e w8 ⟨rfl, hb8⟩
    go_wp2
    go_ret
    exact ⟨rfl, hb8⟩
  go_wp2_with fail
  refine (great_any w w A2 c2 ys HR2.out (Below.refl _ _) hm2).mono ?_
  rintro e w' ⟨⟨b2, rfl⟩, hq⟩
  obtain rfl := hq.symm
  cases b2
  case true =>
    go_wp2_with fail
    refine (wakes_any _).mono ?_
    rintro e w8 ⟨rfl, hb8⟩
    go_wp2
    go_ret
    exact ⟨rfl, hb8⟩
  go_wp2_with fail
  refine (new_any 40 w).mono ?_
  intro e w1 hNp
  obtain ⟨⟨p, rfl, hD⟩, hb1⟩ := new_ok hNp (by decide) (by decide)
  have HD := Aside0.mk (hD.bound)
  have HB1 := Aside0.mk hb1
  clear hNp hD hb1
  go_wp2
  go_loopw [9] (fun i wr => ∃ k : Nat, k ≤ xs.length ∧ i = .int .i64 k ∧ Aside0 (∃ s, DiskAt wr p s (fun j => w.heap.size ≤ j ∧ j < wr.heap.size) ∧ La s) ∧ Aside0 (Below w.heap.size w wr)) (fun i _ => xs.length - (intOf i).toNat)
  case atStart => exact ⟨0, Nat.zero_le _, rfl, ⟨_, HD.out, la_new⟩, HB1⟩
  case round =>
    obtain ⟨k, hk1, rfl, hS, hB⟩ := hrel
    obtain ⟨s, hD, hL⟩ := hS.out
    have HL := Aside0.mk hL
    have hfu : s.fuse ≤ 9223372036854775807 := by rw [hL.2.2]; decide
    clear hS hL
    by_cases hlt : k < xs.length
    · obtain ⟨ad, A3', c3', A4', c4', rfl, HA, HAw⟩ := act_at HR1.out hB.out k hlt
      have hlen := (HX1.out _ (act_mem hlt)).2.2.2.1.2.1
      obtain ⟨x, hxe⟩ : ∃ x, x = xs.getD k zAct := ⟨_, rfl⟩
      rw [← hxe] at HA HAw hlen
      have HWA := Aside0.mk (write_act (W := wr.drew) (hD.step (fun _ _ _ => rfl)) (fun j hj => hj.2) (fun j hj => hj.1) hfu hB.out.drew _ x A3' c3' A4' c4' HAw hlen)
      have HWB := Aside0.mk (hB.out.drew)
      have HD0 := Aside0.mk hD
      obtain ⟨⟨q0, q1, q2⟩, ⟨q3, q4⟩, q5, _⟩ := HA
      clear hxe HAw hD
      by_cases hf0 : x.f0 = 0
      · rw [hf0] at q0
        go_upto_region 10 with (fail)
        go_region_held3 (fun W' => W'.cell? ⟨(ad.add (k * 6)).block, (ad.add (k * 6)).off + 1, none⟩ = some (.int .i64 x.f1) ∧ W'.cell? ⟨(ad.add (k * 6)).block, (ad.add (k * 6)).off + 3, none⟩ = some (.slice A3' x.f3.length c3')) (first | exact ⟨q1, q3⟩ | exact hq) ((go_at_call 11; refine HWA.out.mono ?_; rintro e w3 ⟨rfl, hq, hD3, hT3⟩))
        all_goals
          have HD3 := Aside0.mk (hD3.bound.mono (fun j hj => (⟨by
            rcases hj.1 with h | h
            · exact h.1
            · exact Nat.le_trans HWB.out.size h, hj.2⟩ : w.heap.size ≤ j ∧ j < _)))
          have HB3 := Aside0.mk (hT3.to_below HWB.out (fun j hj => hj.1))
          have HL3 := Aside0.mk (la_written HL.out x.f1 x.f3.length (fun i => x.f3.getD i 0))
          clear hD3 hT3
          go_wp2
          go_roundw
          case rel => exact ⟨k + 1, by omega, by go_num, ⟨_, HD3.out, HL3.out⟩, HB3⟩
          case measure => simp [intOf]; omega
      · go_wp2
        go_roundw
        case rel => exact ⟨k + 1, by omega, by go_num, ⟨_, HD0.out, HL.out⟩, hB⟩
        case measure => simp [intOf]; omega
    · obtain rfl : k = xs.length := by omega
      have HDs := Aside0.mk hD
      clear hD
      go_wp2_with fail
      refine (sync_all HDs.out hfu).mono ?_
      rw [(la_sync HL.out).1]
      rintro e w4 ⟨rfl, hD, hT⟩
      obtain ⟨F, hF⟩ : ∃ F, F = s.rd := ⟨_, rfl⟩
      obtain ⟨s1, hs1⟩ : ∃ s1, s1 = s.synced := ⟨_, rfl⟩
      have hls := lb_sync HL.out ys
      rw [← hF, ← hs1] at hls
      rw [← hs1] at hD
      obtain ⟨hlb, hd1, hrd1⟩ := hls
      have H4 := Aside0.mk hD.bound
      have HB4 := Aside0.mk (hT.to_below hB.out (fun j hj => hj.1))
      have HLB := Aside0.mk hlb
      clear hD hT hF hs1
      go_wp2_with fail
      refine (read_in H4.out hd1 0 40 (by rw [HLB.out.1]; decide) (by decide)).mono ?_
      rintro e w5 ⟨⟨v5, rfl, hFr⟩, hb5⟩
      obtain ⟨g, G, rfl, hG, hg5, hgl, hc5⟩ := Row.of_fresh hFr (by decide)
      have HG := Aside0.mk (show CellsAt w5 g 2560 F from ⟨hgl, fun i hi => by rw [hc5 i hi, show 64 * 0 + i = i by omega, hrd1]⟩)
      have H5 := Aside0.mk (show DiskAt w5 p s1 (BB w g w5) from (H4.out.below hb5).mono (fun j hj => ⟨hj.1.1, by have := hj.2; omega, by have := hj.2; have := hb5.size; omega⟩))
      have HB5 := Aside0.mk (HB4.out.trans (hb5.mono HB4.out.size))
      clear hFr hb5 hc5 hg5 hgl hd1 hrd1 H4 HB4 hlb
      go_wp2
      go_loopw [11] (fun i wr => ∃ k : Nat, k ≤ ys.length ∧ i = .int .i64 k ∧ Aside0 (∃ s, DiskAt wr p s (BB w g wr) ∧ Lb F ys k s) ∧ Aside0 (Below w.heap.size w wr) ∧ Aside0 (CellsAt wr g 2560 F)) (fun i _ => ys.length - (intOf i).toNat)
      case atStart => exact ⟨0, Nat.zero_le _, rfl, ⟨_, H5.out, HLB.out⟩, HB5, HG⟩
      case round =>
        clear HL HDs hB H5 HB5 HG HLB hfu
        obtain ⟨k, hk1, rfl, hS, hB, hC⟩ := hrel
        obtain ⟨s, hD, hL⟩ := hS.out
        have HL := Aside0.mk hL
        have hfu : s.fuse ≤ 9223372036854775807 := by rw [hL.2.1]; decide
        clear hS hL
        by_cases hlt : k < ys.length
        · obtain ⟨ad, A3', c3', A4', c4', rfl, HA, HAw⟩ := act_at HR2.out hB.out k hlt
          have hlen := (HX2.out _ (act_mem hlt)).2.2.2.1.2.1
          obtain ⟨x, hxe⟩ : ∃ x, x = ys.getD k zAct := ⟨_, rfl⟩
          rw [← hxe] at HA HAw hlen
          have HWA := Aside0.mk (write_act (W := wr.drew) (hD.step (fun _ _ _ => rfl)) (fun j hj => hj.2.2) (fun j hj => hj.1) hfu hB.out.drew _ x A3' c3' A4' c4' HAw hlen)
          have HWB := Aside0.mk (hB.out.drew)
          have HD0 := Aside0.mk hD
          have HXE := Lib.hid hxe
          obtain ⟨⟨q0, q1, q2⟩, ⟨q3, q4⟩, q5, _⟩ := HA
          clear hxe HAw hD
          by_cases hf0 : x.f0 = 0
          · rw [hf0] at q0
            go_upto_region 21 with (fail)
            go_region_held3 (fun W' => W'.cell? ⟨(ad.add (k * 6)).block, (ad.add (k * 6)).off + 1, none⟩ = some (.int .i64 x.f1) ∧ W'.cell? ⟨(ad.add (k * 6)).block, (ad.add (k * 6)).off + 3, none⟩ = some (.slice A3' x.f3.length c3')) (first | exact ⟨q1, q3⟩ | exact hq) ((go_at_call 11; refine HWA.out.mono ?_; rintro e w3 ⟨rfl, hq, hD3, hT3⟩))
            all_goals
              have hg0 : g < wr.heap.size := hC.out.1
              have HC3 := Aside0.mk ((show CellsAt wr.drew g 2560 F from hC.out.step (Nat.le_refl _) rfl).tn hT3 (fun h => h.2.1 rfl))
              have HD3 := Aside0.mk (hD3.bound.mono (fun j hj => (⟨by
                rcases hj.1 with h | h
                · exact h.1
                · exact Nat.le_trans HWB.out.size h, by
                rcases hj.1 with h | h
                · exact h.2.1
                · have : wr.heap.size ≤ j := h
                  omega, hj.2⟩ : BB w g _ j)))
              have HB3 := Aside0.mk (hT3.to_below HWB.out (fun j hj => hj.1))
              have HL3 := Aside0.mk (show Lb F ys (k + 1) (s.written x.f1 x.f3.length (fun i => x.f3.getD i 0)) from by rw [HXE.out]; exact lb_written HL.out (by rw [← HXE.out]; exact hf0) _)
              clear hD3 hT3
              go_wp2
              go_roundw
              case rel => exact ⟨k + 1, by omega, by go_num, ⟨_, HD3.out, HL3.out⟩, HB3, HC3⟩
              case measure => simp [intOf]; omega
          · by_cases hf4 : x.f0 = 4
            · rw [hf4] at q0
              go_wp2_with fail
              refine (kill_any HD0.out).mono ?_
              rintro e w3 ⟨rfl, hD3, hT3⟩
              have HC3 := Aside0.mk (hC.out.tn hT3 (fun h => h.2.1 rfl))
              have HD3 := Aside0.mk (hD3.mono (fun j hj => (⟨hj.1, hj.2.1, Nat.lt_of_lt_of_le hj.2.2 hT3.size⟩ : BB w g w3 j)))
              have HB3 := Aside0.mk (hT3.to_below hB.out (fun j hj => hj.1))
              have HL3 := Aside0.mk (lb_kill HL.out)
              clear hD3 hT3
              go_wp2
              go_roundw
              case rel => exact ⟨k + 1, by omega, by go_num, ⟨_, HD3.out, HL3.out⟩, HB3, HC3⟩
              case measure => simp [intOf]; omega
            · have HL3 := Aside0.mk (lb_next HL.out)
              go_wp2
              go_roundw
              case rel => exact ⟨k + 1, by omega, by go_num, ⟨_, HD0.out, HL3.out⟩, hB, hC⟩
              case measure => simp [intOf]; omega
        · obtain rfl : k = ys.length := by omega
          have HDs := Aside0.mk hD
          obtain ⟨n1, n2, n3, _⟩ := HL.out
          have HSt := Aside0.mk (fun (m : Nat) (hm : m < 40) (hk : ∀ j, j < ys.length → ¬ Names (ys.getD j zAct) ((ys.getD j zAct).f3.length / 64) m) (i : Nat) (hi : i < 64) => lb_left HL.out fates m hk i hi)
          have HN3 := Lib.hid n3
          clear hD hlt n3
          cases hdd : s.dead
          case true =>
            go_wp2_with fail
            refine (dead_any HDs.out).mono ?_
            rw [hdd]
            rintro e w6 ⟨rfl, hq⟩
            obtain rfl := hq.symm
            go_wp2_with fail
            refine (dead_any HDs.out).mono ?_
            rw [hdd]
            rintro e w6 ⟨rfl, hq⟩
            obtain rfl := hq.symm
            go_wp2_with fail
            refine (restart_in sort_tells HDs.out (fun j hj => hj.2.2) A3 c3 fates (fa_below HFA.out hB.out) hm3 (fun a e h0 hb => by
              obtain ⟨ad, e', hc⟩ := HFA.out 0 _ (List.getElem?_eq_getElem h0)
              rw [e] at e'
              obtain rfl := Option.some.inj e'
              have h1 := World.block_lt_of_cell? w _ hc
              rw [add_block] at h1
              have := hb.1
              omega) HX3.out).mono ?_
            rintro e w7 ⟨rfl, hD7, hT7⟩
            obtain ⟨s7, hs7⟩ : ∃ s7, s7 = s.restart fates := ⟨_, rfl⟩
            have h7 : s7.n = 40 ∧ s7.dead = false ∧ ∀ j, s7.rd j = s.left fates j := by rw [hs7]; exact ⟨n1, rfl, fun j => rfl⟩
            rw [← hs7] at hD7
            obtain ⟨h7n, h7d, h7r⟩ := h7
            have HC7 := Aside0.mk (hC.out.tn hT7 (fun h => h.2.1 rfl))
            have HD7 := Aside0.mk hD7
            have HB7 := Aside0.mk (hT7.to_below hB.out (fun j hj => hj.1))
            clear hD7 hT7 hs7
            go_wp2_with fail
            refine (read_in HD7.out h7d 0 40 (by rw [h7n]; decide) (by decide)).mono ?_
            rintro e w8 ⟨⟨v8, rfl, hFr⟩, hb8⟩
            obtain ⟨g3, G3, rfl, hG3, hg8, hgl, hc8⟩ := Row.of_fresh hFr (by decide)
            have HO := Aside0.mk (show CellsAt w8 g3 2560 (s.left fates) from ⟨hgl, fun i hi => by rw [hc8 i hi, show 64 * 0 + i = i by omega, h7r]⟩)
            have HD8 := Aside0.mk (HD7.out.below hb8)
            have HC8 := Aside0.mk (HC7.out.below hb8)
            have HB8 := Aside0.mk (HB7.out.trans (hb8.mono HB7.out.size))
            clear hFr hb8 hc8 hg8 hgl h7r
            go_wp2_with fail
            refine (dead_any HD8.out).mono ?_
            rw [h7d]
            rintro e w9 ⟨rfl, hq⟩
            obtain rfl := hq.symm
            go_wp2
            obtain ⟨wo, hwo⟩ : ∃ z, z = w8 := ⟨_, rfl⟩
            subst hwo
            go_loopw [16] (fun i wr => i = .int .i64 0 ∧ Aside0 (Below wo.heap.size wo wr)) (fun _ _ => 0)
            case atStart => exact ⟨rfl, ⟨Below.refl _ _⟩⟩
            case round =>
              obtain ⟨rfl, hq⟩ := hrel
              go_wp2_with fail
              refine (stays_any w wr g G g3 G3 F (s.left fates) A2 c2 ys (HC8.out.below hq.out).2 (HO.out.below hq.out).2 hG hG3 HR2.out (HB8.out.trans (hq.out.mono HB8.out.size)) hm2 HX2.out HSt.out).mono ?_
              rintro e w10 ⟨rfl, hb10⟩
              have HB10 := Aside0.mk ((HB8.out.trans (hq.out.mono HB8.out.size)).trans (hb10.mono (HB8.out.trans (hq.out.mono HB8.out.size)).size))
              clear hb10
              go_wp2_with fail
              refine (wakes_any _).mono ?_
              rintro e w11 ⟨rfl, hb11⟩
              go_wp2
              go_ret
              exact ⟨rfl, HB10.out.trans (hb11.mono HB10.out.size)⟩
          case false =>
            go_wp2_with fail
            refine (dead_any HDs.out).mono ?_
            rw [hdd]
            rintro e w6 ⟨rfl, hq⟩
            obtain rfl := hq.symm
            go_wp2_with fail
            refine (read_in HDs.out hdd 0 40 (by rw [n1]; decide) (by decide)).mono ?_
            rintro e w6 ⟨⟨v6, rfl, hFr⟩, hb6⟩
            obtain ⟨g2, G2, rfl, hG2, hg6, hgl2, hc6⟩ := Row.of_fresh hFr (by decide)
            have HN6 := Aside0.mk (show CellsAt w6 g2 2560 s.rd from ⟨hgl2, fun i hi => by rw [hc6 i hi, show 64 * 0 + i = i by omega]⟩)
            have HD6 := Aside0.mk (HDs.out.below hb6)
            have HC6 := Aside0.mk (hC.out.below hb6)
            have HB6 := Aside0.mk (hB.out.trans (hb6.mono hB.out.size))
            have HG6 := Aside0.mk (show ∀ j, BB w g wr j → j < w6.heap.size ∧ j ≠ g2 from fun j hj => by
              have h1 := hj.2.2
              have h2 := hb6.size
              constructor
              · omega
              · omega)
            clear hFr hb6 hc6 hg6 hgl2
            go_wp2_with fail
            refine (dead_any HD6.out).mono ?_
            rw [hdd]
            rintro e w7 ⟨rfl, hq⟩
            obtain rfl := hq.symm
            go_wp2_with fail
            refine (restart_in sort_tells HD6.out (fun j hj => (HG6.out j hj).1) A3 c3 fates (fa_below HFA.out HB6.out) hm3 (fun a e h0 hb => by
              obtain ⟨ad, e', hc⟩ := HFA.out 0 _ (List.getElem?_eq_getElem h0)
              rw [e] at e'
              obtain rfl := Option.some.inj e'
              have h1 := World.block_lt_of_cell? w _ hc
              rw [add_block] at h1
              have := hb.1
              omega) HX3.out).mono ?_
            rintro e w7 ⟨rfl, hD7, hT7⟩
            obtain ⟨s7, hs7⟩ : ∃ s7, s7 = s.restart fates := ⟨_, rfl⟩
            have h7 : s7.n = 40 ∧ s7.dead = false ∧ ∀ j, s7.rd j = s.left fates j := by rw [hs7]; exact ⟨n1, rfl, fun j => rfl⟩
            rw [← hs7] at hD7
            obtain ⟨h7n, h7d, h7r⟩ := h7
            have HC7 := Aside0.mk (HC6.out.tn hT7 (fun h => h.2.1 rfl))
            have HN7 := Aside0.mk (HN6.out.tn hT7 (fun h => (HG6.out _ h).2 rfl))
            have HD7 := Aside0.mk hD7
            have HB7 := Aside0.mk (hT7.to_below HB6.out (fun j hj => hj.1))
            clear hD7 hT7 hs7
            go_wp2_with fail
            refine (read_in HD7.out h7d 0 40 (by rw [h7n]; decide) (by decide)).mono ?_
            rintro e w8 ⟨⟨v8, rfl, hFr⟩, hb8⟩
            obtain ⟨g3, G3, rfl, hG3, hg8, hgl, hc8⟩ := Row.of_fresh hFr (by decide)
            have HO := Aside0.mk (show CellsAt w8 g3 2560 (s.left fates) from ⟨hgl, fun i hi => by rw [hc8 i hi, show 64 * 0 + i = i by omega, h7r]⟩)
            have HD8 := Aside0.mk (HD7.out.below hb8)
            have HC8 := Aside0.mk (HC7.out.below hb8)
            have HN8 := Aside0.mk (HN7.out.below hb8)
            have HB8 := Aside0.mk (HB7.out.trans (hb8.mono HB7.out.size))
            clear hFr hb8 hc8 hg8 hgl h7r
            go_wp2_with fail
            refine (dead_any HD8.out).mono ?_
            rw [h7d]
            rintro e w9 ⟨rfl, hq⟩
            obtain rfl := hq.symm
            clear HDs HL HD6 HC6 HN6 HB6 HG6 HC7 HN7 HD7 HB7 HD8
            go_wp2
            obtain ⟨wo, hwo⟩ : ∃ z, z = w8 := ⟨_, rfl⟩
            subst hwo
            go_loopw [16] (fun i wr => ∃ m : Nat, m ≤ 40 ∧ i = .int .i64 m ∧ Aside0 (Below wo.heap.size wo wr)) (fun i _ => 40 - (intOf i).toNat)
            case atStart => exact ⟨0, by decide, rfl, ⟨Below.refl _ _⟩⟩
            case round =>
              obtain ⟨m, hm, rfl, hq⟩ := hrel
              by_cases hlm : m < 40
              · obtain ⟨t, ht, hcut⟩ := left_cut s fates m
                have HCUT := Aside0.mk hcut
                have HCm := Aside0.mk (HC8.out.below hq.out).2
                have HOm := Aside0.mk (HO.out.below hq.out).2
                have HNm := Aside0.mk (HN8.out.below hq.out).2
                have w1 : IntKind.i64.wrap ((m : Int) * 64) = (m : Int) * 64 := by rw [IntKind.wrap_i64]; omega
                clear hcut
                go_wp2
                obtain ⟨wi, hwi⟩ : ∃ z, z = wr := ⟨_, rfl⟩
                subst hwi
                go_loopw [17] (fun c wr => ∃ q : Nat, q ≤ 64 ∧ c = .int .i64 q ∧ Aside0 (Below wi.heap.size wi wr)) (fun c _ => 64 - (intOf c).toNat)
                case atStart => exact ⟨0, by decide, rfl, ⟨Below.refl _ _⟩⟩
                case round =>
                  obtain ⟨q, hq64, rfl, hqi⟩ := hrel
                  have HQI := Aside0.mk (hq.out.trans (hqi.out.mono hq.out.size))
                  have hcase : (q < 64 ∧ s.left fates (64 * m + q) = s.rd (64 * m + q)) ∨ ((∀ c', q ≤ c' → c' < 64 → s.left fates (64 * m + c') = F (64 * m + c')) ∧ ((q < 64 ∧ ¬ s.left fates (64 * m + q) = s.rd (64 * m + q)) ∨ q = 64)) := by
                    by_cases h1 : q < 64
                    · by_cases h2 : s.left fates (64 * m + q) = s.rd (64 * m + q)
                      · exact .inl ⟨h1, h2⟩
                      · refine .inr ⟨fun c' h3 h4 => ?_, .inl ⟨h1, h2⟩⟩
                        have hqt : ¬ q < t := fun h => h2 (by rw [HCUT.out q h1, if_pos h])
                        rw [HCUT.out c' h4, if_neg (by omega), HN3.out]
                    · exact .inr ⟨fun c' h3 h4 => by omega, .inr (by omega)⟩
                  rcases hcase with ⟨h1, h2⟩ | ⟨htl, hcs⟩
                  · have co := (hqi.out.cell (World.block_lt_of_cell? _ _ (HOm.out (64 * m + q) (by omega)))).trans (HOm.out (64 * m + q) (by omega))
                    have cn := (hqi.out.cell (World.block_lt_of_cell? _ _ (HNm.out (64 * m + q) (by omega)))).trans (HNm.out (64 * m + q) (by omega))
                    rw [h2] at co
                    have w2 : IntKind.i64.wrap ((m : Int) * 64 + (q : Int)) = (m : Int) * 64 + (q : Int) := by rw [IntKind.wrap_i64]; omega
                    have w3 : ((m : Int) * 64 + (q : Int)).toNat = 64 * m + q := by omega
                    have w4 : (0 : Int) ≤ (m : Int) * 64 + (q : Int) := by omega
                    have w5 : (m : Int) * 64 + (q : Int) < 2560 := by omega
                    have w6 : decide ((q : Int) < 64) = true := decide_eq_true (by omega)
                    clear h2
                    generalize s.rd (64 * m + q) = b at co cn
                    go_upto_region 36 with (fail)
                    go_quiet (fail)
                    all_goals
                      go_wp2
                      go_roundw
                      case rel => exact ⟨q + 1, by omega, by go_num, ⟨hqi.out.trans (drewN_below _ _)⟩⟩
                      case measure => simp [intOf]; omega
                  · have HTL := Aside0.mk htl
                    clear htl
                    rcases hcs with ⟨h1, h2⟩ | h1
                    case' inr.inl =>
                      have co := (hqi.out.cell (World.block_lt_of_cell? _ _ (HOm.out (64 * m + q) (by omega)))).trans (HOm.out (64 * m + q) (by omega))
                      have cn := (hqi.out.cell (World.block_lt_of_cell? _ _ (HNm.out (64 * m + q) (by omega)))).trans (HNm.out (64 * m + q) (by omega))
                      have w2 : IntKind.i64.wrap ((m : Int) * 64 + (q : Int)) = (m : Int) * 64 + (q : Int) := by rw [IntKind.wrap_i64]; omega
                      have w3 : ((m : Int) * 64 + (q : Int)).toNat = 64 * m + q := by omega
                      have w4 : (0 : Int) ≤ (m : Int) * 64 + (q : Int) := by omega
                      have w5 : (m : Int) * 64 + (q : Int) < 2560 := by omega
                      have w6 : decide ((q : Int) < 64) = true := decide_eq_true (by omega)
                      generalize s.rd (64 * m + q) = b at co cn h2
                      generalize s.left fates (64 * m + q) = a at co cn h2
                      have hab : (a == b) = false := by simpa using h2
                      go_upto_region 36 with (fail)
                      go_quiet (fail)
                      clear co cn w2 w3 w4 w5 w6 hab h2
                    case' inr.inr =>
                      have w6 : decide ((q : Int) < 64) = false := decide_eq_false (by omega)
                      have H1 := Lib.hid h1
                      clear h1
                      go_upto_region 36 with (fail)
                      go_quiet (fail)
                      clear w6
                    all_goals
                      go_wp2
                      go_loopw [17] (fun c wr => ∃ q2 : Nat, q ≤ q2 ∧ q2 ≤ 64 ∧ c = .int .i64 q2 ∧ Aside0 (Below wi.heap.size wi wr)) (fun c _ => 64 - (intOf c).toNat)
                      case atStart => exact ⟨q, Nat.le_refl _, hq64, rfl, ⟨hqi.out.trans (drewN_below _ _)⟩⟩
                      case round =>
                        obtain ⟨q2, hq1, hq2, rfl, hqj⟩ := hrel
                        by_cases hlq : q2 < 64
                        · have co := (hqj.out.cell (World.block_lt_of_cell? _ _ (HOm.out (64 * m + q2) (by omega)))).trans (HOm.out (64 * m + q2) (by omega))
                          have cn := (hqj.out.cell (World.block_lt_of_cell? _ _ (HCm.out (64 * m + q2) (by omega)))).trans (HCm.out (64 * m + q2) (by omega))
                          rw [HTL.out q2 hq1 hlq] at co
                          have w2 : IntKind.i64.wrap ((m : Int) * 64 + (q2 : Int)) = (m : Int) * 64 + (q2 : Int) := by rw [IntKind.wrap_i64]; omega
                          have w3 : ((m : Int) * 64 + (q2 : Int)).toNat = 64 * m + q2 := by omega
                          have w4 : (0 : Int) ≤ (m : Int) * 64 + (q2 : Int) := by omega
                          have w5 : (m : Int) * 64 + (q2 : Int) < 2560 := by omega
                          generalize F (64 * m + q2) = b at co cn
                          go_upto_region 39 with (fail)
                          go_quiet (fail)
                          all_goals
                            go_wp2
                            go_roundw
                            case rel => exact ⟨q2 + 1, by omega, by omega, by go_num, ⟨hqj.out.trans (drewN_below _ _)⟩⟩
                            case measure => simp [intOf]; omega
                        · obtain rfl : q2 = 64 := by omega
                          go_wp2
                          go_roundw
                          case rel => exact ⟨m + 1, by omega, by go_num, ⟨hq.out.trans (hqj.out.mono hq.out.size)⟩⟩
                          case measure => simp [intOf]; omega
              · obtain rfl : m = 40 := by omega
                go_wp2_with fail
                refine (stays_any w wr g G g3 G3 F (s.left fates) A2 c2 ys (HC8.out.below hq.out).2 (HO.out.below hq.out).2 hG hG3 HR2.out (HB8.out.trans (hq.out.mono HB8.out.size)) hm2 HX2.out HSt.out).mono ?_
                rintro e w10 ⟨rfl, hb10⟩
                have HB10 := Aside0.mk ((HB8.out.trans (hq.out.mono HB8.out.size)).trans (hb10.mono (HB8.out.trans (hq.out.mono HB8.out.size)).size))
                clear hb10
                go_wp2_with fail
                refine (wakes_any _).mono ?_
                rintro e w11 ⟨rfl, hb11⟩
                go_wp2
                go_ret
                exact ⟨rfl, HB10.out.trans (hb11.mono HB10.out.size)⟩
end Go.Proofs.Ytojpmihgpjmobaa.X
