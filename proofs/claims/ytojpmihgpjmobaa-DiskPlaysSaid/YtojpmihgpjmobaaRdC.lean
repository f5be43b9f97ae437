/- The reference's disk: a sector's cells written; Waiting, Sync. -/
import Derived.Test.YtojpmihgpjmobaaRdB
import Derived.BigRegion
import Derived.RegionTactic
namespace Go.Proofs.Ytojpmihgpjmobaa.X
open Go Go.RowKit Go.Maps Go.Shelf Go.Proofs.Ytojpmihgpjmobaa Go.Proofs.YtojpmihgpjmobaaW.PrintWords Go.Proofs.YtojpmihgpjmobaaW.PrintLast Go.Proofs.YtojpmihgpjmobaaW.PrintMore
set_option linter.unusedVariables false
set_option linter.unusedSimpArgs false

theorem RHold.congr {W : World} {B : Nat → Prop} {q cb G : Nat} {vl vw : Nat → Value} {s s1 : DS} (h : RHold W B q cb G vl vw s) (hn : s1.n = s.n) (hd : s1.dead = s.dead) (hf : s1.fuse = s.fuse) (hl : ∀ j, j < 64 * s.n → s1.la j = s.la j) (hw : ∀ k, k < s.n → s1.wt k = s.wt k) : RHold W B q cb G vl vw s1 where
  cell := by rw [hn, hd, hf]; exact h.cell
  row := by
    obtain ⟨cur, e, r1, r2⟩ := h.row
    exact ⟨cur, e, r1, fun k hk => by rw [hw k (by omega)]; exact r2 k (by omega)⟩
  la := fun k hk => by
    obtain ⟨g, G', cur, e, h1, h2, h3, h4, h5⟩ := h.la k (by omega)
    exact ⟨g, G', cur, e, h1, h2, h3, h4, fun i hi => by rw [h5 i hi]; show some (Value.int .u8 (s.la (64 * k + i))) = some (Value.int .u8 (s1.la (64 * k + i))); rw [hl _ (by omega)]⟩
  wt := fun k f hk hf => h.wt k f (by omega) (by rw [← hw k (by omega)]; exact hf)
  sw := fun k hk => h.sw k (by omega)
  bq := h.bq
  bc := h.bc
  hG := by rw [hn]; exact h.hG
  hG2 := h.hG2
  n1 := by rw [hn]; exact h.n1
  n2 := by rw [hn]; exact h.n2
/-- A sector's three cells are written. -/
theorem RHold.put {W W1 : World} {B B1 : Nat → Prop} {q cb G : Nat} {vl vw : Nat → Value} {s : DS} (h : RHold W B q cb G vl vw s) {k : Nat} (hk : k < s.n) (v0 v1 : Value) (wk : Option (Nat → Int)) (lk : Nat → Int) (hB : ∀ j, B j → B1 j)
    (ho : ∀ j, j < W.heap.size → j ≠ cb → W1.heap[j]? = W.heap[j]?)
    (hc : ∀ cur, W.heap[cb]? = some (.cells cur 70 (0, 0)) → ∃ cur', W1.heap[cb]? = some (.cells cur' 70 (0, 0)) ∧ cur'.size = cur.size ∧ cur'[k * 3]? = some v0 ∧ cur'[k * 3 + 1]? = some v1 ∧ cur'[k * 3 + 2]? = some (.bool wk.isSome) ∧ ∀ j, j ≠ k * 3 → j ≠ k * 3 + 1 → j ≠ k * 3 + 2 → cur'[j]? = cur[j]?)
    (hl : RowIn W1 B1 v0 lk) (hw : ∀ f, wk = some f → RowIn W1 B1 v1 f) (hs : ∃ A m c, v1 = .slice A m c) :
    RHold W1 B1 q cb G (fun j => if j = k then v0 else vl j) (fun j => if j = k then v1 else vw j) { s with la := fun j => if j / 64 = k then lk (j % 64) else s.la j, wt := fun j => if j = k then wk else s.wt j } := by
  obtain ⟨cur, e, r1, r2⟩ := h.row
  obtain ⟨cur', e', z1, z2, z3, z4, z5⟩ := hc cur e
  have old : ∀ {v : Value} {f : Nat → Int}, RowIn W B v f → RowIn W1 B1 v f := fun hr => hr.step (fun j _ hj ⟨c, hcc⟩ => ho j hj (blk_ne hcc e (by decide))) hB
  exact {
    cell := (ho q (blk_lt h.cell) (blk_ne h.cell e (by decide))).trans h.cell
    row := ⟨cur', e', by rw [z1]; exact r1, fun j hj => by
      by_cases e1 : j = k
      · subst e1
        simp only [if_true]
        exact ⟨z2, z3, z4⟩
      · simp only [if_neg e1]
        obtain ⟨a1, a2, a3⟩ := r2 j hj
        exact ⟨(z5 _ (by omega) (by omega) (by omega)).trans a1, (z5 _ (by omega) (by omega) (by omega)).trans a2, (z5 _ (by omega) (by omega) (by omega)).trans a3⟩⟩
    la := fun j hj => by
      by_cases e1 : j = k
      · subst e1
        simp only [if_true]
        obtain ⟨g, G', c, e, h1, h2, h3, h4, h5⟩ := hl
        exact ⟨g, G', c, e, h1, h2, h3, h4, fun i hi => by
          rw [h5 i hi]
          show some (Value.int .u8 (lk i)) = some (Value.int .u8 (if (64 * j + i) / 64 = j then lk ((64 * j + i) % 64) else s.la (64 * j + i)))
          rw [if_pos (by omega), show (64 * j + i) % 64 = i by omega]⟩
      · simp only [if_neg e1]
        obtain ⟨g, G', c, e, h1, h2, h3, h4, h5⟩ := old (h.la j hj)
        exact ⟨g, G', c, e, h1, h2, h3, h4, fun i hi => by
          rw [h5 i hi]
          show some (Value.int .u8 (s.la (64 * j + i))) = some (Value.int .u8 (if (64 * j + i) / 64 = k then lk ((64 * j + i) % 64) else s.la (64 * j + i)))
          rw [if_neg (by omega)]⟩
    wt := fun j f hj hf => by
      have hf' : (if j = k then wk else s.wt j) = some f := hf
      by_cases e1 : j = k
      · subst e1
        simp only [if_true] at hf' ⊢
        exact hw f hf'
      · simp only [if_neg e1] at hf' ⊢
        exact old (h.wt j f hj hf')
    sw := fun j hj => by
      by_cases e1 : j = k
      · simp only [if_pos e1]; exact hs
      · simp only [if_neg e1]; exact h.sw j hj
    bq := hB _ h.bq
    bc := hB _ h.bc
    hG := h.hG
    hG2 := h.hG2
    n1 := h.n1
    n2 := h.n2 }

theorem three_set {W : World} {cb : Nat} {cur : Array Value} {t : TypeId} (h : W.heap[cb]? = some (.cells cur t (0, 0))) (k : Nat) (hk : k * 3 + 2 < cur.size) (v0 v1 v2 : Value) :
    ∃ cur', (((W.setCell ⟨cb, k * 3, none⟩ v0).setCell ⟨cb, k * 3 + 1, none⟩ v1).setCell ⟨cb, k * 3 + 2, none⟩ v2).heap[cb]? = some (.cells cur' t (0, 0)) ∧ cur'.size = cur.size ∧ cur'[k * 3]? = some v0 ∧ cur'[k * 3 + 1]? = some v1 ∧ cur'[k * 3 + 2]? = some v2 ∧ ∀ j, j ≠ k * 3 → j ≠ k * 3 + 1 → j ≠ k * 3 + 2 → cur'[j]? = cur[j]? := by
  refine ⟨_, blk_set (blk_set (blk_set h _ _) _ _) _ _, by simp, ?_, ?_, ?_, fun j h1 h2 h3 => ?_⟩
  · rw [Array.getElem?_setIfInBounds_ne (by omega), Array.getElem?_setIfInBounds_ne (by omega), Array.getElem?_setIfInBounds_self_of_lt (by omega)]
  · rw [Array.getElem?_setIfInBounds_ne (by omega), Array.getElem?_setIfInBounds_self_of_lt (by simp; omega)]
  · rw [Array.getElem?_setIfInBounds_self_of_lt (by simp; omega)]
  · rw [Array.getElem?_setIfInBounds_ne (by omega), Array.getElem?_setIfInBounds_ne (by omega), Array.getElem?_setIfInBounds_ne (by omega)]
/-- The same by three stores. -/
theorem RHold.put3 {W : World} {B : Nat → Prop} {q cb G : Nat} {vl vw : Nat → Value} {s : DS} (h : RHold W B q cb G vl vw s) {k : Nat} (hk : k < s.n) (v0 v1 : Value) (wk : Option (Nat → Int)) (b : Bool) (hb : b = wk.isSome) (lk : Nat → Int) (hl : RowIn W B v0 lk) (hw : ∀ f, wk = some f → RowIn W B v1 f) (hs : ∃ A m c, v1 = .slice A m c) :
    (∃ vl vw, RHold (((W.setCell ⟨cb, k * 3, none⟩ v0).setCell ⟨cb, k * 3 + 1, none⟩ v1).setCell ⟨cb, k * 3 + 2, none⟩ (.bool b)) B q cb G vl vw { s with la := fun j => if j / 64 = k then lk (j % 64) else s.la j, wt := fun j => if j = k then wk else s.wt j }) ∧ Tn W (((W.setCell ⟨cb, k * 3, none⟩ v0).setCell ⟨cb, k * 3 + 1, none⟩ v1).setCell ⟨cb, k * 3 + 2, none⟩ (.bool b)) B := by
  have hG := h.hG
  have ho : ∀ j, j ≠ cb → (((W.setCell ⟨cb, k * 3, none⟩ v0).setCell ⟨cb, k * 3 + 1, none⟩ v1).setCell ⟨cb, k * 3 + 2, none⟩ (.bool b)).heap[j]? = W.heap[j]? := fun j hj => by
    rw [Below.heap_setCell _ ⟨cb, _, none⟩ _ j hj, Below.heap_setCell _ ⟨cb, _, none⟩ _ j hj, Below.heap_setCell _ ⟨cb, _, none⟩ _ j hj]
  have hrow : ∀ {v : Value} {f : Nat → Int}, RowIn W B v f → RowIn (((W.setCell ⟨cb, k * 3, none⟩ v0).setCell ⟨cb, k * 3 + 1, none⟩ v1).setCell ⟨cb, k * 3 + 2, none⟩ (.bool b)) B v f := fun hr => hr.step (fun j _ _ ⟨c, hcc⟩ => by
    obtain ⟨cur, e, _⟩ := h.row
    exact ho j (blk_ne hcc e (by decide))) (fun _ h => h)
  refine ⟨⟨_, _, h.put hk v0 v1 wk lk (fun _ h => h) (fun j _ hj => ho j hj) (fun cur e => ?_) (hrow hl) (fun f hf => hrow (hw f hf)) hs⟩, (((Tn.refl W B).setCell (p := ⟨cb, k * 3, none⟩) (.inl h.bc) _).setCell (p := ⟨cb, k * 3 + 1, none⟩) (.inl h.bc) _).setCell (p := ⟨cb, k * 3 + 2, none⟩) (.inl h.bc) _⟩
  obtain ⟨c2, e2, r1, _⟩ := h.row
  rw [e] at e2
  have e3 := Obj.cells.inj (Option.some.inj e2)
  rw [hb]
  exact three_set e k (by rw [e3.1]; omega) v0 v1 _
theorem burnt_n (s : DS) : s.burnt.n = s.n := by
  unfold DS.burnt
  split
  · rfl
  · split <;> rfl
def DS.cntTo (s : DS) (i : Nat) : Nat := ((List.range i).filter fun k => (s.wt k).isSome).length
theorem cntTo_succ (s : DS) (i : Nat) : s.cntTo (i + 1) = s.cntTo i + if (s.wt i).isSome = true then 1 else 0 := by
  unfold DS.cntTo
  rw [List.range_succ, List.filter_append, List.length_append]
  cases h : (s.wt i).isSome <;> simp [h]
theorem cntTo_le (s : DS) (i : Nat) : s.cntTo i ≤ i := by
  unfold DS.cntTo
  have := List.length_filter_le (fun k => (s.wt k).isSome) (List.range i)
  rwa [List.length_range] at this
theorem rwait_any {W : World} {p : Nat} {s : DS} {B : Nat → Prop} (h : RefAt W p s B) : Calls Try.prog 23 #[dptr p] W fun e w' => e = .returned (.int .i64 s.cnt) ∧ w' = W := by
  obtain ⟨cb, G, vl, vw, hH⟩ := h
  have c0 := (blk_cell hH.cell 0).trans rfl
  have hG := hH.hG
  have n2 := hH.n2
  have HC := Aside0.mk (fun k (hk : k < s.n) => (hH.cs hk).2.2)
  clear hH
  go_enter Try.func23, Try.ntmps23
  go_wp2
  go_loop [3, 4] (fun nv ii => ∃ i : Nat, i ≤ s.n ∧ ii = .int .i64 i ∧ nv = .int .i64 ((s.cntTo i : Nat) : Int)) (fun _ ii => s.n - (intOf ii).toNat)
  case atStart => exact ⟨0, Nat.zero_le _, rfl, rfl⟩
  case round =>
    obtain ⟨i, hi, rfl, rfl⟩ := hrel
    have hle := cntTo_le s i
    have hsu := cntTo_succ s i
    by_cases hlt : i < s.n
    · have c1 := HC.out i hlt
      have hlt2 : (i : Int) < (s.n : Int) := by omega
      cases hs : (s.wt i).isSome
      · rw [hs] at c1 hsu
        have HS := Lib.hid hsu
        clear hs hsu
        go_wp2
        go_round
        case rel => exact ⟨i + 1, by omega, by go_num, by rw [HS.out]; rfl⟩
        case measure => simp [intOf]; omega
      · rw [hs] at c1 hsu
        have HS := Lib.hid hsu
        clear hs hsu
        go_wp2
        go_round
        case rel => exact ⟨i + 1, by omega, by go_num, by rw [HS.out]; go_num⟩
        case measure => simp [intOf]; omega
    · obtain rfl : i = s.n := by omega
      clear hsu
      go_wp2
      go_ret
      exact ⟨rfl, rfl⟩

/-- The first i sectors synced. -/
def DS.syncTo (s : DS) (i : Nat) : DS := { s with la := fun j => if j / 64 < i then s.rd j else s.la j, wt := fun k => if k < i then none else s.wt k }
theorem rd_at (s : DS) (j : Nat) {f : Nat → Int} (h : s.wt (j / 64) = some f) : s.rd j = f (j % 64) := by unfold DS.rd; rw [h]
theorem rd_no (s : DS) (j : Nat) (h : s.wt (j / 64) = none) : s.rd j = s.la j := by unfold DS.rd; rw [h]
set_option maxRecDepth 100000 in
set_option maxHeartbeats 4000000 in
theorem rsync_in {W : World} {p : Nat} {s : DS} {B : Nat → Prop} (h : RefAt W p s B) (hd : s.dead = false) (hf0 : s.fuse ≠ 0) (hf : s.fuse ≤ 9223372036854775807) :
    Calls Try.prog 35 #[dptr p] W fun e w' => e = .returned (.int .i64 0) ∧ RefAt w' p s.burnt.sync B ∧ Tn W w' B := by
  obtain ⟨_, _, hc, n1, n2, _⟩ := h.cells
  have c1 := (blk_cell hc 1).trans rfl
  rw [hd] at c1
  have H := Aside0.mk h
  clear h hc
  go_enter Try.func35, Try.ntmps35
  go_wp2_with fail
  refine (rburn_any H.out hf).mono ?_
  rw [if_neg hf0]
  rintro e w1 ⟨rfl, hR, hT⟩
  obtain ⟨s1, hs1⟩ : ∃ s1, s1 = s.burnt := ⟨_, rfl⟩
  have hn1 : s1.n = s.n := by rw [hs1]; exact burnt_n s
  rw [← hs1] at hR
  have HS1 := Lib.hid hs1
  have n2' : s1.n ≤ 65536 := by rw [hn1]; exact n2
  clear hn1
  obtain ⟨cb, G, vl, vw, hH⟩ := hR
  have c0 := (blk_cell hH.cell 0).trans rfl
  have hG := hH.hG
  have HH := Aside0.mk (show ∃ vl vw, RHold w1 B p cb G vl vw (s1.syncTo 0) from ⟨vl, vw, hH.congr rfl rfl rfl (fun j _ => by show (if j / 64 < 0 then s1.rd j else s1.la j) = _; rw [if_neg (by omega)]) (fun k _ => by show (if k < 0 then none else s1.wt k) = _; rw [if_neg (by omega)])⟩)
  have HT := Aside0.mk hT
  clear hH hT hs1
  go_wp2
  go_loopw [3] (fun ii wr => ∃ i : Nat, i ≤ s1.n ∧ ii = .int .i64 i ∧ Aside0 (∃ vl vw, RHold wr B p cb G vl vw (s1.syncTo i)) ∧ Aside0 (Tn W wr B)) (fun ii _ => s1.n - (intOf ii).toNat)
  case atStart => exact ⟨0, Nat.zero_le _, rfl, HH, HT⟩
  case round =>
    clear c0
    obtain ⟨i, hi, rfl, hS, hT⟩ := hrel
    obtain ⟨vl, vw, hH⟩ := hS.out
    have c0 : wr.cell? ⟨p, 0, none⟩ = some (.slice (some ⟨cb, 0, none⟩) s1.n G) := (blk_cell hH.cell 0).trans rfl
    have f0 : ∀ j, wr.frozen? ⟨cb, j, none⟩ = false := by obtain ⟨cur, e, _⟩ := hH.row; exact fun j => blk_frozen e j
    by_cases hlt : i < s1.n
    · have hlt2 : (i : Int) < (s1.n : Int) := by omega
      obtain ⟨k0, k1, k2⟩ := hH.cs (k := i) hlt
      have hwt : (s1.syncTo i).wt i = s1.wt i := by show (if i < i then none else s1.wt i) = _; rw [if_neg (by omega)]
      rw [hwt] at k2
      cases hs : s1.wt i with
      | none =>
        rw [hs] at k2
        have HH2 := Aside0.mk (show ∃ vl vw, RHold wr B p cb G vl vw (s1.syncTo (i + 1)) from ⟨vl, vw, hH.congr rfl rfl rfl (fun j _ => by
          show (if j / 64 < i + 1 then s1.rd j else s1.la j) = if j / 64 < i then s1.rd j else s1.la j
          by_cases e : j / 64 = i
          · rw [if_pos (by omega), if_neg (by omega), rd_no _ _ (by rw [e]; exact hs)]
          · by_cases e2 : j / 64 < i
            · rw [if_pos (by omega), if_pos e2]
            · rw [if_neg (by omega), if_neg e2]) (fun k _ => by
          show (if k < i + 1 then none else s1.wt k) = if k < i then none else s1.wt k
          by_cases e : k = i
          · rw [if_pos (by omega), if_neg (by omega), e, hs]
          · by_cases e2 : k < i
            · rw [if_pos (by omega), if_pos e2]
            · rw [if_neg (by omega), if_neg e2])⟩)
        clear hH hs hwt
        go_wp2
        go_roundw
        case rel => exact ⟨i + 1, by omega, by go_num, HH2, hT⟩
        case measure => simp [intOf]; omega
      | some f =>
        rw [hs] at k2
        have f00 := f0 (i * 3)
        have f01 := f0 (i * 3 + 1)
        have f02 := f0 (i * 3 + 2)
        have HW := Aside0.mk (hH.wt i f hlt (by rw [hwt]; exact hs))
        have HHr := Aside0.mk hH
        have HS := Lib.hid hs
        clear hH hs hwt f0
        obtain ⟨v1, g1, G1, hv1, hv2⟩ : ∃ v1 g1 G1, v1 = .slice (some ⟨g1, 0, none⟩) 64 G1 ∧ vw i = v1 := by
          obtain ⟨g, G', cur, e, _⟩ := HW.out
          exact ⟨_, g, G', e, rfl⟩
        rw [hv2, hv1] at k1
        rw [hv2, hv1] at HW
        clear hv1 hv2
        have hput := HHr.out.put3 hlt (.slice (some ⟨g1, 0, none⟩) 64 G1) (.slice none 0 0) none false rfl f HW.out (fun _ h => by cases h) ⟨_, _, _, rfl⟩
        have HP := Aside0.mk (show ∃ vl vw, RHold _ B p cb G vl vw (s1.syncTo (i + 1)) from by
          obtain ⟨vl', vw', hq⟩ := hput.1
          refine ⟨vl', vw', hq.congr rfl rfl rfl (fun j _ => ?_) (fun k _ => ?_)⟩
          · show (if j / 64 < i + 1 then s1.rd j else s1.la j) = if j / 64 = i then f (j % 64) else if j / 64 < i then s1.rd j else s1.la j
            by_cases e : j / 64 = i
            · rw [if_pos (by omega), if_pos e, rd_at _ _ (by rw [e]; exact HS.out)]
            · by_cases e2 : j / 64 < i
              · rw [if_pos (by omega), if_neg e, if_pos e2]
              · rw [if_neg (by omega), if_neg e, if_neg e2]
          · show (if k < i + 1 then none else s1.wt k) = if k = i then none else if k < i then none else s1.wt k
            by_cases e : k = i
            · rw [if_pos (by omega), if_pos e]
            · by_cases e2 : k < i
              · rw [if_pos (by omega), if_neg e, if_pos e2]
              · rw [if_neg (by omega), if_neg e, if_neg e2])
        have HPT := Aside0.mk (hT.out.then_ hput.2)
        clear hput
        go_upto_region 9 with (fail)
        go_region
        all_goals
          go_wp2
          go_roundw
          case rel => exact ⟨i + 1, by omega, by go_num, ⟨by obtain ⟨vl', vw', hq⟩ := HP.out; exact ⟨vl', vw', hq.step (fun _ _ _ => rfl)⟩⟩, ⟨HPT.out.below (Below.refl _ _).drew⟩⟩
          case measure => simp [intOf]; omega
    · obtain rfl : i = s1.n := by omega
      go_wp2
      go_ret
      refine ⟨rfl, ?_, hT.out⟩
      rw [← HS1.out]
      exact ⟨cb, G, vl, vw, hH.congr rfl rfl rfl (fun j hj => by
        have hj' : j < 64 * s1.n := hj
        show s1.rd j = if j / 64 < s1.n then s1.rd j else s1.la j
        rw [if_pos (by omega)]) (fun k hk => by
        have hk' : k < s1.n := hk
        show none = if k < s1.n then none else s1.wt k
        rw [if_pos hk'])⟩
end Go.Proofs.Ytojpmihgpjmobaa.X
