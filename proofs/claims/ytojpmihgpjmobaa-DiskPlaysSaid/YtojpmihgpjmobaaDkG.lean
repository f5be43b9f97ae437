/- The disk: Sync. -/
import Derived.Test.YtojpmihgpjmobaaDkF
namespace Go.Proofs.Ytojpmihgpjmobaa.X
open Go Go.RowKit Go.Maps Go.Shelf Go.Proofs.Ytojpmihgpjmobaa Go.Proofs.YtojpmihgpjmobaaW.PrintWords Go.Proofs.YtojpmihgpjmobaaW.PrintLast Go.Proofs.YtojpmihgpjmobaaW.PrintMore
set_option linter.unusedVariables false
set_option linter.unusedSimpArgs false

theorem Tn.grown {W W' : World} {g : Nat} (h : Tn W W' (fun k => k = g)) : W.grownBy W' (some g) := ⟨h.os, h.tape, h.output, h.size, fun k hk hne => h.block k hk (fun e => hne (by rw [e]))⟩
theorem Tn.of_grown {W W' : World} {row : Option Nat} {B : Nat → Prop} (h : W.grownBy W' row) (hr : ∀ k, row = some k → B k) : Tn W W' B := ⟨h.os, h.tape, h.output, h.size, fun k hk hn => h.block k hk (fun e => hn (hr k e.symm))⟩
/-- clear, of a map. -/
theorem clear_run {W : World} {k e t : TypeId} {R : Value → Option (DataW Unit × List MemPlace)} {b n : Nat} {D : DataW Unit} (h : W.ownsMap Try.prog k R b n D) (ht : Try.prog.underlying t = some (.map k e)) :
    ∃ W', (∀ ty, (Builtin.clear_ #[t] ty #[.map (some b)]).run Try.prog W = .ok (.tuple #[]) W') ∧ W'.ownsMap Try.prog k R b 0 (.map []) ∧ W.grownBy W' (some b) := by
  obtain ⟨es, clock, hb, F, hs, hD⟩ := h
  refine ⟨ChangeMaps.setBlock W b (.map #[] clock), fun ty => ?_, ⟨#[], clock, ChangeMaps.heap_setBlock_same hb _, ⟨by simp, MapKept.stamped_empty _, by simp⟩, Nat.le_refl _, rfl⟩, ⟨rfl, rfl, rfl, by simp [ChangeMaps.setBlock], fun i _ hi => ChangeMaps.heap_setBlock_other hb _ (fun e => hi (by rw [e]))⟩⟩
  simp [Builtin.clear_, run_underlying ht, MapKept.run_getObj_map hb, MapKept.run_setObj_map _ hb, Result.andThen, ChangeMaps.setBlock]
/-- What lasts is written. -/
theorem Hold.relast {W W1 : World} {p lb mb : Nat} {D : DataW Unit} {wb : Nat → Nat} {s : DS} (h : Hold W p lb mb D wb s) (ho : ∀ k, k < W.heap.size → k ≠ lb → W1.heap[k]? = W.heap[k]?) (la : Nat → Int) {cur : Array Value} (h1 : W1.heap[lb]? = some (.cells cur 5 (0, 0))) (h2 : cur.size = 64 * s.n) (h3 : ∀ i, i < 64 * s.n → cur[i]? = some (.int .u8 (la i))) :
    Hold W1 p lb mb D wb { s with la := la } := by
  have ln := h.lts
  have hp : p ≠ lb := by obtain ⟨cur, q, _⟩ := h.last; exact blk_ne h.cell q (by decide)
  have hm : mb ≠ lb := by
    obtain ⟨cur, q, _⟩ := h.last
    obtain ⟨es, clock, q', _⟩ := h.map
    rintro rfl
    rw [q] at q'
    cases q'
  exact { cell := (ho p ln.1 hp).trans h.cell, last := ⟨cur, h1, h2, h3⟩, map := owns_step h.map (ho mb ln.2.2.1 hm), has := h.has,
          val := fun k f hk => by
            obtain ⟨q1, cur', q2, q3⟩ := h.val k f hk
            have hs : (s.wt k).isSome = true := by rw [hk]; rfl
            exact ⟨q1, cur', (ho _ (ln.2.2.2 k hs) (h.apart k hs)).trans q2, q3⟩
          apart := h.apart, inj := h.inj, lim := h.lim, size := h.size, n1 := h.n1, n2 := h.n2 }
/-- The map is emptied. -/
theorem Hold.empty {W W1 : World} {p lb mb : Nat} {D : DataW Unit} {wb : Nat → Nat} {s : DS} (h : Hold W p lb mb D wb s) (hg : W.grownBy W1 (some mb)) (hm : W1.ownsMap Try.prog 3 slR mb 0 (.map [])) : Hold W1 p lb mb (.map []) wb { s with wt := fun _ => none } := by
  have ln := h.lts
  have hp : p ≠ mb := by
    obtain ⟨es, clock, q', _⟩ := h.map
    rintro rfl
    rw [h.cell] at q'
    cases q'
  have hl : lb ≠ mb := by
    obtain ⟨cur, q, _⟩ := h.last
    obtain ⟨es, clock, q', _⟩ := h.map
    rintro rfl
    rw [q] at q'
    cases q'
  exact { cell := (hg.block p ln.1 (fun e => hp (Option.some.inj e))).trans h.cell, last := by obtain ⟨cur, q⟩ := h.last; exact ⟨cur, (hg.block lb ln.2.1 (fun e => hl (Option.some.inj e))).trans q.1, q.2⟩,
          map := hm, has := fun kl => ⟨fun h => (by cases h), fun h => by obtain ⟨k, hk, _⟩ := h; cases hk⟩, val := fun k f h => (by cases h), apart := fun k h => (by cases h), inj := fun k k' h => (by cases h),
          lim := fun k h => (by cases h), size := (cnt_none s.n).symm ▸ rfl, n1 := h.n1, n2 := h.n2 }

def keyL (k : Nat) : Lit := .int .i64 (k : Int)
/-- While Sync copies: the sectors that are still to come as they last, the others as they read. -/
def DS.mix (s : DS) (left : Lit → Bool) : DS := { s with la := fun j => if left (keyL (j / 64)) then s.la j else s.rd j }
theorem DS.mix_all {s : DS} {left : Lit → Bool} (h : ∀ k, k < s.n → left (keyL k) = (s.wt k).isSome) {j : Nat} (hj : j < 64 * s.n) : (s.mix left).la j = s.la j := by
  show (if left (keyL (j / 64)) then s.la j else s.rd j) = s.la j
  rw [h (j / 64) (by omega)]
  split
  · rfl
  · rename_i hn
    unfold DS.rd
    cases hw : s.wt (j / 64) with
    | none => rfl
    | some f => rw [hw] at hn; exact absurd rfl hn
def DS.sync (s : DS) : DS := { s with la := s.rd, wt := fun _ => none }
theorem same_key (k k' : Nat) : (keyL k).sameKey (keyL k') = decide (k = k') := by
  unfold keyL
  by_cases h : k = k'
  · subst h; simp [Lit.sameKey]
  · simp [Lit.sameKey]; omega
theorem slR_shape (v : Value) (y : DataW Unit × List MemPlace) (h : slR v = some y) : ∃ c : Option Addr × Nat × Nat, v = .slice c.1 c.2.1 c.2.2 := by
  unfold slR at h
  split at h
  · exact ⟨(_, _, _), rfl⟩
  · exact ⟨(_, _, _), rfl⟩
  · cases h
theorem Hold.la_eq {W : World} {p lb mb : Nat} {D : DataW Unit} {wb : Nat → Nat} {s : DS} (h : Hold W p lb mb D wb s) (la : Nat → Int) (he : ∀ j, j < 64 * s.n → la j = s.la j) : Hold W p lb mb D wb { s with la := la } := by
  obtain ⟨cur, q1, q2, q3⟩ := h.last
  exact h.relast (fun _ _ _ => rfl) la q1 q2 (fun i hi => by rw [q3 i hi, he i hi])
theorem Hold.ne_map {W : World} {p lb mb : Nat} {D : DataW Unit} {wb : Nat → Nat} {s : DS} (h : Hold W p lb mb D wb s) : mb ≠ lb := by
  obtain ⟨cur, q, _⟩ := h.last
  obtain ⟨es, clock, q', _⟩ := h.map
  rintro rfl
  rw [q] at q'
  cases q'
theorem Hold.has_at {W : World} {p lb mb : Nat} {D : DataW Unit} {wb : Nat → Nat} {s : DS} (h : Hold W p lb mb D wb s) (k : Nat) : Maps.has D (keyL k) = (s.wt k).isSome := by
  cases hw : (s.wt k).isSome with
  | true => exact (h.has _).2 ⟨k, hw, rfl⟩
  | false =>
    cases hb : Maps.has D (keyL k) with
    | false => rfl
    | true =>
      obtain ⟨k', h1, h2⟩ := (h.has _).1 hb
      unfold keyL at h2
      injection h2 with _ h2
      obtain rfl : k = k' := by omega
      rw [hw] at h1
      cases h1
theorem DS.mix_end (s : DS) {left : Lit → Bool} (h : ∀ kl, left kl = false) : ({ s.mix left with wt := fun _ => none } : DS) = s.sync := by
  have e : (fun j => if left (keyL (j / 64)) = true then s.la j else s.rd j) = s.rd := funext fun j => by rw [h]; rfl
  show (⟨s.n, fun j => if left (keyL (j / 64)) = true then s.la j else s.rd j, fun _ => none, s.dead, s.fuse⟩ : DS) = ⟨s.n, s.rd, fun _ => none, s.dead, s.fuse⟩
  rw [e]
theorem DS.mix_rd (s : DS) (left : Lit → Bool) (j : Nat) : (s.mix left).wt = s.wt := rfl
set_option maxRecDepth 100000 in
set_option maxHeartbeats 2000000 in
theorem sync_in {W : World} {p : Nat} {s : DS} {B : Nat → Prop} (h : DiskAt W p s B) (hd : s.dead = false) (hf0 : s.fuse ≠ 0) (hf : s.fuse ≤ 9223372036854775807) :
    Calls Try.prog 12 #[dptr p] W fun e w' => e = .returned (.int .i64 0) ∧ DiskAt w' p s.burnt.sync B ∧ Tn W w' B := by
  have H := Aside0.mk h
  have hn2 := h.cells
  obtain ⟨_, _, _, n1, n2⟩ := hn2
  obtain ⟨s1, hs1⟩ : ∃ s1, s1 = s.burnt := ⟨_, rfl⟩
  rw [← hs1]
  have HS1 := Lib.hid hs1
  clear h hs1
  go_enter Try.func12, Try.ntmps12
  go_wp2_with fail
  refine (usable_any H.out).mono ?_
  rw [hd]
  rintro e w1' ⟨rfl, hq⟩
  obtain rfl := hq.symm
  go_wp2_with fail
  refine (burn_any H.out hf).mono ?_
  rw [if_neg hf0]
  rintro e w1 ⟨rfl, hD, hT⟩
  rw [← HS1.out] at hD
  obtain ⟨lb, mb, D, wb, hH, hBp, hBl, hBm, hBw⟩ := hD
  have c1 := (blk_cell hH.cell 1).trans rfl
  have HH := Aside0.mk hH
  have HT := Aside0.mk hT
  clear hT hH H
  go_wp2_with (at_range; refine wpList_range_own _ rfl _ 55 rfl 3 30 (int_keyed Try.underlying3) Try.underlying55 slR mb _ D rfl HH.out.map ?_)
  intro w2 hrg hg2 hsz2
  have hB2 : Below w1.heap.size w1 w2 := ⟨hg2.os, hg2.tape, hg2.output, hg2.size, fun k hk => hg2.block k hk (by simp)⟩
  have hlts := HH.out.lts
  have HR0 := Aside0.mk hrg
  have HL0 := Aside0.mk (show ∀ kl, Maps.has D kl = true → Maps.has D kl = true from fun _ h => h)
  have HM0 := Aside0.mk (show Hold w2 p lb mb D wb (s1.mix (Maps.has D)) from (HH.out.step (hB2.block p hlts.1) (hB2.block lb hlts.2.1) (hB2.block mb hlts.2.2.1) (fun k hk => hB2.block _ (hlts.2.2.2 k hk))).la_eq _ (fun j hj => DS.mix_all (fun k _ => HH.out.has_at k) hj))
  have HT0 := Aside0.mk (Tn.of_below hB2 (fun k => k = lb))
  clear hrg hg2 hB2 c1
  go_wp2
  go_loopw [22] (fun v wr => ∃ left cnt, Aside0 (wr.ranges Try.prog 3 slR mb w1.heap.size (Maps.size D) D left cnt) ∧ Aside0 (∀ kl, left kl = true → Maps.has D kl = true) ∧ Aside0 (Hold wr p lb mb D wb (s1.mix left)) ∧ Aside0 (Tn w1 wr (fun k => k = lb))) (fun _ wr => wr.rangeLeft mb w1.heap.size)
  case atStart => exact ⟨_, _, HR0, HL0, HM0, HT0⟩
  case round =>
    obtain ⟨left, cnt, hR, hL, hM, hT⟩ := hrel
    clear HR0 HL0 HM0 HT0
    go_wp2_with (at_next; refine wpList_next_ranges _ rfl _ rfl 3 (int_keyed Try.underlying3) slR (Value.int .i64) (fun c : Option Addr × Nat × Nat => .slice c.1 c.2.1 c.2.2) (fun key kl hkey => by obtain ⟨x, rfl, _⟩ := Maps.keyOf_int_inv Try.underlying3 hkey; exact ⟨x, rfl⟩) slR_shape mb w1.heap.size _ D left cnt rfl hR.out ?_ ?_)
    · intro hc0 hl0
      obtain ⟨w4, hcl, hm4, hg4⟩ := clear_run (t := 55) hM.out.map Try.underlying55
      have c1 := (blk_cell hM.out.cell 1).trans rfl
      have HD4 := Aside0.mk (show DiskAt w4 p s1.sync B by rw [← DS.mix_end s1 hl0]; exact ⟨lb, mb, _, wb, hM.out.empty hg4 hm4, hBp, hBl, hBm, fun k hk => (by cases hk)⟩)
      have HT4 := Aside0.mk ((HT.out.trans hT.out (fun k hk => .inl (by rw [hk]; exact hBl))).trans (Tn.of_grown (B := fun k => k = mb) hg4 (fun k hk => (Option.some.inj hk).symm)) (fun k hk => .inl (by rw [hk]; exact hBm)))
      clear hm4 hg4 hl0 hR hL hM hT
      go_wp2
      go_ret
      exact ⟨rfl, HD4.out, HT4.out⟩
    · intro x cA cn cc kl y1 y2 w3 cnt' hkey hlk hv hat hrg3 hlt3 hgr hsz hen
      obtain ⟨k, hk1, rfl⟩ := (hM.out.has kl).1 (hL.out kl hlk)
      obtain ⟨x', ex, ekl, _⟩ := Maps.keyOf_int_inv Try.underlying3 hkey
      have hx : x = (k : Int) := by
        have e1 := congrArg (fun v => match v with | Value.int _ n => n | _ => 0) ex
        have e2 := congrArg (fun v => match v with | Lit.int _ n => n | _ => 0) ekl
        simp only at e1 e2
        omega
      clear ex ekl
      subst hx
      obtain ⟨f, hf1⟩ := Option.isSome_iff_exists.1 hk1
      obtain ⟨q1, curw, q2, q3⟩ := hM.out.val k f hf1
      have hy : y1 = .lit (.int .i64 (wb k)) := ((hat .nil).symm.trans (q1 .nil))
      subst hy
      obtain ⟨c', hc1, hc2⟩ := slR_inv hv
      injection hc1 with e1 e2 e3
      obtain rfl : cA = some ⟨wb k, 0, none⟩ := e1
      obtain rfl : cn = 64 := e2
      obtain rfl : cc = c' := e3
      have hkn : k < s1.n := hM.out.lim k hk1
      have ln := hM.out.lts
      have hr1 : w1.heap.size ≤ w1.heap.size := Nat.le_refl _
      have hH3 : Hold w3 p lb mb D wb (s1.mix left) := hM.out.step (hgr.block p ln.1 (fun e => by have := Option.some.inj e; omega)) (hgr.block lb ln.2.1 (fun e => by have := Option.some.inj e; omega)) (hgr.block mb ln.2.2.1 (fun e => by have := Option.some.inj e; omega)) (fun k' hk' => hgr.block _ (ln.2.2.2 k' hk') (fun e => by have := Option.some.inj e; have := hlts.2.2.2 k' hk'; omega))
      have hwb : (w3.heap[wb k]?) = some (.cells curw 5 (0, 0)) := (hgr.block _ (ln.2.2.2 k hk1) (fun e => by have := Option.some.inj e; have := hlts.2.2.2 k hk1; omega)).trans q2
      have hby : By w3 (some ⟨wb k, 0, none⟩) 64 f := .inr ⟨_, rfl, fun i hi => by rw [Addr.add_lit, Nat.zero_add]; exact (blk_cell hwb i).trans (q3 i hi)⟩
      obtain ⟨cur, hc3, hs3, hv3⟩ := hH3.last
      have hs3' : cur.size = 64 * s1.n := hs3
      obtain ⟨w4, cur', hcp, hblk', hsz', hin, hout, hT4⟩ := copy_run (g := lb) (o := 64 * k) (dLen := 64) (dCap := 64 * s1.n - 64 * k) (sLen := 64) (sCap := cc) (n := 64) hc3 rfl hby (by omega)
      have HH3 := Aside0.mk hH3
      have HRn := Aside0.mk (hrg3.kept hT4.grown (fun e => hM.out.ne_map (Option.some.inj e)) (fun e => by have := Option.some.inj e; omega))
      have HTn := Aside0.mk ((hT.out.trans (Tn.of_grown (B := fun k => k = w1.heap.size) hgr (fun k hk => (Option.some.inj hk).symm)) (fun k hk => .inr (by rw [hk]; exact Nat.le_refl _))).trans hT4 (fun k hk => .inl hk))
      have HLn := Aside0.mk (show ∀ kl, (left kl && !kl.sameKey (.int .i64 (k : Int))) = true → Maps.has D kl = true from fun kl h => hL.out kl (by simp only [Bool.and_eq_true] at h; exact h.1))
      have HMn := Aside0.mk (show Hold w4 p lb mb D wb (s1.mix (fun z => left z && !z.sameKey (.int .i64 (k : Int)))) from hH3.relast (fun j hj hne => hT4.block j hj hne) _ hblk' (by rw [hsz']; exact hs3) (fun j hj => by
        have hj' : j < 64 * s1.n := hj
        show _ = some (Value.int .u8 (if (left (keyL (j / 64)) && !(keyL (j / 64)).sameKey (keyL k)) then s1.la j else s1.rd j))
        by_cases hjk : j / 64 = k
        · rw [hin j (by omega) (by omega), hjk, same_key, decide_eq_true rfl]
          simp only [Bool.not_true, Bool.and_false, Bool.false_eq_true, if_false]
          have := DS.rd_some (s := s1) (k := k) hf1 (i := j - 64 * k) (by omega)
          rw [show 64 * k + (j - 64 * k) = j by omega] at this
          rw [this]
        · rw [hout j (by omega), hv3 j hj, same_key, decide_eq_false hjk]
          simp only [Bool.not_false, Bool.and_true]
          rfl))
      have hle1 := hR.out.left_eq
      have hle2 := HRn.out.left_eq
      clear hblk' hin hout hT4 hH3 hv3 hc3 hby hwb q1 q2 q3 hv hat hrg3 hM hT hL hR hgr
      have hsec := sector_any HH3.out k hkn
      rw [show (s1.mix left).n = s1.n from rfl] at hsec
      go_wp2_with fail
      refine hsec.mono ?_
      rintro e w5 ⟨rfl, hq⟩
      obtain rfl := hq.symm
      go_wp2_with (at_builtin; refine wpList_copy_runI _ rfl _ _ 30 30 rfl _ _ rfl rfl (hcp _) ?_)
      go_roundw
      case rel => exact ⟨_, _, HRn, HLn, HMn, HTn⟩
      case measure => rw [hle1, hle2]; omega
end Go.Proofs.Ytojpmihgpjmobaa.X
