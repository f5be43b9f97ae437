/- The disk: Rot. -/
import Derived.Test.YtojpmihgpjmobaaDkG
namespace Go.Proofs.Ytojpmihgpjmobaa.X
open Go Go.RowKit Go.Maps Go.Shelf Go.Proofs.Ytojpmihgpjmobaa Go.Proofs.YtojpmihgpjmobaaW.PrintWords Go.Proofs.YtojpmihgpjmobaaW.PrintLast Go.Proofs.YtojpmihgpjmobaaW.PrintMore
set_option linter.unusedVariables false
set_option linter.unusedSimpArgs false

/-- What waits is written. -/
theorem Hold.putw {W W1 : World} {p lb mb : Nat} {D : DataW Unit} {wb : Nat → Nat} {s : DS} (h : Hold W p lb mb D wb s) {k : Nat} {f : Nat → Int} (hk : s.wt k = some f) (f' : Nat → Int) {cur : Array Value} (ho : ∀ j, j < W.heap.size → j ≠ wb k → W1.heap[j]? = W.heap[j]?) (h1 : W1.heap[wb k]? = some (.cells cur 5 (0, 0))) (h2 : ∀ i, i < 64 → cur[i]? = some (.int .u8 (f' i))) :
    Hold W1 p lb mb D wb { s with wt := fun k' => if k' = k then some f' else s.wt k' } := by
  have ln := h.lts
  have hks : (s.wt k).isSome = true := by rw [hk]; rfl
  obtain ⟨_, curw, qw, _⟩ := h.val k f hk
  have hp : p ≠ wb k := blk_ne h.cell qw (by decide)
  have hl : lb ≠ wb k := fun e => h.apart k hks e.symm
  have hm : mb ≠ wb k := by
    obtain ⟨es, clock, q', _⟩ := h.map
    intro e
    rw [e, qw] at q'
    cases q'
  have his : ∀ k', (if k' = k then some f' else s.wt k').isSome = (s.wt k').isSome := fun k' => by
    by_cases e : k' = k
    · rw [if_pos e, e, hks]; rfl
    · rw [if_neg e]
  exact { cell := (ho p ln.1 hp).trans h.cell, last := by obtain ⟨cur, q⟩ := h.last; exact ⟨cur, (ho lb ln.2.1 hl).trans q.1, q.2⟩, map := owns_step h.map (ho mb ln.2.2.1 hm),
          has := fun kl => by
            rw [h.has kl]
            constructor
            · rintro ⟨k', q1, q2⟩; exact ⟨k', by show (if k' = k then some f' else s.wt k').isSome = true; rw [his]; exact q1, q2⟩
            · rintro ⟨k', q1, q2⟩; exact ⟨k', by rw [← his]; exact q1, q2⟩
          val := fun k' g hg => by
            by_cases e : k' = k
            · subst e
              have hg' : some f' = some g := by rw [← hg]; show _ = (if k' = k' then some f' else s.wt k'); rw [if_pos rfl]
              obtain rfl := Option.some.inj hg'
              exact ⟨(h.val k' f hk).1, cur, h1, h2⟩
            · have hg' : s.wt k' = some g := by rw [← hg]; show _ = (if k' = k then some f' else s.wt k'); rw [if_neg e]
              obtain ⟨q1, c', q2, q3⟩ := h.val k' g hg'
              have hs' : (s.wt k').isSome = true := by rw [hg']; rfl
              exact ⟨q1, c', (ho _ (ln.2.2.2 k' hs') (fun e' => e (h.inj k' k hs' hks e'))).trans q2, q3⟩
          apart := fun k' q => h.apart k' (by rw [← his]; exact q), inj := fun a b qa qb => h.inj a b (by rw [← his]; exact qa) (by rw [← his]; exact qb), lim := fun k' q => h.lim k' (by rw [← his]; exact q),
          size := by
            rw [h.size]
            unfold DS.cnt
            show _ = ((List.range s.n).filter fun k' => (if k' = k then some f' else s.wt k').isSome).length
            simp only [his]
          n1 := h.n1, n2 := h.n2 }
def DS.rot (s : DS) (k q : Nat) (b : Int) : DS :=
  { s with la := fun j => if j = 64 * k + q then bits .xor .u8 (s.la j) b else s.la j
           wt := fun k' => if k' = k then (s.wt k).map (fun f i => if i = q then bits .xor .u8 (f i) b else f i) else s.wt k' }
theorem DS.rot_rd (s : DS) (k q : Nat) (b : Int) (hq : q < 64) (j : Nat) : (s.rot k q b).rd j = if j = 64 * k + q then bits .xor .u8 (s.rd j) b else s.rd j := by
  unfold DS.rd DS.rot
  show (match (if j / 64 = k then (s.wt k).map (fun f i => if i = q then bits .xor .u8 (f i) b else f i) else s.wt (j / 64)) with | some f => f (j % 64) | none => if j = 64 * k + q then bits .xor .u8 (s.la j) b else s.la j) = _
  by_cases hk : j / 64 = k
  · rw [if_pos hk, hk]
    cases hw : s.wt k with
    | none => rfl
    | some f =>
      show (if j % 64 = q then bits .xor .u8 (f (j % 64)) b else f (j % 64)) = _
      by_cases hj : j % 64 = q
      · rw [if_pos hj, if_pos (by omega)]
      · rw [if_neg hj, if_neg (by omega)]
  · have hne : ¬ j = 64 * k + q := by omega
    simp only [if_neg hk, if_neg hne]
    cases s.wt (j / 64) <;> rfl
theorem put_get {cur : Array Value} {n q : Nat} {f : Nat → Int} (h : ∀ i, i < n → cur[i]? = some (.int .u8 (f i))) (hq : q < n) (v : Int) : ∀ i, i < n → (cur.setIfInBounds q (.int .u8 v))[i]? = some (.int .u8 (if i = q then v else f i)) := fun i hi => by
  rw [Array.getElem?_setIfInBounds]
  by_cases e : q = i
  · subst e
    have hlt := (Array.getElem?_eq_some_iff.1 (h q hq)).1
    rw [if_pos rfl, if_pos hlt, if_pos rfl]
  · rw [if_neg e, if_neg (fun e' => e e'.symm), h i hi]
set_option maxRecDepth 100000 in
set_option maxHeartbeats 2000000 in
theorem rot_in {W : World} {p : Nat} {s : DS} {B : Nat → Prop} (h : DiskAt W p s B) (k q : Nat) (b : Int) (hk : k < s.n) (hq : q < 64) :
    Calls Try.prog 19 #[dptr p, .int .i64 k, .int .i64 q, .int .u8 b] W fun e w' => e = .returned (.int .i64 0) ∧ DiskAt w' p (s.rot k q b) B ∧ Tn W w' B := by
  have H := Aside0.mk h
  obtain ⟨lb, mb, D, wb, hH, hBp, hBl, hBm, hBw⟩ := id h
  have n2 := hH.n2
  obtain ⟨cur, hl1, hl2, hl3⟩ := hH.last
  have c0 := (blk_cell hl1 (64 * k + q)).trans (hl3 _ (by omega))
  have f0 := blk_frozen hl1 (64 * k + q)
  obtain ⟨v, hv⟩ : ∃ v, v = bits .xor .u8 (s.la (64 * k + q)) b := ⟨_, rfl⟩
  have hH1 : Hold (W.setCell ⟨lb, 64 * k + q, none⟩ (.int .u8 v)) p lb mb D wb { s with la := fun j => if j = 64 * k + q then bits .xor .u8 (s.la j) b else s.la j } :=
    hH.relast (fun j _ hj => Below.heap_setCell W ⟨lb, 64 * k + q, none⟩ _ j hj) _ (blk_set hl1 _ _) (by rw [Array.size_setIfInBounds]; exact hl2) (fun i hi => by
      rw [put_get hl3 (show 64 * k + q < 64 * s.n by omega) v i hi]
      by_cases e : i = 64 * k + q
      · rw [if_pos e, if_pos e, hv, e]
      · rw [if_neg e, if_neg e])
  have HT1 := Aside0.mk (show Tn W (W.setCell ⟨lb, 64 * k + q, none⟩ (.int .u8 v)) B from (Tn.refl W B).setCell (p := ⟨lb, 64 * k + q, none⟩) (.inl hBl) _)
  rw [hv] at hH1 HT1
  have c1 := (blk_cell hH1.cell 1).trans rfl
  have g1 : ¬ (k : Int) < 0 := by omega
  have g2 : ¬ (s.n : Int) ≤ k := by omega
  have g3 : ¬ (q : Int) < 0 := by omega
  have g4 : ¬ (64 : Int) ≤ q := by omega
  have g5 : ¬ 64 ≤ q := by omega
  have hsec := Aside0.mk (sector_any hH k hk)
  clear hl1 hl2 hl3 hv
  rcases look_wt hH1 k (by omega) with ⟨f, c, hw, hc, hby, hrun⟩ | ⟨v', hw, hrun⟩
  · obtain ⟨_, curw, q2, q3⟩ := hH1.val k f hw
    have hks : (s.wt k).isSome = true := by rw [show s.wt k = some f from hw]; rfl
    have c2 := (blk_cell q2 q).trans (q3 q hq)
    have f2 := blk_frozen q2 q
    have HD2 := Aside0.mk (show DiskAt ((W.setCell ⟨lb, 64 * k + q, none⟩ (.int .u8 (bits .xor .u8 (s.la (64 * k + q)) b))).setCell ⟨wb k, q, none⟩ (.int .u8 (bits .xor .u8 (f q) b))) p (s.rot k q b) B by
      refine ⟨lb, mb, D, wb, ?_, hBp, hBl, hBm, fun k' hk' => hBw k' ?_⟩
      · have := hH1.putw hw (fun i => if i = q then bits .xor .u8 (f i) b else f i) (W1 := (W.setCell ⟨lb, 64 * k + q, none⟩ (.int .u8 (bits .xor .u8 (s.la (64 * k + q)) b))).setCell ⟨wb k, q, none⟩ (.int .u8 (bits .xor .u8 (f q) b))) (fun j _ hj => Below.heap_setCell _ ⟨wb k, q, none⟩ _ j hj) (blk_set q2 _ _) (fun i hi => by
          rw [put_get q3 hq _ i hi]
          by_cases e : i = q
          · rw [if_pos e, if_pos e, e]
          · rw [if_neg e, if_neg e])
        unfold DS.rot
        rw [show s.wt k = some f from hw]
        exact this
      · unfold DS.rot at hk'
        by_cases e : k' = k
        · rw [e]; exact hks
        · have : (if k' = k then (s.wt k).map _ else s.wt k').isSome = true := hk'
          rwa [if_neg e] at this)
    have HT2 := Aside0.mk (HT1.out.setCell (p := ⟨wb k, q, none⟩) (.inl (hBw k hks)) (.int .u8 (bits .xor .u8 (f q) b)))
    clear hH hH1 hby q2 q3 h
    go_enter Try.func19, Try.ntmps19
    go_wp2_with (first | (go_at_call 24; refine (size_any H.out).mono ?_; rintro e w1' ⟨rfl, hq'⟩; obtain rfl := hq'.symm) | (go_at_call 31; refine hsec.out.mono ?_; rintro e w1' ⟨rfl, hq'⟩; obtain rfl := hq'.symm))
    go_ret
    exact ⟨rfl, HD2.out, HT2.out⟩
  · have HD1 := Aside0.mk (show DiskAt (W.setCell ⟨lb, 64 * k + q, none⟩ (.int .u8 (bits .xor .u8 (s.la (64 * k + q)) b))) p (s.rot k q b) B by
      have e : (s.rot k q b) = { s with la := fun j => if j = 64 * k + q then bits .xor .u8 (s.la j) b else s.la j } := by
        unfold DS.rot
        congr 1
        funext k'
        by_cases e : k' = k
        · rw [if_pos e, show s.wt k = none from hw, e]; exact (show s.wt k = none from hw).symm
        · rw [if_neg e]
      rw [e]
      exact ⟨lb, mb, D, wb, hH1, hBp, hBl, hBm, hBw⟩)
    clear hH hH1 h
    go_enter Try.func19, Try.ntmps19
    go_wp2_with (first | (go_at_call 24; refine (size_any H.out).mono ?_; rintro e w1' ⟨rfl, hq'⟩; obtain rfl := hq'.symm) | (go_at_call 31; refine hsec.out.mono ?_; rintro e w1' ⟨rfl, hq'⟩; obtain rfl := hq'.symm))
    go_ret
    exact ⟨rfl, HD1.out, HT1.out⟩
end Go.Proofs.Ytojpmihgpjmobaa.X
