/- Lists of items whose rows and bodies may be written, told by types alone; an append to a full slice. -/
import Derived.Test.YthpecpkncifngaaDoorOwA

namespace Go.Proofs.YthpecpkncifngaaDoor.X
open Go Go.RowKit Go.Shelf Go.Proofs.YthpecpkncifngaaDoor Go.Proofs.YthpecpkncifngaaDoorW.PrintWords Go.Proofs.YthpecpkncifngaaDoorW.PrintLast Go.Proofs.YthpecpkncifngaaDoorW.PrintMore Go.Proofs.YthpecpkncifngaaDoor.Pure
set_option linter.unusedVariables false
set_option linter.unusedSimpArgs false

/-- A body's bytes, in a row that may be written. -/
def BodyOk (W : World) (ok : Nat → Prop) (B : Option Addr) (l : Nat) : Prop :=
  l = 0 ∨ ∃ h cur, B = some ⟨h, 0, none⟩ ∧ ok h ∧ W.heap[h]? = some (.cells cur 5 (0, 0)) ∧ ∀ i, i < l → ∃ v : Int, cur[i]? = some (.int .u8 v)
/-- The items from k on, in a row that may be written. -/
def WL (W : World) (ok : Nat → Prop) (A : Option Addr) (n k : Nat) : Prop :=
  n = 0 ∨ ∃ g cur, A = some ⟨g, 0, none⟩ ∧ ok g ∧ W.heap[g]? = some (.cells cur 26 (0, 0)) ∧ n * 6 ≤ cur.size ∧
    ∀ j, k ≤ j → j < n → ∃ B l, cur[j * 6 + 4]? = some (.slice B l l) ∧ l ≤ 140737488351232 ∧ BodyOk W ok B l
theorem body_step {W W1 : World} {ok : Nat → Prop} {B : Option Addr} {l : Nat} (h : BodyOk W ok B l) (hm : ∀ k, ok k → k < W.heap.size → W1.heap[k]? = W.heap[k]?) : BodyOk W1 ok B l := by
  rcases h with h | ⟨g, cur, h1, h2, h3, h4⟩
  · exact .inl h
  · exact .inr ⟨g, cur, h1, h2, (hm g h2 (blk_lt h3)).trans h3, h4⟩
theorem WL_step {W W1 : World} {ok : Nat → Prop} {A : Option Addr} {n k : Nat} (h : WL W ok A n k) (hm : ∀ k, ok k → k < W.heap.size → W1.heap[k]? = W.heap[k]?) : WL W1 ok A n k := by
  rcases h with h | ⟨g, cur, h1, h2, h3, h4, h6⟩
  · exact .inl h
  · refine .inr ⟨g, cur, h1, h2, (hm g h2 (blk_lt h3)).trans h3, h4, fun j hk hj => ?_⟩
    obtain ⟨B, l, q1, q2, q3⟩ := h6 j hk hj
    exact ⟨B, l, q1, q2, body_step q3 hm⟩
theorem WL_next {W : World} {ok : Nat → Prop} {A : Option Addr} {n k k' : Nat} (h : WL W ok A n k) (hk : k ≤ k') : WL W ok A n k' := by
  rcases h with h | ⟨g, cur, h1, h2, h3, h4, h6⟩
  · exact .inl h
  · exact .inr ⟨g, cur, h1, h2, h3, h4, fun j hk' hj => h6 j (Nat.le_trans hk hk') hj⟩
/-- A byte is written. -/
theorem body_byte {W : World} {ok : Nat → Prop} {B : Option Addr} {l h i : Nat} {cur0 : Array Value} (hB : BodyOk W ok B l) (hb : W.heap[h]? = some (.cells cur0 5 (0, 0))) (v : Int) : BodyOk (W.setCell ⟨h, i, none⟩ (.int .u8 v)) ok B l := by
  rcases hB with hB | ⟨g, cur, h1, h2, h3, h4⟩
  · exact .inl hB
  · by_cases hg : g = h
    · subst hg
      refine .inr ⟨g, _, h1, h2, blk_set h3 i _, fun j hj => ?_⟩
      obtain ⟨u, hu⟩ := h4 j hj
      rw [Array.getElem?_setIfInBounds]
      split
      · split
        · exact ⟨v, rfl⟩
        · rename_i h5 h6
          subst h5
          rw [Array.getElem?_eq_none (by omega)] at hu
          cases hu
      · exact ⟨u, hu⟩
    · exact .inr ⟨g, cur, h1, h2, blk_far h3 (p := ⟨h, i, none⟩) hg _, h4⟩
theorem WL_byte {W : World} {ok : Nat → Prop} {A : Option Addr} {n k h i : Nat} {cur0 : Array Value} (hW : WL W ok A n k) (hb : W.heap[h]? = some (.cells cur0 5 (0, 0))) (v : Int) : WL (W.setCell ⟨h, i, none⟩ (.int .u8 v)) ok A n k := by
  rcases hW with hW | ⟨g, cur, h1, h2, h3, h4, h6⟩
  · exact .inl hW
  · have hne : g ≠ h := blk_ne h3 hb (by decide)
    refine .inr ⟨g, cur, h1, h2, blk_far h3 (p := ⟨h, i, none⟩) hne _, h4, fun j hk hj => ?_⟩
    obtain ⟨B, l, q1, q2, q3⟩ := h6 j hk hj
    exact ⟨B, l, q1, q2, body_byte q3 hb v⟩
/-- A field of item k is written: the items behind it stay as they were. -/
theorem WL_field {W : World} {ok : Nat → Prop} {g n k k' f : Nat} (hW : WL W ok (some ⟨g, 0, none⟩) n k') (hkk : k < k') (hf : f < 6) (u : Value) : WL (W.setCell ⟨g, k * 6 + f, none⟩ u) ok (some ⟨g, 0, none⟩) n k' := by
  rcases hW with hW | ⟨g', cur, h1, h2, h3, h4, h6⟩
  · exact .inl hW
  · obtain rfl : g = g' := by simpa using h1
    refine .inr ⟨g, _, rfl, h2, blk_set h3 _ _, by simpa using h4, fun j hk hj => ?_⟩
    obtain ⟨B, l, q1, q2, q3⟩ := h6 j (by omega) hj
    refine ⟨B, l, ?_, q2, ?_⟩
    · rw [Array.getElem?_setIfInBounds_ne (by omega)]; exact q1
    · rcases q3 with q3 | ⟨b, cb, q4, q5, q6, q7⟩
      · exact .inl q3
      · exact .inr ⟨b, cb, q4, q5, blk_far q6 (p := ⟨g, k * 6 + f, none⟩) (fun e => blk_ne h3 q6 (by decide) e.symm) _, q7⟩
/-- Item k's fields. -/
theorem WL_at {W : World} {ok : Nat → Prop} {A : Option Addr} {n k : Nat} (hW : WL W ok A n k) (hk : k < n) : ∃ g cur B l, A = some ⟨g, 0, none⟩ ∧ ok g ∧ W.heap[g]? = some (.cells cur 26 (0, 0)) ∧ W.cell? ⟨g, k * 6 + 4, none⟩ = some (.slice B l l) ∧ (∃ u, W.cell? ⟨g, k * 6, none⟩ = some u) ∧ W.frozen? ⟨g, k * 6 + 4, none⟩ = false ∧ W.frozen? ⟨g, k * 6, none⟩ = false ∧ l ≤ 140737488351232 ∧ BodyOk W ok B l := by
  rcases hW with hW | ⟨g, cur, h1, h2, h3, h4, h6⟩
  · omega
  · obtain ⟨B, l, q1, q2, q3⟩ := h6 k (Nat.le_refl _) hk
    have hlt : k * 6 < cur.size := by omega
    exact ⟨g, cur, B, l, h1, h2, h3, (blk_cell h3 _).trans q1, ⟨cur[k * 6], (blk_cell h3 _).trans (Array.getElem?_eq_getElem hlt)⟩, blk_frozen h3 _, blk_frozen h3 _, q2, q3⟩
theorem body_at {W : World} {ok : Nat → Prop} {B : Option Addr} {l j : Nat} (h : BodyOk W ok B l) (hj : j < l) : ∃ g cur v, B = some ⟨g, 0, none⟩ ∧ ok g ∧ W.heap[g]? = some (.cells cur 5 (0, 0)) ∧ W.cell? ⟨g, j, none⟩ = some (.int .u8 v) ∧ W.frozen? ⟨g, j, none⟩ = false := by
  rcases h with h | ⟨g, cur, h1, h2, h3, h4⟩
  · omega
  · obtain ⟨v, hv⟩ := h4 j hj
    exact ⟨g, cur, v, h1, h2, h3, (blk_cell h3 _).trans hv, blk_frozen h3 _⟩
/-- What the contracts leave. -/
theorem WL_of {W : World} {base n c : Nat} {ok : Nat → Prop} {A : Option Addr} {xs : List S26} (hN : Kd.N kW 26 W base ok (.slice A n c) xs) (hn : n = xs.length) (h4 : ∀ x ∈ xs, x.f4.length ≤ 140737488351232) : WL W (fun k => ok k ∧ k < W.heap.size) A n 0 := by
  subst hn
  rcases Nat.eq_zero_or_pos xs.length with h0 | h0
  · exact .inl h0
  obtain ⟨g, cap, he, hbase, hlt, cells, hcells⟩ := Kd.N_form hN h0
  injection he with e1 e2 e3
  subst e1
  subst e3
  have hokg : ok g := hN.1 g rfl
  have hown : cells.size = c * 6 := by
    obtain ⟨_, rows, _, hR, _⟩ := id hN
    obtain ⟨inner, ho⟩ := Kd.R_own hR
    rcases ho.2 with ⟨he, _⟩ | ⟨g', cap, cur, he, _, h2, _, _, h5, _⟩
    · cases he
    · injection he with e1 e2 e3
      injection e1 with e1
      injection e1 with e1
      subst e1
      subst e3
      rw [hcells] at h2
      injection h2 with h2
      injection h2 with h2
      rw [h2]
      exact h5
  have hxc : xs.length ≤ c := (Kd.N_reads' hN).2.1
  have hall : ∀ j, j < xs.length → ∃ A4, cells[j * 6 + 4]? = some (.slice A4 (xs.getD j ⟨⟨#[]⟩, 0, 0, 0, [], ⟨#[]⟩⟩).f4.length (xs.getD j ⟨⟨#[]⟩, 0, 0, 0, [], ⟨#[]⟩⟩).f4.length) ∧ BodyOk W (fun k => ok k ∧ k < W.heap.size) A4 (xs.getD j ⟨⟨#[]⟩, 0, 0, 0, [], ⟨#[]⟩⟩).f4.length := by
    intro j hj
    obtain ⟨cs, hcl, hFK, hcc, _⟩ := Kd.N_elem hN (⟨⟨#[]⟩, 0, 0, 0, [], ⟨#[]⟩⟩ : S26) (j : Int) (by omega) (by omega)
    rw [Int.toNat_natCast] at hFK hcc
    generalize xs.getD j ⟨⟨#[]⟩, 0, 0, 0, [], ⟨#[]⟩⟩ = x at hFK ⊢
    obtain ⟨A4, rfl, hC, hb⟩ := id (Kd.FK_now hFK)
    have h4' : W.cell? ⟨g, j * 6 + 4, none⟩ = some (.slice A4 x.f4.length x.f4.length) := hcc 4 _ rfl
    refine ⟨A4, (blk_cell hcells _).symm.trans h4', ?_⟩
    rcases hb with hb | ⟨h, cur, rfl, hblk⟩
    · exact .inl hb
    rcases Nat.eq_zero_or_pos x.f4.length with hz | hz
    · exact .inl hz
    refine .inr ⟨h, cur, rfl, ⟨?_, blk_lt hblk⟩, hblk, fun i hi => ?_⟩
    · by_cases hk : ok h ∧ h ≠ g
      · exact hk.1
      · exfalso
        obtain ⟨W', p2, p3⟩ := Kd.emptied W h
        obtain ⟨A5, e5, hC5, _⟩ := hFK W' (fun k hk' _ => p2 k (fun e => hk (e ▸ hk')))
        have e6 : (some ⟨h, 0, none⟩ : Option Addr) = A5 := by
          injection e5 with _ e5
          injection e5 with _ e5
          injection e5 with _ e5
          injection e5 with _ e5
          injection e5 with e5 _
          injection e5 with e5
        subst e6
        obtain ⟨ad, cs', he', hcl', hk', hcell⟩ := Kd.C_get hC5 0 (0 : Int) (by omega) (by omega)
        have := hcell 0 _ (List.getElem?_eq_getElem (by rw [hcl']; exact Nat.one_pos))
        injection he' with he'
        subst he'
        rw [p3 _ rfl] at this
        cases this
    · obtain ⟨ad, cs', he', hcl', hk', hcell⟩ := Kd.C_get hC 0 (i : Int) (by omega) (by omega)
      injection he' with he'
      subst he'
      have hK : cs' = [.int .u8 (x.f4.getD ((i : Int)).toNat 0)] := hk'
      subst hK
      have := hcell 0 _ rfl
      rw [Int.toNat_natCast, show i * (Kd.int .u8).sz + 0 = i by show i * 1 + 0 = _; omega, Addr.add_lit, Nat.zero_add] at this
      exact ⟨_, (blk_cell hblk i).symm.trans this⟩
  refine .inr ⟨g, cells, rfl, ⟨hokg, hlt⟩, hcells, by rw [hown]; exact Nat.mul_le_mul_right 6 hxc, fun j _ hj => ?_⟩
  · obtain ⟨A4, q1, q2⟩ := hall j hj
    refine ⟨A4, _, q1, ?_, q2⟩
    refine h4 _ ?_
    rw [List.getD_eq_getElem?_getD, List.getElem?_eq_getElem hj]
    exact List.getElem_mem hj
/-- An append to a full slice: the new row lies beside all that was. -/
theorem run_append_grown {P : Program} {W : World} (t e : TypeId) (z : Value) (sz bytes m : Nat) (ht : P.underlying t = some (.slice e)) (hinfo : (P.info? e).map (fun i => (i.zero, i.size, i.bytes)) = some (some z, sz, bytes)) (hb0 : 0 < bytes) (hm : 0 < m)
    (A : Option Addr) (n : Nat) (olds cs : List Value) (hol : olds.length = n * sz) (hread : 0 < n → ∃ ad : Addr, A = some ad ∧ ∀ (j : Nat) (u : Value), olds[j]? = some u → W.cell? (ad.add j) = some u)
    (hcl : cs.length = m * sz) (hc1 : ∀ v ∈ cs, v.oneCell' = true) (hl : (n + m) * bytes ≤ 140737488355328) (ty : TypeId) :
    ∃ c cur w1, n + m ≤ c ∧ c ≤ 9223372036854775807 ∧ w1.heap[W.heap.size + 1]? = some (.cells cur e (0, 0)) ∧ (∀ (j : Nat) (u : Value), (olds ++ cs)[j]? = some u → cur[j]? = some u) ∧ Below W.heap.size W w1 ∧
      (Builtin.append_ #[t, t] ty #[.slice A n n, .slice (some ⟨W.heap.size, 0, none⟩) m m]).run P (W.alloc (.cells cs.toArray e)) = .ok (.slice (some ⟨W.heap.size + 1, 0, none⟩) (n + m) c) w1 := by
  obtain ⟨i0, hi, hzz⟩ := Option.map_eq_some_iff.1 hinfo
  simp only [Prod.mk.injEq] at hzz
  obtain ⟨hz0, hz1, hz2⟩ := hzz
  have hlen : n + m ≤ 140737488355328 := Nat.le_trans (Nat.le_mul_of_pos_right _ hb0) hl
  have hB : Below W.heap.size W (W.alloc (.cells cs.toArray e)) := (Below.refl _ _).alloc (Nat.le_refl _) _
  have hold : (Builtin.firstCells i0.size n (.slice A n n)).run P (W.alloc (.cells cs.toArray e)).drew = .ok olds.toArray (W.alloc (.cells cs.toArray e)).drew := by
    rw [hz1]
    rcases Nat.eq_zero_or_pos n with h0 | h0
    · subst h0
      obtain rfl : olds = [] := List.eq_nil_of_length_eq_zero (by rw [hol, Nat.zero_mul])
      cases A with
      | none => rw [run_firstCells_none]
      | some ad => exact run_firstCells_some _ sz 0 ad 0 _ [] (by simp) (fun j v hj => by simp at hj)
    · obtain ⟨ad, rfl, hc⟩ := hread h0
      exact run_firstCells_some _ sz n ad n _ olds (by omega) (fun j v hj => (hB.cell (World.block_lt_of_cell? W _ (hc j v hj))).trans (hc j v hj))
  have hsrc : Src P i0.size t (.slice (some ⟨W.heap.size, 0, none⟩) m m) m cs (W.alloc (.cells cs.toArray e)) := Src.ofSlice _ ht ⟨W.heap.size, 0, none⟩ m m cs (by rw [hz1]; omega) (fun j u hj => by
    rw [Addr.add_lit, Nat.zero_add]
    refine (blk_cell (blk_new W _) j).trans ?_
    simpa using hj) hc1
  have hrun := run_append_grow_src _ t t ty e i0 z ht hi hz0 A n n olds hold _ m cs hsrc (by omega) (by omega) (by rw [hz2]; exact growslice_fits (by omega) hl)
  have hsz : (W.alloc (.cells cs.toArray e)).heap.size = W.heap.size + 1 := World.size_alloc _ _
  have hG1 := grownCap_ge (W.alloc (.cells cs.toArray e)) (n + m) n e
  have hG2 := grownCap_le_maxLen (W.alloc (.cells cs.toArray e)) (n + m) n e (by unfold maxLen; omega)
  rw [hsz] at hrun
  refine ⟨_, (olds ++ cs).toArray ++ Builtin.zeroCells z.cells (grownCap (W.alloc (.cells cs.toArray e)) (n + m) n e - (n + m)), _, hG1, (by unfold maxLen at hG2; omega), ?_, ?_, ?_, hrun⟩
  · have hnew := blk_new (W.alloc (.cells cs.toArray e)).drew (.cells ((olds ++ cs).toArray ++ Builtin.zeroCells z.cells (grownCap (W.alloc (.cells cs.toArray e)) (n + m) n e - (n + m))) e)
    have hd : (W.alloc (.cells cs.toArray e)).drew.heap.size = W.heap.size + 1 := hsz
    rw [hd] at hnew
    exact hnew
  · intro j u hj
    have hjl := (List.getElem?_eq_some_iff.1 hj).1
    rw [Array.getElem?_append_left (by simpa using hjl)]
    simpa using hj
  · exact (below_drew hB).alloc (by simp) _
theorem append_full {P : Program} {ops : Array Oper} {rest : List Oper} {o : Oper} {a : Act} {Q : Exit → Act → World → Prop} {W : World} (hgd : o.guard = none) (s x : Operand) (t e : TypeId) (z : Value) (sz bytes : Nat)
    (ho : o.op = .call { callee := .builtin .append, args := #[s, x], argTypes := #[t, t] }) (ht : P.underlying t = some (.slice e)) (hinfo : (P.info? e).map (fun i => (i.zero, i.size, i.bytes)) = some (some z, sz, bytes)) (hb0 : 0 < bytes)
    (A : Option Addr) (n : Nat) (olds cs : List Value) (hs : a.eval s = .slice A n n) (hx : a.eval x = .slice (some ⟨W.heap.size, 0, none⟩) 1 1) (hol : olds.length = n * sz) (hread : 0 < n → ∃ ad : Addr, A = some ad ∧ ∀ (j : Nat) (u : Value), olds[j]? = some u → W.cell? (ad.add j) = some u)
    (hcl : cs.length = sz) (hc1 : ∀ v ∈ cs, v.oneCell' = true) (hl : (n + 1) * bytes ≤ 140737488355328)
    (h : ∀ g c w1, Below W.heap.size W w1 → wpList P ops Q rest (a.put o.dst (.slice (some ⟨g, 0, none⟩) (n + 1) c)) w1) : wpList P ops Q (o :: rest) a (W.alloc (.cells cs.toArray e)) := by
  obtain ⟨c, cur, w1, _, _, _, _, hB, hr⟩ := run_append_grown (P := P) (W := W) t e z sz bytes 1 ht hinfo hb0 Nat.one_pos A n olds cs hol hread (by omega) hc1 hl o.type
  exact Lib.wpList_append_run _ hgd s x t t ho _ _ hs hx _ _ hr (h _ c w1 hB)
theorem step_append_full {P : Program} {ops : Array Oper} {o : Oper} {a : Act} {Q : Exit → Act → World → Prop} {K : Act → World → Prop} {W : World} (hw : Region.wanted o (yielded ops a.tmps) = true) (s x : Operand) (t e : TypeId) (z : Value) (sz bytes : Nat)
    (ho : o.op = .call { callee := .builtin .append, args := #[s, x], argTypes := #[t, t] }) (ht : P.underlying t = some (.slice e)) (hinfo : (P.info? e).map (fun i => (i.zero, i.size, i.bytes)) = some (some z, sz, bytes)) (hb0 : 0 < bytes)
    (A : Option Addr) (n : Nat) (olds cs : List Value) (hs : a.eval s = .slice A n n) (hx : a.eval x = .slice (some ⟨W.heap.size, 0, none⟩) 1 1) (hol : olds.length = n * sz) (hread : 0 < n → ∃ ad : Addr, A = some ad ∧ ∀ (j : Nat) (u : Value), olds[j]? = some u → W.cell? (ad.add j) = some u)
    (hcl : cs.length = sz) (hc1 : ∀ v ∈ cs, v.oneCell' = true) (hl : (n + 1) * bytes ≤ 140737488355328)
    (h : ∀ g c w1, Below W.heap.size W w1 → K (a.put o.dst (.slice (some ⟨g, 0, none⟩) (n + 1) c)) w1) :
    if Region.wanted o (yielded ops a.tmps) = true then Oper.wp P o a (W.alloc (.cells cs.toArray e)) K Q else K (a.put o.dst undef) (W.alloc (.cells cs.toArray e)) := by
  obtain ⟨c, cur, w1, _, _, _, _, hB, hr⟩ := run_append_grown (P := P) (W := W) t e z sz bytes 1 ht hinfo hb0 Nat.one_pos A n olds cs hol hread (by omega) hc1 hl o.type
  rw [if_pos hw]
  unfold Oper.wp execOp
  simp only [ho, resolve, invoke, builtin, Sem.run_bind, Sem.run_pure, Result.andThen_ok, List.map_toArray, List.map_cons, List.map_nil, hs, hx, hr]
  exact h _ c w1 hB
/-- What is read of such lists, for an append. -/
theorem WL_olds {W : World} {ok : Nat → Prop} {A : Option Addr} {n k : Nat} (h : WL W ok A n k) : ∃ olds : List Value, olds.length = n * 6 ∧ (0 < n → ∃ ad, A = some ad ∧ ∀ j u, olds[j]? = some u → W.cell? (ad.add j) = some u) := by
  rcases h with h | ⟨g, cur, h1, h2, h3, h4, h6⟩
  · exact ⟨[], by rw [h]; rfl, fun h0 => by omega⟩
  · refine ⟨cur.toList.take (n * 6), by rw [List.length_take, Array.length_toList]; omega, fun _ => ⟨_, h1, fun j u hu => ?_⟩⟩
    rw [List.getElem?_take] at hu
    split at hu
    · rw [Addr.add_lit, Nat.zero_add]
      refine (blk_cell h3 j).trans ?_
      simpa using hu
    · cases hu
theorem body_olds {W : World} {ok : Nat → Prop} {B : Option Addr} {l : Nat} (h : BodyOk W ok B l) : ∃ olds : List Value, olds.length = l * 1 ∧ (0 < l → ∃ ad, B = some ad ∧ ∀ j u, olds[j]? = some u → W.cell? (ad.add j) = some u) := by
  rcases h with h | ⟨g, cur, h1, h2, h3, h4⟩
  · exact ⟨[], by rw [h]; rfl, fun h0 => by omega⟩
  · have hsz : l ≤ cur.size := by
      rcases Nat.eq_zero_or_pos l with h0 | h0
      · omega
      · obtain ⟨v, hv⟩ := h4 (l - 1) (by omega)
        have := (Array.getElem?_eq_some_iff.1 hv).1
        omega
    refine ⟨cur.toList.take l, by rw [List.length_take, Array.length_toList]; omega, fun _ => ⟨_, h1, fun j u hu => ?_⟩⟩
    rw [List.getElem?_take] at hu
    split at hu
    · rw [Addr.add_lit, Nat.zero_add]
      refine (blk_cell h3 j).trans ?_
      simpa using hu
    · cases hu
/-- Any cell of item k. -/
theorem WL_cell {W : World} {ok : Nat → Prop} {g n k k' f : Nat} (hW : WL W ok (some ⟨g, 0, none⟩) n k') (hk : k < n) (hf : f < 6) : (∃ u, W.cell? ⟨g, k * 6 + f, none⟩ = some u) ∧ W.frozen? ⟨g, k * 6 + f, none⟩ = false := by
  rcases hW with hW | ⟨g', cur, h1, h2, h3, h4, h6⟩
  · omega
  · obtain rfl : g = g' := by simpa using h1
    have hlt : k * 6 + f < cur.size := by omega
    exact ⟨⟨cur[k * 6 + f], (blk_cell h3 _).trans (Array.getElem?_eq_getElem hlt)⟩, blk_frozen h3 _⟩
end Go.Proofs.YthpecpkncifngaaDoor.X
