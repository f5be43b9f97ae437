/- Sort leaves a row that may be written. -/
import Derived.Test.YthpecpkncifngaaDoorOwA
namespace Go.Proofs.YthpecpkncifngaaDoor.X
open Go Go.RowKit Go.Shelf Go.Proofs.YthpecpkncifngaaDoor Go.Proofs.YthpecpkncifngaaDoorW.PrintWords Go.Proofs.YthpecpkncifngaaDoorW.PrintLast Go.Proofs.YthpecpkncifngaaDoorW.PrintMore Go.Proofs.YthpecpkncifngaaDoor.Pure
set_option linter.unusedVariables false
set_option linter.unusedSimpArgs false

/-- items and their cells, put together. -/
theorem cels_w {w : World} {ok : Nat → Prop} : ∀ (xs : List S26) (rows : List (List Value)), rows.length = xs.length → (∀ (j : Nat) (x : S26) (c : List Value), xs[j]? = some x → rows[j]? = some c → Kd.FK kW w ok x c) → (∀ x ∈ xs, x.f0.size ≤ 140737488355328) →
    ∃ zs : List Cel, zs.map Cel.it = xs ∧ zs.map encC = rows ∧ ∀ z ∈ zs, Kd.FK kW w ok z.it (encC z)
  | [], [], _, _, _ => ⟨[], rfl, rfl, fun z hz => by cases hz⟩
  | [], _ :: _, h, _, _ => by simp at h
  | _ :: _, [], h, _, _ => by simp at h
  | x :: xs, c :: rows, hl, hf, hs => by
    obtain ⟨zs, h1, h2, h3⟩ := cels_w xs rows (by simpa using hl) (fun j y d hy hd => hf (j + 1) y d (by simpa using hy) (by simpa using hd)) (fun y hy => hs y (List.mem_cons_of_mem _ hy))
    have hx := hf 0 x c rfl rfl
    obtain ⟨A4, c4, rfl, hl4, hF4⟩ := k26_openF (FK_kW hx)
    have hsx := hs x (List.mem_cons_self ..)
    obtain ⟨q, hq1, hq2⟩ : ∃ q : Cel, q.it = x ∧ encC q = [.string x.f0, .int .u8 x.f1, .int .i64 x.f2, .int .i64 x.f3, .slice A4 x.f4.length c4, .string x.f5] := ⟨⟨(x, A4, c4), hsx⟩, rfl, rfl⟩
    refine ⟨q :: zs, by rw [List.map_cons, h1, hq1], by rw [List.map_cons, h2, hq2], fun z hz => ?_⟩
    rcases List.mem_cons.1 hz with rfl | hz
    · rw [hq1, hq2]; exact hx
    · exact h3 z hz

open Go.Sort in
/-- A row of items of the call's own, its cells rearranged: a row of the call's own still. -/
theorem swk_w {w w' : World} {g c : Nat} {base : Nat} {ok : Nat → Prop} {zs : List Cel} {dk : Array Cel} (hbase : base ≤ g) (hN : Kd.N kW 26 w base ok (.slice (some ⟨g, 0, none⟩) zs.length c) (zs.map Cel.it)) (hf : ∀ z ∈ zs, Kd.FK kW w (fun k => ok k ∧ some k ≠ some g) z.it (encC z))
    (hS : SWK encC 6 w g 0 dk w') (hsz : dk.size = zs.length) (hm : ∀ z ∈ dk.toList, z ∈ zs) : Kd.N kW 26 w' base ok (.slice (some ⟨g, 0, none⟩) zs.length c) (dk.toList.map Cel.it) := by
  obtain ⟨_, _, _, hws, hkeep, hrow⟩ := swk_heap hS
  obtain ⟨hokg, rows, hrl, hR, _⟩ := hN
  obtain ⟨inner, ho⟩ := Kd.R_own hR
  have hl : dk.toList.length = zs.length := by rw [Array.length_toList]; exact hsz
  have hwg : g < w.heap.size := Kd.R_lt hR g rfl
  rw [hrl, List.length_map] at ho
  refine ⟨fun k hk => ?_, dk.toList.map encC, by simp, ⟨fun k hk => hk.symm, (flatK encC 6 dk).toList, ?_, ?_⟩, fun j x cs hx hc => ?_⟩
  · have : g = k := by simpa [Value.ownBlock] using hk
    exact this ▸ hokg g rfl
  · rw [List.length_map, hl]
    obtain ⟨hil, ho⟩ := ho
    refine ⟨by rw [Array.length_toList, size_flatK, hsz]; rfl, .inr ?_⟩
    rcases ho with ⟨he, h0⟩ | ⟨g', cap, cur, he, h1, h2, h3, h4, h5, h6⟩
    · cases he
    · injection he with e1 e2 e3
      injection e1 with e1
      injection e1 with e1
      subst e1
      subst e3
      have hcs : dk.size * 6 ≤ cur.size := by
        rw [h5]
        have := Nat.mul_le_mul_right 6 h3
        rw [hsz]; exact this
      obtain ⟨p1, p2⟩ := putCells_take (enc := encC) (k := 6) dk cur hcs
      refine ⟨g, c, _, rfl, hbase, hrow cur _ _ h2, h3, h4, p1.trans h5, ?_⟩
      rw [hsz] at p2
      exact p2
  · exact reps_flat encC_len encC_one w' dk
  · rw [List.getElem?_map] at hx hc
    obtain ⟨z, hz, rfl⟩ := Option.map_eq_some_iff.1 hx
    rw [hz] at hc
    obtain rfl : encC z = cs := Option.some.inj hc
    refine Foot.step (hf z (hm z (List.mem_of_getElem? hz))) (fun k hk hlt => hkeep k hlt ?_)
    rintro rfl
    exact hk.2 rfl

theorem cels_w_N {w : World} {base g n c : Nat} {ok : Nat → Prop} {xs : List S26} (hN : Kd.N kW 26 w base ok (.slice (some ⟨g, 0, none⟩) n c) xs) (h0 : 0 < xs.length) (hs : ∀ x ∈ xs, x.f0.size ≤ 140737488355328) :
    ∃ zs : List Cel, zs.map Cel.it = xs ∧ (∀ z ∈ zs, Kd.FK kW w (fun k => ok k ∧ some k ≠ some g) z.it (encC z)) ∧ Sort.HoldsK encC 6 w g 0 zs.toArray := by
  obtain ⟨_, rows, hrl, hR, hfk⟩ := id hN
  obtain ⟨zs, hz1, hz2, hz3⟩ := cels_w xs rows hrl hfk hs
  obtain ⟨g', cap, he, hbase, hlt, cells, hcells⟩ := Kd.N_form hN h0
  injection he with e1 e2 e3
  injection e1 with e1
  injection e1 with e1
  subst e1
  refine ⟨zs, hz1, hz3, fun t ht => ?_⟩
  rw [Sort.size_flatK] at ht
  have hj : t / 6 < zs.length := by rw [List.size_toArray] at ht; omega
  obtain ⟨ad, hae, hcell⟩ := (Kd.R_reads' hR).2.2.2.2 (by rw [hrl]; exact h0)
  injection hae with hae
  subst hae
  obtain ⟨cs, hcl, hK, hcc⟩ := hcell (t / 6) (encC zs[t / 6]) (by rw [← hz2, List.getElem?_map, List.getElem?_eq_getElem hj]; rfl)
  obtain ⟨rfl, _, _⟩ := hK
  have hc6 : t % 6 < (encC zs[t / 6]).length := by rw [encC_len]; omega
  have : w.cell? ((⟨g, 0, none⟩ : Addr).add (t / 6 * 6 + t % 6)) = _ := hcc (t % 6) _ (List.getElem?_eq_getElem hc6)
  rw [show (⟨g, 0, none⟩ : Addr).add (t / 6 * 6 + t % 6) = ⟨g, 0 + t, none⟩ by rw [Addr.add_lit]; congr 1; omega] at this
  refine ⟨?_, blk_frozen hcells _⟩
  rw [Sort.get_flatK _ _ _ _ ht, this]
  have e1 : zs.toArray[t / 6]! = zs[t / 6] := by rw [getElem!_pos _ _ (by rw [List.size_toArray]; exact hj)]; simp
  rw [e1, getElem!_pos (encC zs[t / 6]) _ hc6]
  rfl

set_option maxRecDepth 100000 in
set_option maxHeartbeats 4000000 in
theorem sort_w (A : Option Addr) (c : Nat) (xs : List S26) (w : World) (hr : Kd.C k26 w A xs.length xs) (hm : xs.length * 80 ≤ 140737488351232) (hb4 : ∀ x ∈ xs, x.f4.length ≤ 140737488355328) (hb0 : ∀ x ∈ xs, x.f0.size ≤ 140737488355328) :
    Calls Tryd.prog 29 #[.slice A xs.length c] w fun e w' => (∃ A' c', e = .returned (.slice A' xs.length xs.length) ∧ xs.length ≤ c' ∧ Kd.N kW 26 w' w.heap.size (fun k => w.heap.size ≤ k) (.slice A' xs.length c') (So.isort ltI xs)) ∧ Below w.heap.size w w' := by
  have hcall : ∀ (args : Array Value) (W : World), (callFunc 67 args).run Tryd.prog W = .ok (.enter 67 args) W := fun args W => by kernel_rfl
  have h := some_w 67 #[] (fun _ => true) A c xs w hr hm hb4 hcall (sort1_tells w)
  have hk : keepP (fun _ => true) xs xs.length = xs := by rw [keepP_all]; simp
  rw [hk] at h
  have H0 := Aside0.mk hb0
  clear hr hb4 hb0 hcall hk
  go_enter Tryd.func29, Tryd.ntmps29
  go_wp2_with fail
  refine h.mono ?_
  rintro e w1 ⟨⟨A', c', rfl, _, hN⟩, hb⟩
  have hcc := (Kd.N_reads' hN).2.1
  rcases Nat.eq_zero_or_pos xs.length with h0 | h0
  · obtain rfl : xs = [] := List.eq_nil_of_length_eq_zero h0
    have HN := Aside0.mk hN
    have HB := Aside0.mk hb
    clear hN hb h
    go_wp2_with fail
    refine (sortStable_nil A' 0 _).mono ?_
    rintro e w2 ⟨rfl, rfl⟩
    go_wp2
    go_ret
    exact ⟨⟨A', c', rfl, hcc, HN.out⟩, HB.out⟩
  · obtain ⟨g, cap, he, hbase, hlt, cells, hcells⟩ := Kd.N_form hN h0
    injection he with e1 e2 e3
    subst e1
    subst e3
    obtain ⟨zs, hz1, hz3, hH⟩ := cels_w_N hN h0 H0.out
    have hzl : zs.length = xs.length := by rw [← hz1, List.length_map]
    have hds : zs.toArray.size = xs.length := by rw [List.size_toArray]; exact hzl
    have hst := sortStable_any g xs.length zs.toArray w1 hH hlt (by rw [hds]; omega) (by rw [hds]; exact Nat.le_refl _)
    rw [hds] at hst
    have HN := Aside0.mk hN
    have HB := Aside0.mk hb
    have HZ1 := Aside0.mk hz1
    have HZ3 := Aside0.mk hz3
    have HCC := Aside0.mk hcc
    clear hN hb h hz1 hz3 hH hcells hds hcc
    go_wp2_with fail
    refine hst.mono ?_
    rintro e w2 ⟨rfl, dk, hdk1, hdk2, hS⟩
    have HS := Aside0.mk hS
    have HDK := Aside0.mk hdk2
    clear hst hS hdk2
    go_wp2
    go_ret
    have hS := HS.out
    have hst := So.isort_stab (lt := ltOf cfC) wo_cfC zs
    have hres := swk_w (dk := dk) hbase (by rw [HZ1.out, hzl]; exact HN.out) HZ3.out hS (by rw [hdk1, hzl]) (fun z hz => by rw [HDK.out] at hz; exact (hst.symm).mem wo_cfC hz)
    have hit : dk.toList.map Cel.it = So.isort ltI xs := by rw [HDK.out, isort_it]; exact congrArg _ HZ1.out
    rw [hit, hzl] at hres
    refine ⟨⟨_, _, rfl, HCC.out, hres⟩, ?_⟩
    obtain ⟨q1, q2, q3, q4, q5, _⟩ := swk_heap hS
    exact HB.out.trans ⟨q1, q2, q3, q4, fun k hk => q5 k (by have := HB.out.size; omega) (by omega)⟩

end Go.Proofs.YthpecpkncifngaaDoor.X
