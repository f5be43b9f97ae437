/- Beneath and Without leave rows that may be written. -/
import Derived.Test.YthpecpkncifngaaDoorOwA
import Derived.Test.YthpecpkncifngaaDoorZTreeKnown1
namespace Go.Proofs.YthpecpkncifngaaDoor.X
open Go Go.RowKit Go.Shelf Go.Proofs.YthpecpkncifngaaDoor Go.Proofs.YthpecpkncifngaaDoorW.PrintWords Go.Proofs.YthpecpkncifngaaDoorW.PrintLast Go.Proofs.YthpecpkncifngaaDoorW.PrintMore Go.Proofs.YthpecpkncifngaaDoor.Pure
set_option linter.unusedVariables false
set_option linter.unusedSimpArgs false

theorem beneath_w (A : Option Addr) (c : Nat) (xs : List S26) (root : ByteArray) (w : World) (hr : Kd.C k26 w A xs.length xs) (hm : xs.length * 80 ≤ 140737488351232) (hb4 : ∀ x ∈ xs, x.f4.length ≤ 140737488355328) :
    Calls Tryd.prog 28 #[.slice A xs.length c, .string root] w fun e w' => (∃ A' c', e = .returned (.slice A' (beneathP xs root).length (beneathP xs root).length) ∧ (beneathP xs root).length ≤ c' ∧ Kd.N kW 26 w' w.heap.size (fun k => w.heap.size ≤ k) (.slice A' (beneathP xs root).length c') (beneathP xs root)) ∧ Below w.heap.size w w' := by
  have HR := Aside0.mk hr
  clear hr
  have hB0 : Below w.heap.size w (w.alloc (.cells #[.string root] 9)) := (Below.refl _ w).alloc (Nat.le_refl _) _
  have hcell : (w.alloc (.cells #[.string root] 9)).cell? ⟨w.heap.size, 0, none⟩ = some (.string root) := (cell_new_l w (.string root) 9).1
  have HT := Aside0.mk (beneath1_tells root w.heap.size _ hcell)
  clear hcell
  go_enter Tryd.func28, Tryd.ntmps28
  go_wp2_with fail
  refine (some_w 66 _ _ A c xs _ (Kd.C_below HR.out hB0) hm hb4 (fun args W => by kernel_rfl) HT.out).mono ?_
  rintro e w1 ⟨⟨A', c', rfl, hc', hV⟩, hb⟩
  have HV := Aside0.mk hV
  clear hV
  go_wp2
  go_ret
  exact ⟨⟨_, _, rfl, hc', Kd.N_lower (Kd.N_mono HV.out (fun k h => Nat.le_trans hB0.size h)) hB0.size⟩, hB0.trans (hb.mono hB0.size)⟩
theorem without_w (A : Option Addr) (c : Nat) (xs : List S26) (path : ByteArray) (w : World) (hr : Kd.C k26 w A xs.length xs) (hm : xs.length * 80 ≤ 140737488351232) (hb4 : ∀ x ∈ xs, x.f4.length ≤ 140737488355328) :
    Calls Tryd.prog 18 #[.slice A xs.length c, .string path] w fun e w' => (∃ A' c', e = .returned (.tuple #[.slice A' (withoutP xs path).1.length (withoutP xs path).1.length, .int .i64 (withoutP xs path).2]) ∧ (withoutP xs path).1.length ≤ c' ∧ Kd.N kW 26 w' w.heap.size (fun k => w.heap.size ≤ k) (.slice A' (withoutP xs path).1.length c') (withoutP xs path).1) ∧ Below w.heap.size w w' := by
  have HR := Aside0.mk hr
  have H4 := Aside0.mk hb4
  clear hr hb4
  have hB0 : Below w.heap.size w (w.alloc (.cells #[.string path] 9)) := (Below.refl _ w).alloc (Nat.le_refl _) _
  have hcell : (w.alloc (.cells #[.string path] 9)).cell? ⟨w.heap.size, 0, none⟩ = some (.string path) := (cell_new_l w (.string path) 9).1
  have HC := Aside0.mk hcell
  clear hcell
  have hm' : xs.length ≤ 140737488355328 := by omega
  by_cases h1 : (checkP xs).2 = 0
  case neg =>
    have H := Lib.hid (show withoutP xs path = ([], (checkP xs).2) by unfold withoutP; rw [if_pos h1])
    have hd : ((checkP xs).2 != 0) = true := by simpa using h1
    rw [H.out]
    clear h1
    go_enter Tryd.func18, Tryd.ntmps18
    go_wp2_with fail
    refine (check_tree A c xs _ (Kd.C_below HR.out hB0)).mono ?_
    rintro e w1 ⟨rfl, hb⟩
    go_wp2
    go_ret2
    exact ⟨⟨none, 0, rfl, Nat.le_refl _, Kd.N_nil _ _ _ _ _⟩, hB0.trans (hb.mono hB0.size)⟩
  have hd : ((checkP xs).2 != 0) = false := by simpa using h1
  by_cases h2 : (findP xs path).2 = 0
  case neg =>
    have H := Lib.hid (show withoutP xs path = ([], (findP xs path).2) by unfold withoutP; rw [if_neg (by simpa using h1), if_pos h2])
    have hd2 : ((findP xs path).2 != 0) = true := by simpa using h2
    rw [H.out]
    clear h1 h2
    go_enter Tryd.func18, Tryd.ntmps18
    go_wp2_with fail
    refine (check_tree A c xs _ (Kd.C_below HR.out hB0)).mono ?_
    rintro e w1 ⟨rfl, hb⟩
    have HB1 := Aside0.mk (hB0.trans (hb.mono hB0.size))
    have hcell := (hb.cell (p := ⟨w.heap.size, 0, none⟩) (by simp)).trans HC.out
    clear hb
    go_wp2_with fail
    refine (find_any A c xs path _ (Kd.C_below HR.out HB1.out) hm').mono ?_
    rintro e w2 ⟨rfl, hb⟩
    go_wp2
    go_ret2
    exact ⟨⟨none, 0, rfl, Nat.le_refl _, Kd.N_nil _ _ _ _ _⟩, HB1.out.trans (hb.mono HB1.out.size)⟩
  have hd2 : ((findP xs path).2 != 0) = false := by simpa using h2
  have H := Lib.hid (show withoutP xs path = if (checkP (keepP (outP path) xs xs.length)).2 = 0 then (keepP (outP path) xs xs.length, 0) else ([], (checkP (keepP (outP path) xs xs.length)).2) by unfold withoutP; rw [if_neg (by simpa using h1), if_neg (by simpa using h2)])
  by_cases h3 : (checkP (keepP (outP path) xs xs.length)).2 = 0
  · rw [H.out, if_pos h3]
    have H3 := Lib.hid h3
    clear h1 h2 h3
    go_enter Tryd.func18, Tryd.ntmps18
    go_wp2_with fail
    refine (check_tree A c xs _ (Kd.C_below HR.out hB0)).mono ?_
    rintro e w1 ⟨rfl, hb⟩
    have HB1 := Aside0.mk (hB0.trans (hb.mono hB0.size))
    have hcell := (hb.cell (p := ⟨w.heap.size, 0, none⟩) (by simp)).trans HC.out
    have hlt1 : w.heap.size < w1.heap.size := Nat.lt_of_lt_of_le (by simp) hb.size
    clear hb
    go_wp2_with fail
    refine (find_any A c xs path _ (Kd.C_below HR.out HB1.out) hm').mono ?_
    rintro e w2 ⟨rfl, hb⟩
    have HB2 := Aside0.mk (HB1.out.trans (hb.mono HB1.out.size))
    have HC2 := Aside0.mk ((hb.cell (p := ⟨w.heap.size, 0, none⟩) hlt1).trans hcell)
    clear hb hcell
    go_wp2_with fail
    refine (some_w 47 _ _ A c xs _ (Kd.C_below HR.out HB2.out) hm H4.out (fun args W => by kernel_rfl) (without1_tells path w.heap.size _ HC2.out)).mono ?_
    rintro e w3 ⟨⟨A', c', rfl, hcc, hV⟩, hb⟩
    have HB3 := Aside0.mk (HB2.out.trans (hb.mono HB2.out.size))
    have HV := Aside0.mk (Kd.N_lower (Kd.N_mono hV (fun k h => Nat.le_trans HB2.out.size h)) HB2.out.size)
    clear hV hb HC2 hlt1
    go_wp2_with fail
    refine (checked_any A' _ (keepP (outP path) xs xs.length) _ (C_kW (Kd.N_reads' HV.out).2.2)).mono ?_
    rw [if_pos H3.out]
    rintro e w4 ⟨rfl, hb⟩
    go_wp2
    go_ret2
    exact ⟨⟨_, _, rfl, hcc, Kd.N_below HV.out hb⟩, HB3.out.trans (hb.mono HB3.out.size)⟩
  · rw [H.out, if_neg h3]
    have H3 := Lib.hid h3
    clear h1 h2 h3
    go_enter Tryd.func18, Tryd.ntmps18
    go_wp2_with fail
    refine (check_tree A c xs _ (Kd.C_below HR.out hB0)).mono ?_
    rintro e w1 ⟨rfl, hb⟩
    have HB1 := Aside0.mk (hB0.trans (hb.mono hB0.size))
    have hcell := (hb.cell (p := ⟨w.heap.size, 0, none⟩) (by simp)).trans HC.out
    have hlt1 : w.heap.size < w1.heap.size := Nat.lt_of_lt_of_le (by simp) hb.size
    clear hb
    go_wp2_with fail
    refine (find_any A c xs path _ (Kd.C_below HR.out HB1.out) hm').mono ?_
    rintro e w2 ⟨rfl, hb⟩
    have HB2 := Aside0.mk (HB1.out.trans (hb.mono HB1.out.size))
    have HC2 := Aside0.mk ((hb.cell (p := ⟨w.heap.size, 0, none⟩) hlt1).trans hcell)
    clear hb hcell
    go_wp2_with fail
    refine (some_w 47 _ _ A c xs _ (Kd.C_below HR.out HB2.out) hm H4.out (fun args W => by kernel_rfl) (without1_tells path w.heap.size _ HC2.out)).mono ?_
    rintro e w3 ⟨⟨A', c', rfl, hcc, hV⟩, hb⟩
    have HB3 := Aside0.mk (HB2.out.trans (hb.mono HB2.out.size))
    have HV := Aside0.mk (Kd.N_lower (Kd.N_mono hV (fun k h => Nat.le_trans HB2.out.size h)) HB2.out.size)
    clear hV hb HC2 hlt1
    go_wp2_with fail
    refine (checked_any A' _ (keepP (outP path) xs xs.length) _ (C_kW (Kd.N_reads' HV.out).2.2)).mono ?_
    rw [if_neg H3.out]
    rintro e w4 ⟨rfl, hb⟩
    go_wp2
    go_ret2
    exact ⟨⟨none, 0, rfl, Nat.le_refl _, Kd.N_nil _ _ _ _ _⟩, HB3.out.trans (hb.mono HB3.out.size)⟩

end Go.Proofs.YthpecpkncifngaaDoor.X
