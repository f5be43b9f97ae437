/- The row of the law tabulary/tabularylaw11.TreeBegins: for every input the call returns true, and each argument reads behind the call as it read before. -/
import Derived.Test.YthpecpkncifngaaDoorZTreeBegins2
import Derived.Deep.DeepCutAuto
import Derived.Test.YthpecpkncifngaaDoorWMore
import Derived.ChangeArms
import Derived.DataReads
import Derived.SizedLaws
import Derived.ProofKit
import Derived.Test.YthpecpkncifngaaDoorZTreeBegins1
import Derived.Test.YthpecpkncifngaaDoorCards
import Derived.Test.YthpecpkncifngaaDoorTie
import Derived.WalkKit
import Derived.OpenShut
import Derived.ShutString
import Derived.ChangeOld
import Derived.Below
import Derived.JoinedCond
import Derived.Deep.DeepHandedRow
import Derived.Lib.LaidTab
set_option linter.unusedVariables false
set_option linter.unusedSimpArgs false
/- TreeBegins: the law's walk. -/
section
namespace Go.Proofs.YthpecpkncifngaaDoor.X
open Go Go.RowKit Go.Shelf Go.Proofs.YthpecpkncifngaaDoor Go.Proofs.YthpecpkncifngaaDoorW.PrintWords Go.Proofs.YthpecpkncifngaaDoorW.PrintLast Go.Proofs.YthpecpkncifngaaDoorW.PrintMore Go.Proofs.YthpecpkncifngaaDoor.Pure
theorem C_take {α : Type} {d : Kd α} {w : World} {A : Option Addr} {xs : List α} (h : d.C w A xs.length xs) (q : Nat) (hq : q ≤ xs.length) : d.C w A (xs.take q).length (xs.take q) := by
  have hl : (xs.take q).length = q := by rw [List.length_take]; omega
  refine ⟨rfl, by have := h.2.1; omega, fun hp => ?_⟩
  obtain ⟨ad, e, hc⟩ := h.2.2 (by omega)
  refine ⟨ad, e, fun j p hj => hc j p ?_⟩
  rw [List.getElem?_take] at hj
  split at hj
  · exact hj
  · cases hj
theorem at_int {w : World} {A : Option Addr} {n : Nat} {xs : List Int} (h : (Kd.int .i64).C w A n xs) (i : Nat) (hi : i < xs.length) : ∃ ad, A = some ad ∧ w.cell? (ad.add i) = some (.int .i64 xs[i]) := by
  obtain ⟨ad, e, hc⟩ := h.2.2 (by have := h.1; omega)
  obtain ⟨c, hcl, hK, hcc⟩ := hc i _ (List.getElem?_eq_getElem hi)
  refine ⟨ad, e, ?_⟩
  have hK' : c = [.int .i64 xs[i]] := hK
  have := hcc 0 (.int .i64 xs[i]) (by rw [hK']; rfl)
  have e1 : i * (Kd.int .i64).sz + 0 = i := by show i * 1 + 0 = i; omega
  rw [e1] at this
  exact this
theorem swk_below {w1 w2 : World} {g B : Nat} {dk : Array Cel} (hS : SWK encC 6 w1 g 0 dk w2) (hg : B ≤ g) (hB : B ≤ w1.heap.size) : Below B w1 w2 := by
  obtain ⟨q1, q2, q3, q4, q5, _⟩ := swk_heap hS
  exact ⟨q1, q2, q3, q4, fun k hk => q5 k (by omega) (by omega)⟩
theorem heap_item : Kd.Heap k26 := Kd.heap_iso _ (Kd.heap_pair Kd.heap_string (Kd.heap_pair (Kd.heap_int _) (Kd.heap_pair (Kd.heap_int _) (Kd.heap_pair (Kd.heap_int _) (Kd.heap_pair (Kd.heap_slice _ (Kd.heap_int _)) Kd.heap_string)))))
set_option maxRecDepth 100000 in
set_option maxHeartbeats 8000000 in
theorem treeBegins_walk (A : Option Addr) (c : Nat) (xs : List S26) (cut at_ : Int) (AO : Option Addr) (co : Nat) (os : List Int) (w : World) (hr : Kd.C k26 w A xs.length xs) (hc : xs.length ≤ c) (hm : xs.length * 80 ≤ 140737488351232) (hb4 : ∀ x ∈ xs, x.f4.length ≤ 140737488355328) (hb0 : ∀ x ∈ xs, x.f0.size ≤ 140737488355328)
    (hwc : (Lit.int .i64 cut).wf = true) (hwa : (Lit.int .i64 at_).wf = true) (ho : (Kd.int .i64).C w AO os.length os) (hoc : os.length ≤ co) (hol : os.length ≤ 140737488355328) (how : ∀ n ∈ os, (Lit.int .i64 n).wf = true) :
    Calls Tryd.prog 8 #[.slice A xs.length c, .int .i64 cut, .int .i64 at_, .slice AO os.length co] w fun e w' => e = .returned (.bool true) ∧ Below w.heap.size w w' := by
  have HR := Aside0.mk hr
  have HO := Aside0.mk ho
  have H4 := Aside0.mk hb4
  have H0 := Aside0.mk hb0
  have HOW := Aside0.mk how
  clear hr ho hb4 hb0 how
  have hxl : xs.length ≤ 140737488355328 := by omega
  go_enter Tryd.func8, Tryd.ntmps8
  go_wp2_with fail
  refine (awake_any _).mono ?_
  rintro e w1 ⟨rfl, hb⟩
  have HB1 := Aside0.mk hb
  clear hb
  go_wp2_with fail
  refine (check_tree A c xs _ (Kd.C_below HR.out HB1.out)).mono ?_
  rintro e w2 ⟨rfl, hb⟩
  have HB2 := Aside0.mk (HB1.out.trans (hb.mono HB1.out.size))
  clear hb HB1
  by_cases he : (checkP xs).2 = 0
  case neg =>
    have d0 : ((checkP xs).2 != 0) = true := by simpa using he
    clear he
    go_wp2
    go_ret
    exact ⟨rfl, HB2.out⟩
  have d0 : ((checkP xs).2 != 0) = false := by simpa using he
  have HE := Lib.hid he
  rw [he]
  clear he
  by_cases h0 : xs.length = 0
  · obtain rfl : xs = [] := List.eq_nil_of_length_eq_zero h0
    go_wp2
    go_ret
    exact ⟨rfl, HB2.out⟩
  have hpos : 0 < xs.length := by omega
  have dz : ((xs.length : Int) == 0) = false := by simpa using h0
  clear h0
  obtain ⟨n, hn⟩ : ∃ n, n = xs.length := ⟨_, rfl⟩
  go_upto_region 6 with (fail)
  go_cut [39] (fun v wc => v = .bool (decide (cut < 0 ∨ (xs.length : Int) < cut)) ∧ w2 = wc)
  case first =>
    by_cases h1 : cut < 0
    · go_wp2_with fail
      go_meet
      exact ⟨by simp [h1], rfl⟩
    · by_cases h2 : (xs.length : Int) < cut
      · go_wp2_with fail
        go_meet
        exact ⟨by simp [h2], rfl⟩
      · go_wp2_with fail
        go_meet
        exact ⟨by simp [h1, h2], rfl⟩
  case rest =>
  obtain ⟨rfl, hwc2⟩ := hcut
  subst hwc2
  go_upto_if 39 with (fail)
  go_cut [1] (fun v wc => (∃ q : Nat, v = .int .i64 q ∧ q ≤ xs.length) ∧ w2 = wc)
  case first =>
    by_cases h12 : cut < 0 ∨ (xs.length : Int) < cut
    · have hd : decide (cut < 0 ∨ (xs.length : Int) < cut) = true := decide_eq_true h12
      rw [hd]
      clear hd h12
      go_wp2_with fail
      go_meet
      exact ⟨⟨xs.length / 2, by go_num, by omega⟩, rfl⟩
    · have hd : decide (cut < 0 ∨ (xs.length : Int) < cut) = false := decide_eq_false h12
      obtain ⟨q, hq⟩ : ∃ q : Nat, cut = (q : Int) := ⟨cut.toNat, by omega⟩
      subst hq
      rw [hd]
      have hqn : q ≤ xs.length := by omega
      clear hd h12
      go_wp2_with fail
      go_meet
      exact ⟨⟨q, rfl, hqn⟩, rfl⟩
  case rest =>
  obtain ⟨⟨q, rfl, hqn⟩, hwc2⟩ := hcut
  subst hwc2
  clear hwc d0
  have hqc : q ≤ c := by omega
  have hqz : (q : Int) ≤ (c : Int) := by omega
  have hql : (xs.take q).length = q := by rw [List.length_take]; omega
  have hcall := check_tree A c (xs.take q) w2 (Kd.C_below (C_take HR.out q hqn) HB2.out)
  rw [hql, check_take HE.out q] at hcall
  clear hql
  go_wp2_with fail
  refine hcall.mono ?_
  rintro e w3 ⟨rfl, hb⟩
  have HB3 := Aside0.mk (HB2.out.trans (hb.mono HB2.out.size))
  clear hb HB2 hcall
  go_upto_region 11 with (fail)
  go_cut [59] (fun v wc => v = .bool (decide (at_ < 0 ∨ (xs.length : Int) ≤ at_)) ∧ w3 = wc)
  case first =>
    by_cases h1 : at_ < 0
    · go_wp2_with fail
      go_meet
      exact ⟨by simp [h1], rfl⟩
    · by_cases h2 : (xs.length : Int) ≤ at_
      · go_wp2_with fail
        go_meet
        exact ⟨by simp [h2], rfl⟩
      · go_wp2_with fail
        go_meet
        exact ⟨by simp [h1, h2], rfl⟩
  case rest =>
  obtain ⟨rfl, hwc2⟩ := hcut
  subst hwc2
  go_upto_if 59 with (fail)
  go_cut [2] (fun v wc => (∃ a : Nat, v = .int .i64 a ∧ a < xs.length) ∧ w3 = wc)
  case first =>
    by_cases h12 : at_ < 0 ∨ (xs.length : Int) ≤ at_
    · have hd : decide (at_ < 0 ∨ (xs.length : Int) ≤ at_) = true := decide_eq_true h12
      rw [hd]
      clear hd h12
      go_wp2_with fail
      go_meet
      exact ⟨⟨0, rfl, hpos⟩, rfl⟩
    · have hd : decide (at_ < 0 ∨ (xs.length : Int) ≤ at_) = false := decide_eq_false h12
      obtain ⟨a, ha⟩ : ∃ a : Nat, at_ = (a : Int) := ⟨at_.toNat, by omega⟩
      subst ha
      rw [hd]
      have han : a < xs.length := by omega
      clear hd h12
      go_wp2_with fail
      go_meet
      exact ⟨⟨a, rfl, han⟩, rfl⟩
  case rest =>
  obtain ⟨⟨a, rfl, han⟩, hwc2⟩ := hcut
  subst hwc2
  clear hwa hqc hqz hqn
  obtain ⟨ad, A4, c4, rfl, p0, p1, -⟩ := at_it HR.out HB3.out a han
  have haz : (a : Int) < (xs.length : Int) := by omega
  have hrun := beneath_run HE.out a han
  rw [← rd_get xs a han] at hrun
  have H := Lib.hid hrun.1
  have HK := Lib.hid hrun.2.2
  have hbl := hrun.2.1
  clear hrun
  go_wp2_with fail
  refine (tree_beneath (some ad) c xs (rd_T26 xs a).f0 _ (Kd.C_below HR.out HB3.out) hm H4.out).mono ?_
  rintro e w4 ⟨⟨v, rfl, hV⟩, hb⟩
  obtain ⟨A5, c5, rfl⟩ := Kd.V_slice hV
  have HV5 := Aside0.mk (Kd.V_reads' hV)
  have HB4 := Aside0.mk (HB3.out.trans (hb.mono HB3.out.size))
  clear hb hV p0 p1 HB3
  obtain ⟨bs, hbs⟩ : ∃ bs, bs = beneathP xs (rd_T26 xs a).f0 := ⟨_, rfl⟩
  rw [← hbs] at H HK hbl HV5 ⊢
  clear hbs
  go_upto_region 14 with (fail)
  go_cut [13, 101] (fun _ v wc => v = .bool false ∧ Aside0 (Below w.heap.size w wc))
  case first =>
    have e1 : IntKind.i64.wrap ((xs.length : Int) - (a : Int)) = (xs.length : Int) - (a : Int) := by rw [IntKind.wrap_i64]; omega
    have e2 : IntKind.i64.wrap ((xs.length : Int) - (a : Int) - 1) = (xs.length : Int) - (a : Int) - 1 := by rw [IntKind.wrap_i64]; omega
    have e3 : ¬ ((xs.length : Int) - (a : Int) - 1 < (bs.length : Int)) := by omega
    have e4 : IntKind.i64.wrap ((a : Int) + 1) = (a : Int) + 1 := by rw [IntKind.wrap_i64]; omega
    have e5 : IntKind.i64.wrap ((a : Int) + 1 + (bs.length : Int)) = (a : Int) + 1 + (bs.length : Int) := by rw [IntKind.wrap_i64]; omega
    have e6 : (0 : Int) ≤ (a : Int) + 1 := by omega
    have e7 : (a : Int) + 1 ≤ (a : Int) + 1 + (bs.length : Int) := by omega
    have e8 : (a : Int) + 1 + (bs.length : Int) ≤ (c : Int) := by omega
    have e9 : ((a : Int) + 1).toNat = a + 1 := by omega
    have e10 : ((a : Int) + 1 + (bs.length : Int)).toNat = a + 1 + bs.length := by omega
    have e11 : a + 1 + bs.length - (a + 1) = bs.length := by omega
    have hmid : Kd.C k26 w4 (if c = a + 1 then some ad else (some ad).map (·.add ((a + 1) * k26.sz))) bs.length bs := by
      have := Kd.C_mid (Kd.C_below HR.out HB4.out) (lo := a + 1) (hi := a + 1 + bs.length) (by omega) (by omega) hc
      rw [List.drop_take, show a + 1 + bs.length - (a + 1) = bs.length by omega, ← H.out] at this
      exact this
    obtain ⟨-, -, -, -, -, q1, -⟩ := at_it HR.out HB4.out a han
    by_cases hca : c = a + 1
    · have hb0 : bs.length = 0 := by omega
      obtain rfl : bs = [] := List.eq_nil_of_length_eq_zero hb0
      rw [if_pos hca] at hmid
      have HM := Aside0.mk hmid
      clear hmid hb0
      subst hca
      go_wp2_with fail
      refine (same_any A5 c5 (some ad) 0 [] _ HV5.out.2.2 (Nat.zero_le _) HM.out (Nat.le_refl _) (Nat.zero_le _)).mono ?_
      rintro e w5 ⟨rfl, hb⟩
      have HB5 := Aside0.mk (HB4.out.trans (hb.mono HB4.out.size))
      clear hb
      go_wp2_with fail
      go_meet
      exact ⟨by first | rfl | (rw [decide_eq_false (by omega)]), HB5⟩
    · rw [if_neg hca] at hmid
      have HM := Aside0.mk hmid
      have hbc : bs.length ≤ c - (a + 1) := by omega
      clear hmid
      go_wp2_with fail
      refine (same_any A5 c5 (some (ad.add ((a + 1) * 6))) (c - (a + 1)) bs _ HV5.out.2.2 HV5.out.2.1 HM.out hbc (by omega)).mono ?_
      rintro e w5 ⟨rfl, hb⟩
      have HB5 := Aside0.mk (HB4.out.trans (hb.mono HB4.out.size))
      clear hb
      by_cases hL : 0 < bs.length
      · have hLz : (0 : Int) < (bs.length : Int) := by omega
        obtain ⟨ad', _, _, ea, -, p1, -⟩ := at_it HR.out HB5.out a han
        injection ea with ea
        subst ea
        rw [HK.out hL] at p1
        go_wp2_with fail
        go_meet
        exact ⟨rfl, HB5⟩
      · have hLz : ¬ (0 : Int) < (bs.length : Int) := by omega
        go_wp2_with fail
        go_meet
        exact ⟨rfl, HB5⟩
  case rest =>
  obtain ⟨rfl, HBc⟩ := hcut
  obtain ⟨w5, hw5⟩ : ∃ q, q = wc := ⟨_, rfl⟩
  subst hw5
  clear H HK hbl HV5 HB4 haz
  have HF := Aside0.mk (Kd.F_below (Kd.C_F heap_item HR.out) HBc.out)
  go_wp2_with ((with_reducible refine gate_builtin (b := .append) (xs := #[.tmp 102, .tmp 103]) rfl ?_); at_builtin; refine Kd.N_append_rows k26 (w0 := w) w.heap.size rfl (.tmp 102) (.tmp 103) 22 26 (.agg #[.string ⟨#[]⟩, .int .u8 0, .int .i64 0, .int .i64 0, .slice none 0 0, .string ⟨#[]⟩]) 80 rfl Tryd.underlying22 info26 rfl (by decide) (by decide) (.slice none 0 0) [] xs (some ad) xs.length c (fun _ => True) (fun k => k < w.heap.size) rfl rfl (Kd.N_nil _ _ _ _ _) HF.out (fun k h => ⟨trivial, by simp [Value.ownBlock]⟩) (fun _ _ => trivial) HBc.out HBc.out.size (by simp; omega) ?_)
  intro v6 w6 hN hB6 hg6 hat6
  obtain ⟨g, cap, rfl, hgb, hgl, cells, hcells⟩ := Kd.N_form hN hpos
  obtain ⟨zs, hz1, hz3, hH⟩ := cels_of_N hN hpos H0.out
  have hzl : zs.length = xs.length := by rw [← hz1, List.length_map]
  have hcap := (Kd.N_reads' hN).2.1
  have HN := Aside0.mk hN
  have HB6 := Aside0.mk hB6
  have HZ1 := Aside0.mk hz1
  have HZ3 := Aside0.mk hz3
  have RW := Aside0.mk (show RowK encC 6 w6 g 0 zs.toArray from ⟨encC_len, encC_one, hH, hgl⟩)
  have S0 := Aside0.mk (SWK.start (k := 6) (enc := encC) hH)
  have HZL := Aside0.mk hzl
  clear hN hB6 hg6 hat6 hz1 hz3 hH hcells HBc HF hzl
  have hn1 : n ≤ xs.length := by omega
  go_wp2_with fail
  go_loopw [15, 16, 17] (fun s15 _ _ wr => ∃ (i : Nat) (dk : Array Cel), s15 = .int .i64 i ∧ i ≤ os.length ∧ dk.size = xs.length ∧ Aside0 (dk.toList.Perm zs) ∧ Aside0 (SWK encC 6 w6 g 0 dk wr)) (fun i _ _ _ => os.length - (intOf i).toNat)
  case atStart => exact ⟨0, zs.toArray, rfl, Nat.zero_le _, by rw [List.size_toArray]; exact HZL.out, ⟨List.Perm.refl _⟩, S0⟩
  case round =>
    clear S0
    obtain ⟨i, dk, rfl, hio, hds, HP, hS⟩ := hrel
    have HBr := Aside0.mk (HB6.out.trans (swk_below hS.out hgb HB6.out.size))
    by_cases hlt : i < os.length
    · obtain ⟨ado, rfl, hcell⟩ := at_int HO.out i hlt
      have hci : wr.cell? (ado.add i) = some (.int .i64 os[i]) := (HBr.out.cell (World.block_lt_of_cell? w _ hcell)).trans hcell
      have hltz : (i : Int) < (os.length : Int) := by omega
      obtain ⟨o, hoe⟩ : ∃ o, o = os[i] := ⟨_, rfl⟩
      rw [← hoe] at hci
      have how : (Lit.int .i64 o).wf = true := by rw [hoe]; exact HOW.out _ (List.getElem_mem hlt)
      clear hcell hoe
      have hnz : ¬ ((xs.length : Int) = 0) := by omega
      have t1 := Int.tmod_lt_of_pos o (show (0 : Int) < (xs.length : Int) by omega)
      have t2 := Int.lt_tmod_of_pos o (show (0 : Int) < (xs.length : Int) by omega)
      have hzs : zs.toArray.size = xs.length := by rw [List.size_toArray]; exact HZL.out
      have HZS := Lib.hid hzs
      have m1 : (i : Int).tmod (xs.length : Int) = ((i % xs.length : Nat) : Int) := by rw [← Int.ofNat_tmod]
      have m2 : i % xs.length < xs.length := Nat.mod_lt _ hpos
      generalize i % xs.length = kb at *
      by_cases hneg : o.tmod (xs.length : Int) < 0
      · obtain ⟨ka, hka⟩ : ∃ ka : Nat, o.tmod (xs.length : Int) + (xs.length : Int) = (ka : Int) := ⟨(o.tmod (xs.length : Int) + (xs.length : Int)).toNat, by omega⟩
        have hka1 : ka < xs.length := by omega
        have wka : IntKind.i64.wrap (o.tmod (xs.length : Int) + (xs.length : Int)) = o.tmod (xs.length : Int) + (xs.length : Int) := by rw [IntKind.wrap_i64]; omega
        go_wp2_with fail
        refine So.wp_noexit (So.swapRegN lays6 encC g 0 cap ka kb zs.toArray zs.toArray dk w6 wr RW.out xs.length HZS.out rfl (by rw [hds, HZS.out]) hS.out hka1 m2 (by omega) _ _ _ _ _ _ _ _ _ _ _ _ _ _ _ _ _ _ _ _ _ _ _ _ _ _ _ _ _ _ _ _ _ _ _ _ _ _ _ _ _ _ _ _ _ _ _ _ _ _ _ _ _ _ _ _ _ _ _ _ _ _ _ _ _ _ _ _ _ _ _ _ _ _ _ _ _ _ _ _ _ _ _ _ _ _ _ _ _ _ _ _ _ _ _ _ _ _ _ _ _ _ _ _ _ _ _ _ _ _ _ _ _ _ _ _ _ _ _ _ _ _ _ _ _ _ _ _ _ _ _ _ _ _ _ _ _ _ _ _ _ _ _ _ ?_)
        intro u128 u129 u130 u131 u132 u133 u134 u135 u136 u137 u138 u139 u140 u141 w7 hS7
        have HS7 := Aside0.mk hS7
        have HP7 := Aside0.mk ((swp_perm dk ka kb (by omega) (by omega)).trans HP.out)
        have hd7 : (Sort.swp dk ka kb).size = xs.length := by rw [Sort.size_swp]; exact hds
        clear hS7 hci
        (try simp only [Exit.inBlock, Exit.then])
        go_wp2
        go_roundw
        case rel => exact ⟨i + 1, Sort.swp dk ka kb, by go_num, by omega, hd7, HP7, HS7⟩
        case measure => simp [intOf]; omega
      · obtain ⟨ka, hka⟩ : ∃ ka : Nat, o.tmod (xs.length : Int) = (ka : Int) := ⟨(o.tmod (xs.length : Int)).toNat, by omega⟩
        have hka1 : ka < xs.length := by omega
        go_wp2_with fail
        refine So.wp_noexit (So.swapRegN lays6 encC g 0 cap ka kb zs.toArray zs.toArray dk w6 wr RW.out xs.length HZS.out rfl (by rw [hds, HZS.out]) hS.out hka1 m2 (by omega) _ _ _ _ _ _ _ _ _ _ _ _ _ _ _ _ _ _ _ _ _ _ _ _ _ _ _ _ _ _ _ _ _ _ _ _ _ _ _ _ _ _ _ _ _ _ _ _ _ _ _ _ _ _ _ _ _ _ _ _ _ _ _ _ _ _ _ _ _ _ _ _ _ _ _ _ _ _ _ _ _ _ _ _ _ _ _ _ _ _ _ _ _ _ _ _ _ _ _ _ _ _ _ _ _ _ _ _ _ _ _ _ _ _ _ _ _ _ _ _ _ _ _ _ _ _ _ _ _ _ _ _ _ _ _ _ _ _ _ _ _ _ _ _ ?_)
        intro u128 u129 u130 u131 u132 u133 u134 u135 u136 u137 u138 u139 u140 u141 w7 hS7
        have HS7 := Aside0.mk hS7
        have HP7 := Aside0.mk ((swp_perm dk ka kb (by omega) (by omega)).trans HP.out)
        have hd7 : (Sort.swp dk ka kb).size = xs.length := by rw [Sort.size_swp]; exact hds
        clear hS7 hci
        (try simp only [Exit.inBlock, Exit.then])
        go_wp2
        go_roundw
        case rel => exact ⟨i + 1, Sort.swp dk ka kb, by go_num, by omega, hd7, HP7, HS7⟩
        case measure => simp [intOf]; omega
    · obtain rfl : i = os.length := by omega
      have hit : (dk.toList.map Cel.it).Perm xs := by rw [← HZ1.out]; exact HP.out.map _
      have hN := swk_own (dk := dk) hgb (by rw [HZ1.out, HZL.out]; exact HN.out) HZ3.out hS.out (by rw [hds, HZL.out]) (fun z hz => HP.out.subset hz)
      rw [HZL.out] at hN
      obtain ⟨ys, hys⟩ : ∃ ys, ys = dk.toList.map Cel.it := ⟨_, rfl⟩
      rw [← hys] at hit hN
      have hyl : ys.length = xs.length := hit.length_eq
      have hC := (Kd.N_reads' hN).2.2
      have hsort := isort_perm (chk_rise HE.out).1 hit
      have hcall := sort_own (some ⟨g, 0, none⟩) cap ys wr hC (by rw [hyl]; exact hm) (fun x hx => H4.out x (hit.subset hx)) (fun x hx => H0.out x (hit.subset hx))
      rw [hsort, hyl] at hcall
      clear hit hN hys hC hsort hyl
      go_wp2_with fail
      refine hcall.mono ?_
      rintro e w8 ⟨⟨A8, c8, rfl, hc8, hN8⟩, hb⟩
      have hC8 := Aside0.mk (Kd.N_reads' hN8).2.2
      have HB8 := Aside0.mk (HBr.out.trans (hb.mono HBr.out.size))
      clear hb hN8 hcall
      go_wp2_with fail
      refine (same_any A8 xs.length (some ad) c xs _ hC8.out (Nat.le_refl _) (Kd.C_below HR.out HB8.out) hc hxl).mono ?_
      rintro e w9 ⟨rfl, hb⟩
      have HB9 := Aside0.mk (HB8.out.trans (hb.mono HB8.out.size))
      clear hb
      go_wp2
      go_ret
      exact ⟨rfl, HB9.out⟩
end Go.Proofs.YthpecpkncifngaaDoor.X
end

/- Arguments laid open by their kinds: what a reading of an argument says of its cells, kind by kind; and that no part of it is greater than the reach. -/
section
namespace Go.Proofs.YthpecpkncifngaaDoor.Op2
open Go.RowKit Go.Proofs.YthpecpkncifngaaDoorW.PrintWords
section
variable {H : Type} (enc : TypeId × Value → H) (P : Program) (W : World) (base : Nat) (spare : Nat → Bool) (held : Bool)
def Opens {α : Type} (t : TypeId) (d : Kd α) (G : α → Prop) : Prop :=
  ∀ (fuel : Nat) (cs : List Value) (x : DataW H × List MemPlace), DataW.trod enc P W base spare held fuel t cs = some x → (∀ n ∈ x.1.weights P t, n ≤ reachBytes) → ∃ y, d.K W y cs ∧ G y
variable {enc P W base spare held}
theorem opens_int {t : TypeId} {k : IntKind} (ht : P.underlying t = some (.int k)) : Opens enc P W base spare held t (Kd.int k) (fun n => (Lit.int k n).wf = true) := by
  intro fuel cs x h _
  obtain ⟨n, rfl, rfl, hw⟩ := DataW.trod_int ht h
  exact ⟨n, rfl, hw⟩
theorem opens_string {t : TypeId} (ht : P.underlying t = some .string) : Opens enc P W base spare held t Kd.string (fun s => s.size ≤ 140737488351232) := by
  intro fuel cs x h hw
  obtain ⟨s, rfl, rfl, hs⟩ := DataW.trod_string ht h
  refine ⟨s, rfl, ?_⟩
  have := hw s.data.toList.length (by simp [DataW.weights])
  rw [Array.length_toList] at this
  exact this
theorem weightsAll_mem {e : TypeId} : ∀ {l : List (DataW H)} {d : DataW H} {n : Nat}, d ∈ l → n ∈ d.weights P e → n ∈ DataW.weightsAll P e l
  | x :: r, d, n, hd, hn => by
    rw [DataW.weightsAll]
    rcases List.mem_cons.1 hd with rfl | hd
    · exact List.mem_append_left _ hn
    · exact List.mem_append_right _ (weightsAll_mem hd hn)
theorem weightsEach_mem : ∀ {ts : List TypeId} {l : List (DataW H)} {j : Nat} {t : TypeId} {d : DataW H} {n : Nat}, ts[j]? = some t → l[j]? = some d → n ∈ d.weights P t → n ∈ DataW.weightsEach P ts l
  | t :: ts, x :: r, 0, _, _, n, h1, h2, hn => by
    simp at h1 h2
    subst h1; subst h2
    rw [DataW.weightsEach]
    exact List.mem_append_left _ hn
  | t :: ts, x :: r, j + 1, _, _, n, h1, h2, hn => by
    rw [DataW.weightsEach]
    exact List.mem_append_right _ (weightsEach_mem (by simpa using h1) (by simpa using h2) hn)
  | [], _, _, _, _, _, h1, _, _ => by simp at h1
  | _ :: _, [], _, _, _, _, _, h2, _ => by simp at h2
theorem choose_list {α β : Type} {R : Nat → α → β → Prop} : ∀ (l : List α), (∀ i a, l[i]? = some a → ∃ b, R i a b) → ∃ m : List β, m.length = l.length ∧ ∀ i a b, l[i]? = some a → m[i]? = some b → R i a b
  | [], _ => ⟨[], rfl, by simp⟩
  | a :: r, h => by
    obtain ⟨b, hb⟩ := h 0 a rfl
    obtain ⟨m, hm, hr⟩ := choose_list (R := fun i => R (i + 1)) r (fun i x hx => h (i + 1) x (by simpa using hx))
    refine ⟨b :: m, by simp [hm], fun i x y hx hy => ?_⟩
    cases i with
    | zero =>
      simp at hx hy
      subst hx; subst hy
      exact hb
    | succ i => exact hr i x y (by simpa using hx) (by simpa using hy)
theorem cells_all {a : Addr} {n : Nat} {cs : List Value} (h : W.cells? base a n = some cs) : cs.length = n ∧ ∀ i u, cs[i]? = some u → W.cell? (a.add i) = some u := by
  obtain ⟨h1, h2, h3⟩ := World.cells?_some h
  refine ⟨h2, fun i u hu => ?_⟩
  have hi : i < n := by rw [← h2]; exact (List.getElem?_eq_some_iff.1 hu).1
  rw [h3 i hi]; exact hu
theorem opens_slice {t e : TypeId} {α : Type} {d : Kd α} {G : α → Prop} {b : Nat} (ht : P.underlying t = some (.slice e)) (hc : P.cellsOf e = d.sz) (hb : P.bytesOf e = b) (he : Opens enc P W base spare held e d G) :
    Opens enc P W base spare held t (Kd.slice e d) (fun xs => xs.length * b ≤ 140737488351232 ∧ xs.length ≤ 9223372036854775807 ∧ ∀ x ∈ xs, G x) := by
  intro fuel cs x h hw
  rcases DataW.trod_slice ht h with ⟨rfl, rfl⟩ | ⟨a, len, cap, elems, rest, n, _, rfl, rfl, hbs, hl, hm, hlen, hel, _, _⟩
  · exact ⟨[], ⟨none, 0, rfl, Nat.le_refl _, Kd.C_nil _ _⟩, by simp, by simp, by simp⟩
  · simp only [DataW.weights, ht] at hw
    have h1 := hw ((List.map (·.1) elems).length + (List.map (·.1) rest).length |> (· * P.bytesOf e)) List.mem_cons_self
    have each : ∀ i y, elems[i]? = some y → ∃ z, (∃ c, c.length = d.sz ∧ d.K W z c ∧ ∀ j u, c[j]? = some u → W.cell? (a.add (i * d.sz + j)) = some u) ∧ G z := by
      intro i y hy
      have hi : i < len := by rw [← hlen]; exact (List.getElem?_eq_some_iff.1 hy).1
      have hq := hel i hi
      rw [hy, Option.bind_eq_some_iff] at hq
      obtain ⟨c, hcs, hy'⟩ := hq
      obtain ⟨z, hz, hg⟩ := he n c y hy' (fun m hm' => hw m (List.mem_cons_of_mem _ (List.mem_append_left _ (weightsAll_mem (List.mem_map.2 ⟨y, List.mem_of_getElem? hy, rfl⟩) hm'))))
      rw [hc] at hcs
      obtain ⟨q1, q2⟩ := cells_all hcs
      refine ⟨z, ⟨c, q1, hz, fun j u hu => ?_⟩, hg⟩
      have := q2 j u hu
      rwa [add_add] at this
    obtain ⟨zs, hzl, hz⟩ := choose_list elems each
    have hzlen : zs.length = len := hzl.trans hlen
    have get : ∀ i z, zs[i]? = some z → (∃ c, c.length = d.sz ∧ d.K W z c ∧ ∀ j u, c[j]? = some u → W.cell? (a.add (i * d.sz + j)) = some u) ∧ G z := by
      intro i z hzi
      have hi : i < elems.length := by rw [← hzl]; exact (List.getElem?_eq_some_iff.1 hzi).1
      exact hz i _ z (List.getElem?_eq_getElem hi) hzi
    have hmx : cap ≤ 9223372036854775807 := by unfold maxLen at hm; omega
    refine ⟨zs, ⟨some a, cap, by rw [hzlen], by omega, ⟨hzlen ▸ rfl, by omega, fun _ => ⟨a, rfl, fun j p hj => (get j p hj).1⟩⟩⟩, ?_, by omega, ?_⟩
    · rw [hzlen, ← hlen]
      rw [hb] at h1
      simp only [List.length_map] at h1
      have : elems.length * b ≤ (elems.length + rest.length) * b := Nat.mul_le_mul_right _ (Nat.le_add_right _ _)
      exact Nat.le_trans this h1
    · intro z hz'
      obtain ⟨i, hi⟩ := List.getElem?_of_mem hz'
      exact (get i z hi).2
end
end Go.Proofs.YthpecpkncifngaaDoor.Op2
end

/- Items, and lists of items, laid open. -/
section
namespace Go.Proofs.YthpecpkncifngaaDoor.X
open Go.RowKit Go.Proofs.YthpecpkncifngaaDoorW.PrintWords Go.Proofs.YthpecpkncifngaaDoor.Op2
def GoodIt (x : S26) : Prop := x.f0.size ≤ 140737488351232 ∧ (Lit.int .u8 x.f1).wf = true ∧ (Lit.int .i64 x.f2).wf = true ∧ (Lit.int .i64 x.f3).wf = true ∧ (x.f4.length * 1 ≤ 140737488351232 ∧ x.f4.length ≤ 9223372036854775807 ∧ ∀ n ∈ x.f4, (Lit.int .u8 n).wf = true) ∧ x.f5.size ≤ 140737488351232
theorem six {α : Type} {l : List α} (h : l.length = 6) : ∃ a b c d e f, l = [a, b, c, d, e, f] := by
  match l, h with
  | [a, b, c, d, e, f], _ => exact ⟨a, b, c, d, e, f, rfl⟩
theorem opens_item {H : Type} {enc : TypeId × Value → H} {W : World} {base : Nat} {spare : Nat → Bool} {held : Bool} : Opens enc Tryd.prog W base spare held 26 k26 GoodIt := by
  intro fuel cs x h hw
  obtain ⟨xs, n, _, rfl, hl, hx, hel⟩ := DataW.trod_struct Tryd.underlying26 h
  have hc : Tryd.prog.cellsOf 26 = 6 := by kernel_rfl
  rw [hc] at hl
  obtain ⟨u0, u1, u2, u3, u4, u5, rfl⟩ := six hl
  obtain ⟨y0, y1, y2, y3, y4, y5, rfl⟩ := six (show xs.length = 6 from hx)
  simp only [DataW.weights, Tryd.underlying26] at hw
  have c0 : Tryd.prog.cellsOf 9 = 1 := by kernel_rfl
  have c1 : Tryd.prog.cellsOf 23 = 1 := by kernel_rfl
  have c2 : Tryd.prog.cellsOf 3 = 1 := by kernel_rfl
  have c4 : Tryd.prog.cellsOf 24 = 1 := by kernel_rfl
  have e0 : DataW.trod enc Tryd.prog W base spare held n 9 (([u0, u1, u2, u3, u4, u5].drop 0).take (Tryd.prog.cellsOf 9)) = some y0 := hel 0 _ rfl
  rw [c0] at e0
  have e1 : DataW.trod enc Tryd.prog W base spare held n 23 (([u0, u1, u2, u3, u4, u5].drop 1).take (Tryd.prog.cellsOf 23)) = some y1 := hel 1 _ rfl
  rw [c1] at e1
  have e2 : DataW.trod enc Tryd.prog W base spare held n 3 (([u0, u1, u2, u3, u4, u5].drop 2).take (Tryd.prog.cellsOf 3)) = some y2 := hel 2 _ rfl
  rw [c2] at e2
  have e3 : DataW.trod enc Tryd.prog W base spare held n 3 (([u0, u1, u2, u3, u4, u5].drop 3).take (Tryd.prog.cellsOf 3)) = some y3 := hel 3 _ rfl
  rw [c2] at e3
  have e4 : DataW.trod enc Tryd.prog W base spare held n 24 (([u0, u1, u2, u3, u4, u5].drop 4).take (Tryd.prog.cellsOf 24)) = some y4 := hel 4 _ rfl
  rw [c4] at e4
  have e5 : DataW.trod enc Tryd.prog W base spare held n 9 (([u0, u1, u2, u3, u4, u5].drop 5).take (Tryd.prog.cellsOf 9)) = some y5 := hel 5 _ rfl
  rw [c0] at e5
  have wt : ∀ (j : Nat) (t : TypeId) (y : DataW H × List MemPlace), ((#[_, _, _, _, _, _] : Array Field).toList.map (·.type))[j]? = some t → [y0, y1, y2, y3, y4, y5][j]? = some y → ∀ m ∈ y.1.weights Tryd.prog t, m ≤ reachBytes :=
    fun j t y h1 h2 m hm => hw m (weightsEach_mem h1 (by rw [List.getElem?_map, h2]; rfl) hm)
  obtain ⟨z0, k0, g0⟩ := opens_string Tryd.underlying9 n _ _ e0 (wt 0 _ _ rfl rfl)
  obtain ⟨z1, k1, g1⟩ := opens_int Tryd.underlying23 n _ _ e1 (wt 1 _ _ rfl rfl)
  obtain ⟨z2, k2, g2⟩ := opens_int Tryd.underlying3 n _ _ e2 (wt 2 _ _ rfl rfl)
  obtain ⟨z3, k3, g3⟩ := opens_int Tryd.underlying3 n _ _ e3 (wt 3 _ _ rfl rfl)
  obtain ⟨z4, k4, g4⟩ := opens_slice (b := 1) Tryd.underlying24 (by kernel_rfl) (by kernel_rfl) (opens_int Tryd.underlying5) n _ _ e4 (wt 4 _ _ rfl rfl)
  obtain ⟨z5, k5, g5⟩ := opens_string Tryd.underlying9 n _ _ e5 (wt 5 _ _ rfl rfl)
  exact ⟨⟨z0, z1, z2, z3, z4, z5⟩, ⟨_, _, rfl, k0, ⟨_, _, rfl, k1, ⟨_, _, rfl, k2, ⟨_, _, rfl, k3, ⟨_, _, rfl, k4, k5⟩⟩⟩⟩⟩, g0, g1, g2, g3, g4, g5⟩
theorem opens_items {H : Type} {enc : TypeId × Value → H} {W : World} {base : Nat} {spare : Nat → Bool} {held : Bool} : Opens enc Tryd.prog W base spare held 22 (Kd.slice 26 k26) (fun xs => xs.length * 80 ≤ 140737488351232 ∧ xs.length ≤ 9223372036854775807 ∧ ∀ x ∈ xs, GoodIt x) :=
  opens_slice Tryd.underlying22 (by kernel_rfl) (by kernel_rfl) opens_item
end Go.Proofs.YthpecpkncifngaaDoor.X
end

section
namespace Go.Proofs.YthpecpkncifngaaDoor.treeBeginsRow
open Go.ChangeShapes Go.WideShapes Go.ChangeAt Go.RowKit
open Go.ChangeMaps (open_string shut_string)
theorem own : ownKnob Tryd.prog.godebug = none := by kernel_rfl
open Go.Proofs.YthpecpkncifngaaDoor Go.Proofs.YthpecpkncifngaaDoorW.PrintWords
theorem laidOut : laidOutB Tryd.prog = true := by kernel_rfl
theorem walk (A0 : Option Addr) (c0 : Nat) (a0 : List X.S26) (a1 : Int) (a2 : Int) (A3 : Option Addr) (c3 : Nat) (a3 : List Int) (w : World) (h0 : Kd.C X.k26 w A0 a0.length a0) (hc0 : a0.length ≤ c0) (hg0 : a0.length * 80 ≤ 140737488351232 ∧ a0.length ≤ 9223372036854775807 ∧ ∀ x ∈ a0, X.GoodIt x) (h1 : (Lit.int .i64 a1).wf = true) (h2 : (Lit.int .i64 a2).wf = true) (h3 : Kd.C (Kd.int .i64) w A3 a3.length a3) (hc3 : a3.length ≤ c3) (hg3 : a3.length * 8 ≤ 140737488351232 ∧ a3.length ≤ 9223372036854775807 ∧ ∀ x ∈ a3, (Lit.int .i64 x).wf = true) : Calls Tryd.prog 8 #[.slice A0 a0.length c0, .int .i64 a1, .int .i64 a2, .slice A3 a3.length c3] w fun e w' => e = .returned (.bool true) ∧ Below w.heap.size w w' := by
  exact X.treeBegins_walk A0 c0 a0 a1 a2 A3 c3 a3 w h0 hc0 hg0.1 (fun x hx => by have := (hg0.2.2 x hx).2.2.2.2.1.1; omega) (fun x hx => by have := (hg0.2.2 x hx).1; omega) h1 h2 h3 hc3 (by have := hg3.1; omega) hg3.2.2
set_option maxRecDepth 100000 in
theorem contract (H : Type) (enc : TypeId × Value → H) (W : World) (base : Nat) (args : Array Value) (ds gs : List (DataW H)) (before : List MemPlace)
    (hval : ∀ (j : Nat) t v, Tryd.f8.params[j]? = some t → args[j]? = some v → Value.okWide Tryd.prog W .any base t v)
    (hW : DataW.Whole enc Tryd.prog Tryd.f8.params.toList Rows.treeBeginsSpec.vars false W args.toList ds gs before) (hsz0 : (DataW.weightsEach Tryd.prog (Tryd.f8.params.toList ++ Rows.treeBeginsSpec.plain.varTypes Tryd.prog) (ds ++ gs)).all (· ≤ reachBytes) = true) :
    Calls Tryd.prog 8 args W fun e W' => ∃ v, e = .returned v ∧ Rows.treeBeginsSpec.post enc Tryd.prog Tryd.f8 false true false false W args v W' := by
  have hW' := hW
  obtain ⟨p, q, hA0, hV, rfl, hfz, hnd⟩ := hW
  have hA : DataW.TrodAll enc Tryd.prog W 0 (fun _ => true) true Tryd.f8.params.toList args.toList ds p := hA0
  have hsz := hsz0
  rw [Tryd.params8] at hA hval hsz
  obtain ⟨v0, vs0, d0, ds0, p0, q0, hargs, rfl, rfl, h0, r0⟩ := trodAll_cons hA
  obtain ⟨v1, vs1, d1, ds1, p1, q1, rfl, rfl, rfl, h1, r1⟩ := trodAll_cons r0
  obtain ⟨v2, vs2, d2, ds2, p2, q2, rfl, rfl, rfl, h2, r2⟩ := trodAll_cons r1
  obtain ⟨v3, vs3, d3, ds3, p3, q3, rfl, rfl, rfl, h3, r3⟩ := trodAll_cons r2
  obtain ⟨rfl, rfl, rfl⟩ := trodAll_nil r3
  obtain rfl : args = #[v0, v1, v2, v3] := by cases args; simp_all
  obtain ⟨rfl, rfl⟩ := trodVars_none hV
  have k0 := h0
  have lt0 : ∀ x ∈ p0, x.block < W.heap.size := by obtain ⟨m, hm⟩ := k0; exact DataW.trod_lt m _ _ _ hm
  obtain ⟨va0, vl0, vc0, rfl⟩ := okWide_slice Tryd.underlying22 (hval 0 22 v0 rfl rfl)
  obtain ⟨m0, hm0⟩ := h0
  obtain ⟨a0, hK0, w0⟩ := X.opens_items m0 _ _ hm0 (fun n hn => of_decide_eq_true (List.all_eq_true.1 hsz n (DataW.weights_mem_each (j := 0) rfl rfl n hn)))
  obtain ⟨A0, c0, he0, wc0, wK0⟩ := hK0
  obtain ⟨ea0, el0, ec0⟩ : va0 = A0 ∧ vl0 = a0.length ∧ vc0 = c0 := by simpa [Value.cells] using he0
  obtain rfl : A0 = va0 := ea0.symm
  obtain rfl : a0.length = vl0 := el0.symm
  obtain rfl : c0 = vc0 := ec0.symm
  obtain ⟨a1, rfl, rfl, rfl, w1⟩ := open_int Tryd.underlying3 (hval 1 3 v1 rfl rfl) h1
  obtain ⟨a2, rfl, rfl, rfl, w2⟩ := open_int Tryd.underlying3 (hval 2 3 v2 rfl rfl) h2
  have k3 := h3
  have lt3 : ∀ x ∈ p3, x.block < W.heap.size := by obtain ⟨m, hm⟩ := k3; exact DataW.trod_lt m _ _ _ hm
  obtain ⟨va3, vl3, vc3, rfl⟩ := okWide_slice Tryd.underlying52 (hval 3 52 v3 rfl rfl)
  obtain ⟨m3, hm3⟩ := h3
  obtain ⟨a3, hK3, w3⟩ := (Op2.opens_slice (d := Kd.int .i64) (b := 8) Tryd.underlying52 (by kernel_rfl) (by kernel_rfl) (Op2.opens_int Tryd.underlying3)) m3 _ _ hm3 (fun n hn => of_decide_eq_true (List.all_eq_true.1 hsz n (DataW.weights_mem_each (j := 3) rfl rfl n hn)))
  obtain ⟨A3, c3, he3, wc3, wK3⟩ := hK3
  obtain ⟨ea3, el3, ec3⟩ : va3 = A3 ∧ vl3 = a3.length ∧ vc3 = c3 := by simpa [Value.cells] using he3
  obtain rfl : A3 = va3 := ea3.symm
  obtain rfl : a3.length = vl3 := el3.symm
  obtain rfl : c3 = vc3 := ec3.symm
  clear hA0
  refine (walk A0 c0 a0 a1 a2 A3 c3 a3 W wK0 wc0 w0 w1 w2 wK3 wc3 w3).mono fun e W' ⟨he, bel⟩ => ?_
  subst he
  exact ⟨_, rfl, _, _, _, [], _, [], hW', trodAll_mk1 (shut_bool Tryd.underlying4 _), (trodAll_cons_mk (Below.trod laidOut (by kernel_rfl) (of_decide_eq_true (by kernel_rfl)) k0 bel lt0) (trodAll_cons_mk (shut_int Tryd.underlying3 w1) (trodAll_cons_mk (shut_int Tryd.underlying3 w2) (trodAll_cons_mk (Below.trod laidOut (by kernel_rfl) (of_decide_eq_true (by kernel_rfl)) k3 bel lt3) trodAll_mk0)))), rfl, bel.frame _, fun h => by cases h⟩
noncomputable def laidWorld (os : Os) : World := { World.holding Tryd.prog os ⟨#[], #[], []⟩ with heap := (((World.holding Tryd.prog os ⟨#[], #[], []⟩).heap.modify 2 fun | .cells _ t frozen => .cells (#[.int .u8 128, .int .u8 191, .int .u8 160, .int .u8 191, .int .u8 128, .int .u8 159, .int .u8 144, .int .u8 191, .int .u8 128, .int .u8 143, .int .u8 0, .int .u8 0, .int .u8 0, .int .u8 0, .int .u8 0, .int .u8 0, .int .u8 0, .int .u8 0, .int .u8 0, .int .u8 0, .int .u8 0, .int .u8 0, .int .u8 0, .int .u8 0, .int .u8 0, .int .u8 0, .int .u8 0, .int .u8 0, .int .u8 0, .int .u8 0, .int .u8 0, .int .u8 0]) t frozen | o => o).modify 1 fun | .cells _ t frozen => .cells ((Go.Pinned.utf8FirstZ.map fun (n : Nat) => Value.int .u8 (n : Int)).toArray) t frozen | o => o) }
set_option maxRecDepth 100000 in
theorem laid_met (os : Os) : laidMet Tryd.prog Rows.treeBeginsRow.laid ((laidWorld os).forCall (fun _ _ => 0) ⟨#[], #[.slice none 0 0, .int .i64 0, .int .i64 0, .slice none 0 0], []⟩).memory :=
  laidMet_of_run' 8 (by kernel_rfl) (by kernel_rfl)
set_option maxRecDepth 100000 in
theorem reads (os : Os) {H : Type} (enc : TypeId × Value → H) : ∃ places, DataW.whole enc Tryd.prog ((laidWorld os).forCall (fun _ _ => 0) ⟨#[], #[.slice none 0 0, .int .i64 0, .int .i64 0, .slice none 0 0], []⟩).memory Tryd.f8.params.toList Rows.treeBeginsSpec.vars false (#[.slice none 0 0, .int .i64 0, .int .i64 0, .slice none 0 0] : Array Value).toList 8 = some ([.nil, .lit (.int .i64 0), .lit (.int .i64 0), .nil], [], places) :=
  ⟨[], by kernel_rfl⟩
set_option maxRecDepth 100000 in
theorem lifted (os : Os) (started : os.Started) (H : Type) (enc : TypeId × Value → H) (F : Stop.Interp) :
    ReturnsInHanded {} Tryd.checked os 8 .any ((OpenSpec.ofChange Rows.treeBeginsSpec).preRow enc Tryd.prog Tryd.f8 Rows.treeBeginsRow.domain false Rows.treeBeginsRow.laid) (((OpenSpec.ofChange Rows.treeBeginsSpec).at F).post enc Tryd.prog Tryd.f8 false true false false) := by
  obtain ⟨places, hx⟩ := reads os enc
  refine returnsInHanded_of_row (C := Tryd.checked) (s := OpenSpec.ofChange Rows.treeBeginsSpec) own started (by kernel_rfl) Tryd.func8
    (witness_row_at (enc := enc) (C := Tryd.checked) false (laidWorld os) #[.slice none 0 0, .int .i64 0, .int .i64 0, .slice none 0 0] rfl (by kernel_rfl) (by kernel_rfl) (by kernel_rfl)
      (OpenSpec.preRow_of_cond 8 hx (by kernel_rfl) (fun k hk => by cases hk) (by kernel_rfl) (laid_met os))) ?_
  intro W base args ds gs before hval hW _ hcond hsz0 _ _ _
  exact contract H enc W base args ds gs before hval hW hsz0
set_option maxRecDepth 100000 in
theorem proved : Rows.TreeBeginsSaid :=
  OpenClaim.holds_of_cond 8 Tryd.f8 rfl rfl rfl rfl rfl rfl rfl ⟨rfl, rfl, rfl, rfl, rfl⟩ rfl rfl rfl rfl rfl (by kernel_rfl) Tryd.func8 (by kernel_rfl)
    (of_decide_eq_true (by kernel_rfl)) (by unfold Func.isWrapper; first | (rw [if_pos (by decide +kernel)]; kernel_rfl) | (rw [if_neg (by decide +kernel)]; exact ⟨rfl, rfl⟩))
    (fun os started H enc _ F => by rw [OpenClaim.pre_eq_preRow]; exact lifted os started H enc F)
theorem plain (f : FuncId) (fn : Func) (hf : Tryd.pinned.checked.prog.funcNamed "tabulary/tabularylaw11.TreeBegins" = some f) (hfn : Tryd.pinned.checked.prog.funcs[f]? = some fn) :
    false = Tryd.pinned.checked.prog.looks [] ∧ ∀ (j : Nat) t, fn.params[j]? = some t → Tryd.pinned.checked.prog.wantsStandIn t = false := by
  obtain rfl : f = 8 := Option.some.inj ((show Tryd.prog.funcNamed "tabulary/tabularylaw11.TreeBegins" = some 8 by kernel_rfl).symm.trans hf) |>.symm
  obtain rfl : fn = Tryd.f8 := (Option.some.inj (Tryd.func8.symm.trans hfn)).symm
  refine ⟨by kernel_rfl, fun j t ht => ?_⟩
  rw [Tryd.params8] at ht
  have hm : t = 3 ∨ t = 22 ∨ t = 52 := by have := Array.mem_of_getElem? ht; simp at this; first | (rcases this with h | h | h | h <;> simp [h]) | (rcases this with h | h | h <;> simp [h]) | (rcases this with h | h <;> simp [h])
  rcases hm with rfl | rfl | rfl
  · exact (show Tryd.prog.wantsStandIn 3 = false by kernel_rfl)
  · exact (show Tryd.prog.wantsStandIn 22 = false by kernel_rfl)
  · exact (show Tryd.prog.wantsStandIn 52 = false by kernel_rfl)
set_option maxRecDepth 100000 in
theorem card : Rows.TreeBeginsCardSaid :=
  Claim7.holds_tied_plain_at .later [] _ _ _ _ proved (fun _ h => by cases h) (by kernel_rfl) (fun _ h => by cases h) treeBegins_row_tie rfl ⟨rfl, rfl⟩ (by kernel_rfl) rfl plain (by kernel_rfl)
end Go.Proofs.YthpecpkncifngaaDoor.treeBeginsRow
namespace Go.Proofs.YthpecpkncifngaaDoor
theorem treeBegins_holds : Rows.TreeBeginsCardSaid := treeBeginsRow.card
#print axioms treeBegins_holds
end Go.Proofs.YthpecpkncifngaaDoor
end
