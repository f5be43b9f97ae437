/- The row of the law tabulary/tabularylaw11.TreeWithout: for every input the call returns true, and each argument reads behind the call as it read before. -/
import Derived.Test.YthpecpkncifngaaDoorZTreeWithout1
import Derived.Test.YthpecpkncifngaaDoorZTreeWithout3
import Derived.Deep.RegionHeld3
import Derived.Test.YthpecpkncifngaaDoorWMore
import Derived.ChangeArms
import Derived.DataReads
import Derived.SizedLaws
import Derived.ProofKit
import Derived.Test.YthpecpkncifngaaDoorCards
import Derived.Test.YthpecpkncifngaaDoorTie
import Derived.WalkKit
import Derived.OpenShut
import Derived.ShutString
import Derived.ChangeOld
import Derived.Below
import Derived.JoinedCond
import Derived.Deep.DeepHandedRow
import Derived.Lib.LaidTab
/- The contract of tree.Check. -/
section
namespace Go.Proofs.YthpecpkncifngaaDoor.X
open Go.RowKit Go.Shelf Go.Proofs.YthpecpkncifngaaDoor Go.Proofs.YthpecpkncifngaaDoorW.PrintWords Go.Proofs.YthpecpkncifngaaDoorW.PrintLast Go.Proofs.YthpecpkncifngaaDoorW.PrintMore Go.Proofs.YthpecpkncifngaaDoor.Pure
set_option linter.unusedVariables false
set_option linter.unusedSimpArgs false

theorem Ev.some_ {α : Type} {g : Nat → Option α} {r : α} (h : Ev g r) : ∃ k, g k = some r := h.imp fun K hK => hK K (Nat.le_refl _)
theorem compare_any (a b : ByteArray) (w : World) (ha : a.size ≤ 140737488355328) (hb : b.size ≤ 140737488355328) :
    Calls Tryd.prog 36 #[.string a, .string b] w fun e w' => e = .returned (.int .i64 (Nm.cmpL (Nm.texts a.data.toList) (Nm.texts b.data.toList))) ∧ ∃ n, w' = w.drewN n := by
  obtain ⟨k, hk⟩ := Ev.some_ (ncompare_l0 a.size a b (Nat.le_refl _) ha hb)
  refine (name_Compare.calls k a b _ w hk).mono ?_
  rintro e w' ⟨rfl, h⟩
  exact ⟨rfl, h.out⟩
theorem up_any (p : ByteArray) (w : World) (hp : p.size ≤ 1099511627776) :
    Calls Tryd.prog 27 #[.string p] w fun e w' => e = .returned (.string (upB p)) ∧ Below w.heap.size w w' := by
  obtain ⟨k, hk⟩ := Ev.some_ (up_ev p hp)
  exact name_Up.calls k p _ w hk

/-- The kind that the map of kinds tells of a path, behind the first k items. -/
def kd (xs : List S26) : Nat → ByteArray → Int
  | 0, _ => 0
  | k + 1, s => if (rd_T26 xs k).f0 = s then (rd_T26 xs k).f1 else kd xs k s
def kinds (xs : List S26) : Nat → List (ByteArray × Value)
  | 0 => []
  | k + 1 => Mp.mput (kinds xs k) (rd_T26 xs k).f0 (.int .u8 (rd_T26 xs k).f1)
theorem kinds_get (xs : List S26) (k : Nat) (s : ByteArray) : (Mp.mget (kinds xs k) s).getD (.int .u8 0) = .int .u8 (kd xs k s) := by
  induction k with
  | zero => rfl
  | succ k ih =>
    simp only [kinds, Mp.mget_put, kd]
    split
    · rfl
    · exact ih
def cmpA (xs : List S26) (k : Nat) : Int := Nm.cmpL (Nm.texts (rd_T26 xs (k - 1 : Nat)).f0.data.toList) (Nm.texts (rd_T26 xs k).f0.data.toList)
def stepP (xs : List S26) (k : Nat) : Int :=
  if mayP (rd_T26 xs k) ≠ 0 then mayP (rd_T26 xs k) else
  if 0 < k ∧ 0 ≤ cmpA xs k then 111 else
  if (upB (rd_T26 xs k).f0).toList ≠ [] ∧ kd xs k (upB (rd_T26 xs k).f0) ≠ 2 then 112 else
  if (rd_T26 xs k).f1 = 3 ∧ kd xs k (rd_T26 xs k).f5 ≠ 1 then 113 else 0
def chkP (xs : List S26) : Nat → Int × Int
  | k => if h : k < xs.length then (if stepP xs k = 0 then chkP xs (k + 1) else ((k : Int), stepP xs k)) else (0, 0)
termination_by k => xs.length - k
theorem chkP_go {xs : List S26} {k : Nat} (h : k < xs.length) (hs : stepP xs k = 0) : chkP xs k = chkP xs (k + 1) := by rw [chkP, dif_pos h, if_pos hs]
theorem chkP_stop {xs : List S26} {k : Nat} {e : Int} (h : k < xs.length) (hs : stepP xs k = e) (h0 : e ≠ 0) : chkP xs k = ((k : Int), e) := by rw [chkP, dif_pos h, if_neg (by rw [hs]; exact h0), hs]
theorem chkP_end {xs : List S26} {k : Nat} (h : xs.length ≤ k) : chkP xs k = (0, 0) := by rw [chkP, dif_neg (by omega)]
/-- What tree.Check tells. -/
def checkP (xs : List S26) : Int × Int := if 256 < xs.length then (256, 3) else chkP xs 0

theorem may_size {x : S26} (h : mayP x = 0) : x.f0.size ≤ 400 := by
  unfold mayP at h
  split at h
  · rename_i hne
    omega
  · rename_i hne
    have hl := Pure.len_eq x.f0
    unfold Nm.check at hne
    by_cases h4 : 400 < x.f0.data.toList.length
    · rw [if_pos h4] at hne; simp at hne
    · omega

section
variable {xs : List S26} {k : Nat}
theorem step1 (h : mayP (rd_T26 xs k) ≠ 0) : stepP xs k = mayP (rd_T26 xs k) := by rw [stepP, if_pos h]
theorem step2 (h : mayP (rd_T26 xs k) = 0) (h2 : 0 < k ∧ 0 ≤ cmpA xs k) : stepP xs k = 111 := by rw [stepP, if_neg (by simp [h]), if_pos h2]
theorem step3 (h : mayP (rd_T26 xs k) = 0) (h2 : ¬ (0 < k ∧ 0 ≤ cmpA xs k)) (h3 : (upB (rd_T26 xs k).f0).toList ≠ [] ∧ kd xs k (upB (rd_T26 xs k).f0) ≠ 2) : stepP xs k = 112 := by rw [stepP, if_neg (by simp [h]), if_neg h2, if_pos h3]
theorem step4 (h : mayP (rd_T26 xs k) = 0) (h2 : ¬ (0 < k ∧ 0 ≤ cmpA xs k)) (h3 : ¬ ((upB (rd_T26 xs k).f0).toList ≠ [] ∧ kd xs k (upB (rd_T26 xs k).f0) ≠ 2)) (h4 : (rd_T26 xs k).f1 = 3 ∧ kd xs k (rd_T26 xs k).f5 ≠ 1) : stepP xs k = 113 := by rw [stepP, if_neg (by simp [h]), if_neg h2, if_neg h3, if_pos h4]
theorem step5 (h : mayP (rd_T26 xs k) = 0) (h2 : ¬ (0 < k ∧ 0 ≤ cmpA xs k)) (h3 : ¬ ((upB (rd_T26 xs k).f0).toList ≠ [] ∧ kd xs k (upB (rd_T26 xs k).f0) ≠ 2)) (h4 : ¬ ((rd_T26 xs k).f1 = 3 ∧ kd xs k (rd_T26 xs k).f5 ≠ 1)) : stepP xs k = 0 := by rw [stepP, if_neg (by simp [h]), if_neg h2, if_neg h3, if_neg h4]
end

theorem zero23 (w : World) : (zeroValue 23).run Tryd.prog w = .ok (.int .u8 0) w := by kernel_rfl

set_option maxRecDepth 100000 in
set_option maxHeartbeats 4000000 in
theorem check_list (A : Option Addr) (c : Nat) (xs : List S26) (w : World) (hr : Kd.C k26 w A xs.length xs) (hm : xs.length ≤ 256) :
    Calls Tryd.prog 13 #[.slice A xs.length c] w fun e w' => e = .returned (.tuple #[.int .i64 (chkP xs 0).1, .int .i64 (chkP xs 0).2]) ∧ Below w.heap.size w w' := by
  have hmm := @run_makeMap Tryd.prog
  have HR := Aside0.mk hr
  have hd : decide ((256 : Int) < (xs.length : Int)) = false := decide_eq_false (by omega)
  have hd' : decide (256 < xs.length) = false := decide_eq_false (by omega)
  clear hr
  go_enter Tryd.func13, Tryd.ntmps13
  go_wp2
  clear hd hd'
  go_loopw [15] (fun i wr => ∃ k : Nat, k ≤ xs.length ∧ i = .int .i64 k ∧ Hid (chkP xs 0 = chkP xs k) ∧ Aside0 (Below w.heap.size w wr) ∧ Aside0 (Mp.At Mp.strKey wr w.heap.size (kinds xs k)) ∧ Aside0 (0 < k → mayP (rd_T26 xs (k - 1 : Nat)) = 0)) (fun i _ => xs.length - (intOf i).toNat)
  case atStart => exact ⟨0, Nat.zero_le _, rfl, Lib.hid rfl, ⟨(Below.refl _ _).alloc (Nat.le_refl _) _⟩, ⟨Mp.at_made w⟩, ⟨fun h => absurd h (Nat.lt_irrefl 0)⟩⟩
  case round =>
    obtain ⟨k, hk, rfl, hi, hB, hM, hP⟩ := hrel
    by_cases hlt : k < xs.length
    · obtain ⟨ad, A4, c4, rfl, h0, h1, h2, h3, h4, h5, hl, hr4⟩ := at_it HR.out hB.out k hlt
      have HR4 := Aside0.mk hr4
      clear hr4
      go_wp2_with fail
      refine (may_any (rd_T26 xs k) A4 c4 _ hl (Kd.C_below HR4.out ((Below.refl _ _).alloc (Nat.le_refl _) _))).mono ?_
      rintro e w1 ⟨rfl, hb⟩
      obtain ⟨a0, a1, a2, a3, a4, a5, az⟩ := box_it (rd_T26 xs k) A4 c4 hb
      have HB1 := Aside0.mk (hB.out.trans (((Below.refl _ wr).alloc (Nat.le_refl _) _).trans (hb.mono (by simp)) |>.mono hB.out.size))
      have HM1 := Aside0.mk (hM.out.below (((Below.refl _ wr).alloc (Nat.le_refl _) _).trans (hb.mono (by simp))))
      clear hb h0 h1 h2 h3 h4 h5
      by_cases hmay : mayP (rd_T26 xs k) = 0
      case neg =>
        have hne : (mayP (rd_T26 xs k) != 0) = true := by simpa using hmay
        have HI := Lib.hid (hi.out.trans (chkP_stop hlt (step1 hmay) hmay))
        clear hi hmay
        go_wp2
        go_ret2
        exact ⟨by rw [HI.out]; rfl, HB1.out⟩
      have hne : (mayP (rd_T26 xs k) != 0) = false := by simpa using hmay
      have HMay := Lib.hid hmay
      have HSz := Lib.hid (may_size hmay)
      clear hmay
      by_cases hk0 : 0 < k
      · have d0 : decide ((0 : Int) < (k : Int)) = true := decide_eq_true (by omega)
        obtain ⟨ad', A4', c4', ea, p0, -⟩ := at_it HR.out HB1.out (k - 1) (by omega)
        cases ea
        have HPs := Lib.hid (may_size (hP.out hk0))
        by_cases hcm : 0 ≤ cmpA xs k
        · have d1 : decide (0 ≤ Nm.cmpL (Nm.texts (rd_T26 xs (k - 1 : Nat)).f0.data.toList) (Nm.texts (rd_T26 xs k).f0.data.toList)) = true := decide_eq_true hcm
          have HI := Lib.hid (hi.out.trans (chkP_stop hlt (step2 HMay.out ⟨hk0, hcm⟩) (by decide)))
          clear hi hcm
          go_wp2
          go_quiet (exact Calls.quiet_of (compare_any _ _ _ (by have := HPs.out; omega) (by have := HSz.out; omega)))
          go_wp2
          go_ret2
          exact ⟨by rw [HI.out]; rfl, pw_below_drewN HB1.out _⟩
        · have H2 := Lib.hid (show ¬ (0 < k ∧ 0 ≤ cmpA xs k) from fun h => hcm h.2)
          have d1 : decide (0 ≤ Nm.cmpL (Nm.texts (rd_T26 xs (k - 1 : Nat)).f0.data.toList) (Nm.texts (rd_T26 xs k).f0.data.toList)) = false := decide_eq_false hcm
          clear hcm
          go_wp2
          go_quiet (exact Calls.quiet_of (compare_any _ _ _ (by have := HPs.out; omega) (by have := HSz.out; omega)))
          go_wp2_with fail
          refine (up_any _ _ (by have := HSz.out; omega)).mono ?_
          rintro e w2 ⟨rfl, hb⟩
          have st : ∀ {j : Nat} {v : Value}, w1.cell? ⟨wr.heap.size, j, none⟩ = some v → w2.cell? ⟨wr.heap.size, j, none⟩ = some v := fun {j v} hv => (hb.cell (p := ⟨wr.heap.size, j, none⟩) az).trans hv
          have b0 := st a0
          have b1 := st a1
          have b5 := st a5
          have HB2 := Aside0.mk ((pw_below_drewN HB1.out nq).trans (hb.mono HB1.out.size))
          have HM2 := Aside0.mk ((HM1.out.move (W' := w1.drewN nq) rfl).below hb)
          clear hb st a0 a1 a2 a3 a4 a5 HB1 HM1
          have hrun1 : (Instr.lookup 63 (.map (some w.heap.size)) (.string (upB (rd_T26 xs k).f0)) false).run Tryd.prog w2 = .ok (.int .u8 (kd xs k (upB (rd_T26 xs k).f0))) w2 := by
            rw [← kinds_get]; exact HM2.out.lookup (K := Mp.strKey) Tryd.underlying63 Tryd.underlying9 _ zero23 false
          have hrun2 : (Instr.lookup 63 (.map (some w.heap.size)) (.string (rd_T26 xs k).f5) false).run Tryd.prog w2 = .ok (.int .u8 (kd xs k (rd_T26 xs k).f5)) w2 := by
            rw [← kinds_get]; exact HM2.out.lookup (K := Mp.strKey) Tryd.underlying63 Tryd.underlying9 _ zero23 false
          obtain ⟨o, ho, hrun3, hM3⟩ := HM2.out.update (K := Mp.strKey) Tryd.underlying63 Tryd.underlying9 (rd_T26 xs k).f0 (.int .u8 (rd_T26 xs k).f1)
          have HM3 := Aside0.mk hM3
          have hrun4 : (Instr.mapUpdate 63 (.map (some w.heap.size)) (.string (rd_T26 xs k).f0) (.int .u8 (rd_T26 xs k).f1)).run Tryd.prog w2 = .ok () (w2.putObj w.heap.size o) := hrun3
          clear hM3 hrun3
          by_cases k3 : (upB (rd_T26 xs k).f0).toList ≠ [] ∧ kd xs k (upB (rd_T26 xs k).f0) ≠ 2
          · have HI := Lib.hid (hi.out.trans (chkP_stop hlt (step3 HMay.out H2.out k3) (by decide)))
            have e1 : (upB (rd_T26 xs k).f0).toList.isEmpty = false := by simpa using k3.1
            have e2 : (kd xs k (upB (rd_T26 xs k).f0) != 2) = true := by simpa using k3.2
            clear hi k3
            go_wp2
            go_ret2
            exact ⟨by rw [HI.out]; rfl, HB2.out⟩
          have H3 := Lib.hid k3
          have E3 : ((upB (rd_T26 xs k).f0).toList.isEmpty = false ∧ (kd xs k (upB (rd_T26 xs k).f0) != 2) = false) ∨ (upB (rd_T26 xs k).f0).toList.isEmpty = true := by
            by_cases q : (upB (rd_T26 xs k).f0).toList = []
            · right; simpa using q
            · left; exact ⟨by simpa using q, by simpa using fun h => k3 ⟨q, h⟩⟩
          clear k3
          by_cases k4 : (rd_T26 xs k).f1 = 3 ∧ kd xs k (rd_T26 xs k).f5 ≠ 1
          · have HI := Lib.hid (hi.out.trans (chkP_stop hlt (step4 HMay.out H2.out H3.out k4) (by decide)))
            have e3 : ((rd_T26 xs k).f1 == 3) = true := by simpa using k4.1
            have e4 : (kd xs k (rd_T26 xs k).f5 != 1) = true := by simpa using k4.2
            clear hi k4
            rcases E3 with ⟨e1, e2⟩ | e1
            all_goals
              go_wp2
              go_ret2
              exact ⟨by rw [HI.out]; rfl, HB2.out⟩
          have HI := Lib.hid (hi.out.trans (chkP_go hlt (step5 HMay.out H2.out H3.out k4)))
          have E4 : ((rd_T26 xs k).f1 == 3) = false ∨ (((rd_T26 xs k).f1 == 3) = true ∧ (kd xs k (rd_T26 xs k).f5 != 1) = false) := by
            by_cases q : (rd_T26 xs k).f1 = 3
            · right; exact ⟨by simpa using q, by simpa using fun h => k4 ⟨q, h⟩⟩
            · left; simpa using q
          clear hi k4
          rcases E3 with ⟨e1, e2⟩ | e1 <;> rcases E4 with e3 | ⟨e3, e4⟩
          all_goals
            go_wp2
            go_roundw
            case rel => exact ⟨k + 1, by omega, by go_num, HI, ⟨HB2.out.grown (grownBy_putObj' _ _ _) HB2.out.size (fun j hj => by cases hj; exact Nat.le_refl _)⟩, HM3, ⟨fun _ => by rw [Nat.add_sub_cancel]; exact HMay.out⟩⟩
            case measure => simp [intOf]; omega
      · have H2 := Lib.hid (show ¬ (0 < k ∧ 0 ≤ cmpA xs k) from fun h => hk0 h.1)
        have d0 : decide ((0 : Int) < (k : Int)) = false := decide_eq_false (by omega)
        go_wp2
        go_quiet (fail)
        go_wp2_with fail
        refine (up_any _ _ (by have := HSz.out; omega)).mono ?_
        rintro e w2 ⟨rfl, hb⟩
        have st : ∀ {j : Nat} {v : Value}, w1.cell? ⟨wr.heap.size, j, none⟩ = some v → w2.cell? ⟨wr.heap.size, j, none⟩ = some v := fun {j v} hv => (hb.cell (p := ⟨wr.heap.size, j, none⟩) az).trans hv
        have b0 := st a0
        have b1 := st a1
        have b5 := st a5
        have HB2 := Aside0.mk ((pw_below_drewN HB1.out nq).trans (hb.mono HB1.out.size))
        have HM2 := Aside0.mk ((HM1.out.move (W' := w1.drewN nq) rfl).below hb)
        clear hb st a0 a1 a2 a3 a4 a5 HB1 HM1
        have hrun1 : (Instr.lookup 63 (.map (some w.heap.size)) (.string (upB (rd_T26 xs k).f0)) false).run Tryd.prog w2 = .ok (.int .u8 (kd xs k (upB (rd_T26 xs k).f0))) w2 := by
          rw [← kinds_get]; exact HM2.out.lookup (K := Mp.strKey) Tryd.underlying63 Tryd.underlying9 _ zero23 false
        have hrun2 : (Instr.lookup 63 (.map (some w.heap.size)) (.string (rd_T26 xs k).f5) false).run Tryd.prog w2 = .ok (.int .u8 (kd xs k (rd_T26 xs k).f5)) w2 := by
          rw [← kinds_get]; exact HM2.out.lookup (K := Mp.strKey) Tryd.underlying63 Tryd.underlying9 _ zero23 false
        obtain ⟨o, ho, hrun3, hM3⟩ := HM2.out.update (K := Mp.strKey) Tryd.underlying63 Tryd.underlying9 (rd_T26 xs k).f0 (.int .u8 (rd_T26 xs k).f1)
        have HM3 := Aside0.mk hM3
        have hrun4 : (Instr.mapUpdate 63 (.map (some w.heap.size)) (.string (rd_T26 xs k).f0) (.int .u8 (rd_T26 xs k).f1)).run Tryd.prog w2 = .ok () (w2.putObj w.heap.size o) := hrun3
        clear hM3 hrun3
        by_cases k3 : (upB (rd_T26 xs k).f0).toList ≠ [] ∧ kd xs k (upB (rd_T26 xs k).f0) ≠ 2
        · have HI := Lib.hid (hi.out.trans (chkP_stop hlt (step3 HMay.out H2.out k3) (by decide)))
          have e1 : (upB (rd_T26 xs k).f0).toList.isEmpty = false := by simpa using k3.1
          have e2 : (kd xs k (upB (rd_T26 xs k).f0) != 2) = true := by simpa using k3.2
          clear hi k3
          go_wp2
          go_ret2
          exact ⟨by rw [HI.out]; rfl, HB2.out⟩
        have H3 := Lib.hid k3
        have E3 : ((upB (rd_T26 xs k).f0).toList.isEmpty = false ∧ (kd xs k (upB (rd_T26 xs k).f0) != 2) = false) ∨ (upB (rd_T26 xs k).f0).toList.isEmpty = true := by
          by_cases q : (upB (rd_T26 xs k).f0).toList = []
          · right; simpa using q
          · left; exact ⟨by simpa using q, by simpa using fun h => k3 ⟨q, h⟩⟩
        clear k3
        by_cases k4 : (rd_T26 xs k).f1 = 3 ∧ kd xs k (rd_T26 xs k).f5 ≠ 1
        · have HI := Lib.hid (hi.out.trans (chkP_stop hlt (step4 HMay.out H2.out H3.out k4) (by decide)))
          have e3 : ((rd_T26 xs k).f1 == 3) = true := by simpa using k4.1
          have e4 : (kd xs k (rd_T26 xs k).f5 != 1) = true := by simpa using k4.2
          clear hi k4
          rcases E3 with ⟨e1, e2⟩ | e1
          all_goals
            go_wp2
            go_ret2
            exact ⟨by rw [HI.out]; rfl, HB2.out⟩
        have HI := Lib.hid (hi.out.trans (chkP_go hlt (step5 HMay.out H2.out H3.out k4)))
        have E4 : ((rd_T26 xs k).f1 == 3) = false ∨ (((rd_T26 xs k).f1 == 3) = true ∧ (kd xs k (rd_T26 xs k).f5 != 1) = false) := by
          by_cases q : (rd_T26 xs k).f1 = 3
          · right; exact ⟨by simpa using q, by simpa using fun h => k4 ⟨q, h⟩⟩
          · left; simpa using q
        clear hi k4
        rcases E3 with ⟨e1, e2⟩ | e1 <;> rcases E4 with e3 | ⟨e3, e4⟩
        all_goals
          go_wp2
          go_roundw
          case rel => exact ⟨k + 1, by omega, by go_num, HI, ⟨HB2.out.grown (grownBy_putObj' _ _ _) HB2.out.size (fun j hj => by cases hj; exact Nat.le_refl _)⟩, HM3, ⟨fun _ => by rw [Nat.add_sub_cancel]; exact HMay.out⟩⟩
          case measure => simp [intOf]; omega
    · have HI := Lib.hid (hi.out.trans (chkP_end (by omega)))
      clear hi
      go_wp2
      go_ret2
      exact ⟨by rw [HI.out]; rfl, hB.out⟩

theorem check_tree (A : Option Addr) (c : Nat) (xs : List S26) (w : World) (hr : Kd.C k26 w A xs.length xs) :
    Calls Tryd.prog 13 #[.slice A xs.length c] w fun e w' => e = .returned (.tuple #[.int .i64 (checkP xs).1, .int .i64 (checkP xs).2]) ∧ Below w.heap.size w w' := by
  by_cases h : 256 < xs.length
  · have hd : decide ((256 : Int) < (xs.length : Int)) = true := decide_eq_true (by omega)
    have hd' : decide (256 < xs.length) = true := decide_eq_true (by omega)
    have H := Lib.hid h
    clear h hr
    go_enter Tryd.func13, Tryd.ntmps13
    go_wp2
    go_ret2
    exact ⟨by unfold checkP; rw [if_pos H.out]; rfl, Below.refl _ _⟩
  · unfold checkP
    rw [if_neg h]
    exact check_list A c xs w hr (by omega)
end Go.Proofs.YthpecpkncifngaaDoor.X
end

/- NameJoins: the pure statement. -/
section
namespace Go.Proofs.YthpecpkncifngaaDoor.Pure
open Go.RowKit Go.Proofs.YthpecpkncifngaaDoor.X Go.Proofs.YthpecpkncifngaaDoorW.PrintWords Go.Proofs.YthpecpkncifngaaDoorW.PrintLast Go.Proofs.YthpecpkncifngaaDoorW.PrintMore
open Go.Proofs.YthpecpkncifngaaDoor

def tot (l : List ByteArray) : Nat := (l.map fun x => x.size + 1).sum
theorem tot_cons (x : ByteArray) (l : List ByteArray) : tot (x :: l) = x.size + 1 + tot l := by simp [tot]
theorem tot_append (a b : List ByteArray) : tot (a ++ b) = tot a + tot b := by simp [tot]
theorem tot_len (l : List ByteArray) : l.length ≤ tot l := by
  induction l with
  | nil => simp [tot]
  | cons x l ih => rw [tot_cons, List.length_cons]; omega
def jl (l : List ByteArray) : List UInt8 := Nm.joinT (l.map (·.data.toList))
theorem join_eq (l : List (List UInt8)) : Lib.join l [47] = Nm.joinT l := by
  induction l with
  | nil => rfl
  | cons x l ih =>
    cases l with
    | nil => simp [Lib.join, List.intercalate, Nm.joinT]
    | cons y r =>
      simp only [Lib.join, List.intercalate, List.intersperse] at ih ⊢
      simp only [Nm.joinT]
      rw [← ih]
      simp
theorem jl_len : ∀ (l : List ByteArray), l ≠ [] → (jl l).length + 1 = tot l
  | [x], _ => by simp [jl, Nm.joinT, tot]
  | x :: y :: r, _ => by
    have := jl_len (y :: r) (by simp)
    rw [tot_cons, ← this]
    simp only [jl, List.map_cons, Nm.joinT, List.length_append, List.length_cons, len_eq]
    omega
theorem jl_snoc (l : List ByteArray) (x : ByteArray) (h : l ≠ []) : jl (l ++ [x]) = jl l ++ 47 :: x.data.toList := by
  unfold jl
  rw [List.map_append, Nm.joinT_append _ _ (by simpa using h) (by simp)]
  rfl
theorem rdOf_at (l : List ByteArray) (i : Nat) (h : i < l.length) : rdOf ByteArray.empty l (i : Int) = l[i] := by
  simp [rdOf, List.getD_eq_getElem?_getD, h]
theorem bytes_app (a b : ByteArray) : (a ++ b).data.toList = a.data.toList ++ b.data.toList := by simp
/-- The reference's Joined. -/
theorem joined_l0 (l : List ByteArray) (ht : tot l ≤ 4294967296) (d : Nat) : ∀ (i : Nat) (s : ByteArray), i ≤ l.length → l.length - i = d → s.data.toList = jl (l.take i) →
    Ev (fun k => tabularyref08_Joined.l0 k l s (i : Int)) (bytesOfL (jl l)) := by
  induction d with
  | zero =>
    intro i s hi hd hs
    obtain rfl : i = l.length := by omega
    refine Ev.step (fun k => ?_) (Ev.now _)
    simp only [tabularyref08_Joined.l0]
    rw [if_neg (by omega)]
    rw [List.take_length] at hs
    congr 1
    exact ByteArray.ext (Array.toList_inj.1 hs)
  | succ d ih =>
    intro i s hi hd hs
    have hlt : i < l.length := by omega
    have hw : wrap64 ((i : Int) + 1) = ((i + 1 : Nat) : Int) := wrap_succ (by have := tot_len l; omega)
    have hsz : s.size = (jl (l.take i)).length := by rw [← len_eq, hs]
    have htk : l.take (i + 1) = l.take i ++ [l[i]] := by rw [List.take_add_one, List.getElem?_eq_getElem hlt]; rfl
    have hT : tot (l.take i) + (l[i].size + 1) ≤ tot l := by
      have := congrArg tot (List.take_append_drop i l)
      rw [tot_append, List.drop_eq_getElem_cons hlt, tot_cons] at this
      omega
    by_cases h0 : i = 0
    · subst h0
      have hs0 : s.data.toList = [] := by rw [hs]; rfl
      have hz : s.size = 0 := by rw [← len_eq, hs0]; rfl
      have st : ∀ k, tabularyref08_Joined.l0 (k + 1) l s ((0 : Nat) : Int) = tabularyref08_Joined.l0 k l (s ++ l[0]) ((0 + 1 : Nat) : Int) := fun k => by
        simp only [tabularyref08_Joined.l0]
        rw [if_pos (by omega), if_neg (by omega), if_pos (by omega), rdOf_at l 0 hlt, if_pos (by omega), hw]
      refine Ev.step st (ih 1 _ (by omega) (by omega) ?_)
      rw [bytes_app, hs0, htk]
      simp [jl, Nm.joinT]
    · have hne : l.take i ≠ [] := by
        intro e
        have := congrArg List.length e
        rw [List.length_take] at this
        simp only [List.length_nil] at this
        omega
      have hj := jl_len (l.take i) hne
      have hsz2 : (s ++ (⟨#[47]⟩ : ByteArray)).size = s.size + 1 := by rw [← len_eq, bytes_app, List.length_append, len_eq]; rfl
      have st : ∀ k, tabularyref08_Joined.l0 (k + 1) l s (i : Int) = tabularyref08_Joined.l0 k l ((s ++ (⟨#[47]⟩ : ByteArray)) ++ l[i]) ((i + 1 : Nat) : Int) := fun k => by
        simp only [tabularyref08_Joined.l0]
        rw [if_pos (by omega), if_pos (by omega), if_pos (by omega), if_pos (by omega), rdOf_at l i hlt, if_pos (by omega), hw]
      refine Ev.step st (ih (i + 1) _ (by omega) (by omega) ?_)
      rw [bytes_app, bytes_app, hs, htk, jl_snoc _ _ hne]
      simp
theorem joined_ev (l : List ByteArray) (ht : tot l ≤ 4294967296) : Ev (fun k => tabularyref08_Joined.f k l) (bytesOfL (jl l)) :=
  joined_l0 l ht l.length 0 ⟨#[]⟩ (by omega) (by omega) rfl

end Go.Proofs.YthpecpkncifngaaDoor.Pure
end

/- NameLeads: the pure statement. -/
section
namespace Go.Proofs.YthpecpkncifngaaDoor.Pure
open Go.RowKit Go.Proofs.YthpecpkncifngaaDoor.X Go.Proofs.YthpecpkncifngaaDoorW.PrintWords Go.Proofs.YthpecpkncifngaaDoorW.PrintLast Go.Proofs.YthpecpkncifngaaDoorW.PrintMore
open Go.Proofs.YthpecpkncifngaaDoor

theorem tot_texts (L : List (List UInt8)) : tot (L.map bytesOfL) = Nm.totL L := by
  induction L with
  | nil => rfl
  | cons x r ih => rw [List.map_cons, tot_cons, ih, bytes_size]; simp [Nm.totL]
theorem jl_texts (L : List (List UInt8)) : jl (L.map bytesOfL) = Nm.joinT L := by
  unfold jl
  rw [List.map_map]
  have : ((fun x : ByteArray => x.data.toList) ∘ bytesOfL) = id := rfl
  rw [this, List.map_id]
def ledI (o : Option (List (List UInt8))) : ByteArray × Int := (bytesOfL (Nm.led o).1, ((Nm.led o).2 : Int))
theorem wrap_pred {n : Nat} (h1 : 1 ≤ n) (h : n ≤ 9223372036854775807) : wrap64 ((n : Int) - 1) = ((n - 1 : Nat) : Int) := by unfold wrap64; omega
theorem rd_f1 (l : List (Nat × List UInt8)) (i : Nat) (h : i < l.length) : (rd_T99 (l.map toS) (i : Int)).f1 = bytesOfL l[i].2 := by rw [rd_map l i h]; rfl
theorem toList_of (l : List UInt8) : (bytesOfL l).toList = l := by rw [toList_eq]; rfl
theorem totL_len (L : List (List UInt8)) : L.length ≤ Nm.totL L := by
  induction L with
  | nil => exact Nat.le_refl _
  | cons x r ih => simp only [Nm.totL, List.map_cons, List.sum_cons, List.length_cons] at ih ⊢; omega

theorem reflead_j2 (L : List (List UInt8)) (m : List (Nat × List UInt8)) (i : Nat) (x : List UInt8) (r : ByteArray × Int) (b : Bool) (hi : i < 1099511627777) (hL : L.length < 8796093022208)
    (h1 : b = true → Ev (fun k => tabularyref08_Lead.l1 k (L.map bytesOfL) (m.map toS) ((i + 1 : Nat) : Int)) r)
    (h2 : b = false → x = [46, 46] → L = [] → r = (⟨#[]⟩, 83))
    (h3 : b = false → x = [46, 46] → L ≠ [] → Ev (fun k => tabularyref08_Lead.l1 k (L.dropLast.map bytesOfL) (m.map toS) ((i + 1 : Nat) : Int)) r)
    (h4 : b = false → x ≠ [46, 46] → Ev (fun k => tabularyref08_Lead.l1 k ((L ++ [x]).map bytesOfL) (m.map toS) ((i + 1 : Nat) : Int)) r) :
    Ev (fun k => tabularyref08_Lead.j2 k (L.map bytesOfL) (m.map toS) (i : Int) (bytesOfL x) b) r := by
  have hw : wrap64 ((i : Int) + 1) = ((i + 1 : Nat) : Int) := wrap_succ (by omega)
  cases b with
  | true =>
    refine Ev.step (fun k => ?_) (h1 rfl)
    rw [tabularyref08_Lead.j2, if_pos rfl, hw]
  | false =>
    by_cases hx : x = [46, 46]
    · by_cases hl : L = []
      · rw [h2 rfl hx hl]
        refine Ev.step (fun k => ?_) (Ev.now _)
        rw [tabularyref08_Lead.j2, if_neg (by decide), toList_of, if_pos hx, if_pos (by rw [hl]; rfl)]
      · refine Ev.step (fun k => ?_) (h3 rfl hx hl)
        have h0 : 1 ≤ (L.map bytesOfL).length := by rw [List.length_map]; exact List.length_pos_iff.2 hl
        have hm : (L.map bytesOfL).length = L.length := List.length_map _
        have hp : wrap64 (((L.map bytesOfL).length : Int) - 1) = (((L.map bytesOfL).length - 1 : Nat) : Int) := wrap_pred h0 (by omega)
        rw [tabularyref08_Lead.j2, if_neg (by decide), toList_of, if_pos hx, if_neg (by omega), hp, if_pos (by omega), if_pos (by omega), hw, Int.toNat_natCast, hm, ← List.map_take, List.dropLast_eq_take]
    · refine Ev.step (fun k => ?_) (h4 rfl hx)
      rw [tabularyref08_Lead.j2, if_neg (by decide), toList_of, if_neg hx, if_pos (by rw [List.length_map]; exact hL), hw, List.map_append]
      rfl

theorem reflead_l1 (m : List (Nat × List UInt8)) (hm : m.length ≤ 1099511627776) (d : Nat) : ∀ (i : Nat) (L : List (List UInt8)), i ≤ m.length → m.length - i = d → Nm.totL L + Nm.totL ((m.drop i).map (·.2)) ≤ 4294967296 →
    Ev (fun k => tabularyref08_Lead.l1 k (L.map bytesOfL) (m.map toS) (i : Int)) (ledI (Nm.way L ((m.drop i).map (·.2)))) := by
  induction d with
  | zero =>
    intro i L hi hd ht
    obtain rfl : i = m.length := by omega
    rw [List.drop_length] at ht ⊢
    have s : ∀ k, tabularyref08_Lead.l1 (k + 1) (L.map bytesOfL) (m.map toS) (m.length : Int) = (tabularyref08_Joined.f k (L.map bytesOfL)).bind fun t => some (t, 0) := fun k => by
      simp only [tabularyref08_Lead.l1, List.length_map]
      rw [if_neg (by omega)]
    refine Ev.step s (Ev.bind (joined_ev (L.map bytesOfL) (by rw [tot_texts]; omega)) ?_)
    rw [jl_texts]
    exact Ev.now _
  | succ d ih =>
    intro i L hi hd ht
    have h1 : i < m.length := by omega
    rw [List.drop_eq_getElem_cons h1, List.map_cons] at ht ⊢
    have hx0 : Nm.totL (m[i].2 :: (m.drop (i + 1)).map (·.2)) = m[i].2.length + 1 + Nm.totL ((m.drop (i + 1)).map (·.2)) := by simp [Nm.totL]
    rw [hx0] at ht
    have hLl : L.length < 8796093022208 := by have := totL_len L; omega
    have hdl := Nm.totL_dropLast L
    have hap : Nm.totL (L ++ [m[i].2]) = Nm.totL L + (m[i].2.length + 1) := by rw [Nm.totL_append]; simp [Nm.totL]
    have s0 : ∀ k, tabularyref08_Lead.l1 (k + 1) (L.map bytesOfL) (m.map toS) (i : Int) = if m[i].2 = [] then tabularyref08_Lead.j2 k (L.map bytesOfL) (m.map toS) (i : Int) (bytesOfL m[i].2) true else tabularyref08_Lead.j2 k (L.map bytesOfL) (m.map toS) (i : Int) (bytesOfL m[i].2) (m[i].2 == [46]) := fun k => by
      simp only [tabularyref08_Lead.l1, List.length_map]
      rw [if_pos (by omega), if_pos (by omega), rd_f1 m i h1, toList_of]
    by_cases e1 : m[i].2 = []
    · have hway : Nm.way L (m[i].2 :: (m.drop (i + 1)).map (·.2)) = Nm.way L ((m.drop (i + 1)).map (·.2)) := by rw [Nm.way, if_pos (.inl e1)]
      rw [hway]
      refine Ev.step (fun k => by rw [s0, if_pos e1]) (reflead_j2 L m i _ _ true (by omega) hLl (fun _ => ih (i + 1) L (by omega) (by omega) (by omega)) (by simp) (by simp) (by simp))
    · by_cases e2 : m[i].2 = [46]
      · have hway : Nm.way L (m[i].2 :: (m.drop (i + 1)).map (·.2)) = Nm.way L ((m.drop (i + 1)).map (·.2)) := by rw [Nm.way, if_pos (.inr e2)]
        rw [hway]
        refine Ev.step (fun k => by rw [s0, if_neg e1, beq_iff_eq.2 e2]) (reflead_j2 L m i _ _ true (by omega) hLl (fun _ => ih (i + 1) L (by omega) (by omega) (by omega)) (by simp) (by simp) (by simp))
      · have hb : (m[i].2 == [46]) = false := by simpa using e2
        refine Ev.step (fun k => by rw [s0, if_neg e1, hb]) (reflead_j2 L m i _ _ false (by omega) hLl (by simp) ?_ ?_ ?_)
        · intro _ h2 h3
          rw [Nm.way, if_neg (by simp [e1, e2]), if_pos h2, if_pos h3]
          rfl
        · intro _ h2 h3
          rw [Nm.way, if_neg (by simp [e1, e2]), if_pos h2, if_neg h3]
          exact ih (i + 1) L.dropLast (by omega) (by omega) (by omega)
        · intro _ h2
          rw [Nm.way, if_neg (by simp [e1, e2]), if_neg h2]
          exact ih (i + 1) (L ++ [m[i].2]) (by omega) (by omega) (by omega)

theorem reflead_l0 (q : ByteArray) (hq : q.size ≤ 400) (l : List (Nat × List UInt8)) (hl : l.length ≤ 1048577) (ht : Nm.totL (l.map (·.2)) ≤ 1048577) (d : Nat) : ∀ i : Nat, i + 1 ≤ l.length → l.length - (i + 1) = d →
    Ev (fun k => tabularyref08_Lead.l0 k q (((l.take i).map (·.2)).map bytesOfL) (l.map toS) (i : Int)) (ledI (Nm.way ((l.map (·.2)).dropLast) (Nm.texts q.data.toList))) := by
  induction d with
  | zero =>
    intro i hi hd
    have hw : wrap64 ((i : Int) + 1) = ((i + 1 : Nat) : Int) := wrap_succ (by omega)
    have s : ∀ k, tabularyref08_Lead.l0 (k + 1) q (((l.take i).map (·.2)).map bytesOfL) (l.map toS) (i : Int) = (tabularyref08_Pieces.f k q).bind fun t => tabularyref08_Lead.l1 k (((l.take i).map (·.2)).map bytesOfL) t 0 := fun k => by
      simp only [tabularyref08_Lead.l0, List.length_map]
      rw [hw, if_neg (by omega)]
    refine Ev.step s (Ev.bind (pieces_ev q (by omega)) ?_)
    have e : (l.take i).map (·.2) = (l.map (·.2)).dropLast := by
      rw [List.dropLast_eq_take, List.length_map, List.map_take]
      congr 1
      omega
    rw [e]
    have hlq := len_eq q
    have h2 := Nm.pieces_length q.data.toList 0
    have h3 := Nm.totL_texts q.data.toList
    have h4 := Nm.totL_dropLast (l.map (·.2))
    have := reflead_l1 (Nm.pieces 0 q.data.toList) (by omega) _ 0 ((l.map (·.2)).dropLast) (by omega) rfl (by
      show _ + Nm.totL (Nm.texts q.data.toList) ≤ _
      omega)
    exact this
  | succ d ih =>
    intro i hi hd
    have hw : wrap64 ((i : Int) + 1) = ((i + 1 : Nat) : Int) := wrap_succ (by omega)
    have h1 : i < l.length := by omega
    have s : ∀ k, tabularyref08_Lead.l0 (k + 1) q (((l.take i).map (·.2)).map bytesOfL) (l.map toS) (i : Int) = tabularyref08_Lead.l0 k q (((l.take (i + 1)).map (·.2)).map bytesOfL) (l.map toS) ((i + 1 : Nat) : Int) := fun k => by
      simp only [tabularyref08_Lead.l0, List.length_map]
      rw [hw, if_pos (by omega), if_pos (by omega), if_pos (by omega), if_pos (by rw [List.length_take]; omega), rd_f1 l i h1, List.take_add_one, List.getElem?_eq_getElem h1]
      simp only [Option.toList_some, List.map_append, List.map_cons, List.map_nil]
    exact Ev.step s (ih (i + 1) (by omega) (by omega))

/-- The reference's Lead. -/
theorem reflead_ev (p q : ByteArray) : Ev (fun k => tabularyref08_Lead.f k p q) (bytesOfL (Nm.lead p.data.toList q.data.toList).1, ((Nm.lead p.data.toList q.data.toList).2 : Int)) := by
  have hlq := len_eq q
  have hlp := len_eq p
  refine Ev.congr (fun k => by rw [tabularyref08_Lead.f]) (Ev.bind (refcheck_ev p) ?_)
  by_cases h1 : (Nm.check p.data.toList).2 = 0
  · refine Ev.congr (fun k => by rw [if_pos (by simp [h1])]) ?_
    rw [toList_eq]
    by_cases h2 : q.data.toList = []
    · have e : Nm.lead p.data.toList q.data.toList = ([], 80) := by simp only [Nm.lead, h1, h2, ne_eq, not_true_eq_false, if_true, if_false]
      rw [e]
      exact Ev.congr (fun k => by rw [if_pos h2]; rfl) (Ev.now _)
    · by_cases h3 : 400 < q.data.toList.length
      · have e : Nm.lead p.data.toList q.data.toList = ([], 2) := by simp only [Nm.lead, h1, h2, h3, ne_eq, not_true_eq_false, if_true, if_false]
        rw [e]
        exact Ev.congr (fun k => by rw [if_neg h2, if_pos (by omega)]; rfl) (Ev.now _)
      · refine Ev.congr (fun k => by rw [if_neg h2, if_neg (by omega)]) (Ev.bind (nul_ev q (by omega)) ?_)
        by_cases h4 : 0 ≤ Lib.indexByte q.data.toList 0
        · have e : Nm.lead p.data.toList q.data.toList = ([], 82) := by simp only [Nm.lead, h1, h2, h3, h4, ne_eq, not_true_eq_false, if_true, if_false]
          rw [e]
          exact Ev.congr (fun k => by rw [if_pos h4]; rfl) (Ev.now _)
        · have hpos : 0 < q.size := by have := List.length_pos_iff.2 h2; omega
          obtain ⟨c, _, hb, hc⟩ := drop_at q 0 hpos
          have hh : q.data.toList.head? = some c := by rw [List.head?_eq_getElem?]; exact hc
          have hb0 : bt q 0 = (c.toNat : Int) := hb
          refine Ev.congr (fun k => by rw [if_neg (by omega), if_pos (by omega)]) ?_
          by_cases h5 : c = 47
          · have e : Nm.lead p.data.toList q.data.toList = ([], 83) := by simp only [Nm.lead, h1, h2, h3, h4, hh, h5, ne_eq, not_true_eq_false, if_true, if_false]
            rw [e]
            exact Ev.congr (fun k => by rw [if_pos (by rw [hb0, h5]; rfl)]; rfl) (Ev.now _)
          · have h6 : ¬ (some c = some (47 : UInt8)) := fun e => h5 (Option.some.inj e)
            have e : Nm.lead p.data.toList q.data.toList = Nm.led (Nm.way (Nm.texts p.data.toList).dropLast (Nm.texts q.data.toList)) := by simp only [Nm.lead, h1, h2, h3, h4, hh, h6, ne_eq, not_true_eq_false, if_false]
            rw [e]
            have hp4 := ((Nm.check_ok _).1 h1).1
            have hpl := Nm.pieces_length p.data.toList 0
            refine Ev.congr (fun k => by rw [if_neg (by rw [hb0]; exact fun e => h5 ((toNat_eq c 47).1 e))]) (Ev.bind (pieces_ev p (by omega)) ?_)
            have h7 := Nm.totL_texts p.data.toList
            have := reflead_l0 q (by omega) (Nm.pieces 0 p.data.toList) (by omega) (by show Nm.totL (Nm.texts p.data.toList) ≤ _; omega) _ 0 (by simp [Nm.pieces]) rfl
            exact this
  · have e : Nm.lead p.data.toList q.data.toList = ([], (Nm.check p.data.toList).2) := by simp only [Nm.lead, h1, ne_eq, not_false_eq_true, if_true]
    rw [e]
    exact Ev.congr (fun k => by rw [if_neg (by simp; omega)]; rfl) (Ev.now _)
end Go.Proofs.YthpecpkncifngaaDoor.Pure
end

/- Plain words on paths: the order of paths is one, and what is beneath a path stands right behind it. -/
section
namespace Go.Proofs.YthpecpkncifngaaDoor.Nm
theorem bl_irrefl : ∀ x : List UInt8, Op.bytesLess x x = false
  | [] => rfl
  | a :: x => by
    simp only [Op.bytesLess, bl_irrefl x, Bool.and_false, Bool.or_false, decide_eq_false_iff_not]
    exact fun h => by rw [UInt8.lt_iff_toNat_lt] at h; omega
theorem bl_trans : ∀ x y z : List UInt8, Op.bytesLess x y = true → Op.bytesLess y z = true → Op.bytesLess x z = true
  | [], _, [], _, h => by cases ‹List UInt8› <;> simp [Op.bytesLess] at h
  | [], _, _ :: _, _, _ => rfl
  | _ :: _, [], _, h, _ => by simp [Op.bytesLess] at h
  | _ :: _, _ :: _, [], _, h => by simp [Op.bytesLess] at h
  | a :: x, b :: y, c :: z, h1, h2 => by
    simp only [Op.bytesLess, Bool.or_eq_true, decide_eq_true_eq, Bool.and_eq_true, beq_iff_eq] at h1 h2 ⊢
    rcases h1 with h1 | ⟨rfl, h1⟩
    · rcases h2 with h2 | ⟨rfl, h2⟩
      · left; rw [UInt8.lt_iff_toNat_lt] at *; omega
      · left; exact h1
    · rcases h2 with h2 | ⟨rfl, h2⟩
      · left; exact h2
      · right; exact ⟨rfl, bl_trans x y z h1 h2⟩
theorem bl_asymm {x y : List UInt8} (h : Op.bytesLess x y = true) : Op.bytesLess y x = false := by
  cases h2 : Op.bytesLess y x with
  | false => rfl
  | true => have := bl_trans _ _ _ h h2; rw [bl_irrefl] at this; exact this.symm
theorem bl_tri (x y : List UInt8) : x = y ∨ Op.bytesLess x y = true ∨ Op.bytesLess y x = true := by
  cases h1 : Op.bytesLess x y with
  | true => exact .inr (.inl rfl)
  | false =>
    cases h2 : Op.bytesLess y x with
    | true => exact .inr (.inr rfl)
    | false =>
      left
      have := bytesLess_swap x y
      rw [h2, h1] at this
      simpa using this
theorem cmp_cons (x : List UInt8) (a : List (List UInt8)) (y : List UInt8) (b : List (List UInt8)) : cmpL (x :: a) (y :: b) = if x = y then cmpL a b else if Op.bytesLess x y = true then -1 else 1 := by
  simp only [cmpL]
  rcases bl_tri x y with h | h | h
  · subst h; rw [bl_irrefl]; simp
  · rw [if_pos h, if_neg (fun e => by rw [e, bl_irrefl] at h; simp at h), if_pos h]
  · rw [if_neg (by rw [bl_asymm h]; simp), if_pos h, if_neg (fun e => by rw [e, bl_irrefl] at h; simp at h), if_neg (by rw [bl_asymm h]; simp)]
theorem cmp_self : ∀ x : List (List UInt8), cmpL x x = 0
  | [] => rfl
  | x :: a => by rw [cmp_cons, if_pos rfl, cmp_self a]
theorem cmp_vals : ∀ x y : List (List UInt8), cmpL x y = -1 ∨ cmpL x y = 0 ∨ cmpL x y = 1
  | [], [] => .inr (.inl rfl)
  | [], _ :: _ => .inl rfl
  | _ :: _, [] => .inr (.inr rfl)
  | x :: a, y :: b => by
    rw [cmp_cons]
    split
    · exact cmp_vals a b
    · split <;> simp
theorem cmp_lt_trans : ∀ x y z : List (List UInt8), cmpL x y = -1 → cmpL y z = -1 → cmpL x z = -1
  | [], [], _, h, _ => by simp [cmpL] at h
  | _ :: _, [], _, h, _ => by simp [cmpL] at h
  | _, _ :: _, [], _, h => by simp [cmpL] at h
  | [], _ :: _, _ :: _, _, _ => rfl
  | x :: a, y :: b, z :: c, h1, h2 => by
    rw [cmp_cons] at h1 h2 ⊢
    by_cases e1 : x = y
    · rw [if_pos e1] at h1
      subst e1
      by_cases e2 : x = z
      · rw [if_pos e2] at h2 ⊢; exact cmp_lt_trans a b c h1 h2
      · rw [if_neg e2] at h2 ⊢; exact h2
    · rw [if_neg e1] at h1
      have b1 : Op.bytesLess x y = true := by
        cases hb : Op.bytesLess x y with
        | true => rfl
        | false => rw [hb] at h1; simp at h1
      by_cases e2 : y = z
      · subst e2; rw [if_neg e1, if_pos b1]
      · rw [if_neg e2] at h2
        have b2 : Op.bytesLess y z = true := by
          cases hb : Op.bytesLess y z with
          | true => rfl
          | false => rw [hb] at h2; simp at h2
        have b3 := bl_trans _ _ _ b1 b2
        rw [if_neg (fun e => by rw [e, bl_irrefl] at b3; simp at b3), if_pos b3]
end Go.Proofs.YthpecpkncifngaaDoor.Nm
end

/- The reference's May and Check, told by the same plain words as the program's. -/
section
namespace Go.Proofs.YthpecpkncifngaaDoor.X
open Go.RowKit Go.Shelf Go.Proofs.YthpecpkncifngaaDoor Go.Proofs.YthpecpkncifngaaDoorW.PrintWords Go.Proofs.YthpecpkncifngaaDoorW.PrintLast Go.Proofs.YthpecpkncifngaaDoorW.PrintMore Go.Proofs.YthpecpkncifngaaDoor.Pure
set_option linter.unusedVariables false
set_option linter.unusedSimpArgs false

def j3V (x : S26) : Int := if 65536 < x.f4.length then 2 else if x.f1 = 3 then hardP x else if x.f1 = 4 then softP x else 0
theorem j3_true (x : S26) : Ev (fun k => tabularyref11_May.j3 k true x.f0 x.f1 x.f2 x.f3 x.f4 x.f5) 110 :=
  Ev.step (fun k => by simp only [tabularyref11_May.j3]; rw [if_pos trivial]) (Ev.now _)
theorem j3_false (x : S26) : Ev (fun k => tabularyref11_May.j3 k false x.f0 x.f1 x.f2 x.f3 x.f4 x.f5) (j3V x) := by
  unfold j3V
  by_cases h : 65536 < x.f4.length
  · rw [if_pos h]
    exact Ev.step (fun k => by simp only [tabularyref11_May.j3]; rw [if_neg (by decide), if_pos (by omega)]) (Ev.now _)
  rw [if_neg h]
  by_cases h3 : x.f1 = 3
  · rw [if_pos h3]
    exact Ev.step (fun k => by simp only [tabularyref11_May.j3]; rw [if_neg (by decide), if_neg (by omega), if_pos h3]) (Ev.bind (refcheck_ev x.f5) (Ev.now _))
  rw [if_neg h3]
  by_cases h4 : x.f1 = 4
  · rw [if_pos h4]
    exact Ev.step (fun k => by simp only [tabularyref11_May.j3]; rw [if_neg (by decide), if_neg (by omega), if_neg h3, if_pos h4]) (Ev.bind (reflead_ev x.f0 x.f5) (Ev.now _))
  rw [if_neg h4]
  exact Ev.step (fun k => by simp only [tabularyref11_May.j3]; rw [if_neg (by decide), if_neg (by omega), if_neg h3, if_neg h4]) (Ev.now _)
theorem link_eq (a : Int) : tabularyref11_link.f a = some (decide (a = 3 ∨ a = 4)) := by
  unfold tabularyref11_link.f
  by_cases h : a = 3
  · rw [if_pos h]; simp [h]
  · rw [if_neg h]
    by_cases h4 : a = 4 <;> simp [h, h4]
def j2V (x : S26) : Int := if (0 < x.f4.length ∧ x.f1 ≠ 1) ∨ (x.f5.toList ≠ [] ∧ ¬ (x.f1 = 3 ∨ x.f1 = 4)) then 110 else j3V x
theorem j2_true (x : S26) : Ev (fun k => tabularyref11_May.j2 k true x.f0 x.f1 x.f2 x.f3 x.f4 x.f5) 1 :=
  Ev.step (fun k => by simp only [tabularyref11_May.j2]; rw [if_pos trivial]) (Ev.now _)
theorem j2_false (x : S26) : Ev (fun k => tabularyref11_May.j2 k false x.f0 x.f1 x.f2 x.f3 x.f4 x.f5) (j2V x) := by
  have tail : ∀ (g : Nat → Option Int), (∀ k, g k = if x.f5.toList = ([] : List UInt8) then (tabularyref11_May.j3 k false x.f0 x.f1 x.f2 x.f3 x.f4 x.f5) else ((tabularyref11_link.f x.f1).bind fun t => (tabularyref11_May.j3 k (!t) x.f0 x.f1 x.f2 x.f3 x.f4 x.f5))) → ¬ (0 < x.f4.length ∧ x.f1 ≠ 1) → Ev g (j2V x) := by
    intro g hg hn
    unfold j2V
    by_cases h5 : x.f5.toList = []
    · rw [if_neg (by rintro (h | h); exact hn h; exact h.1 h5)]
      exact Ev.congr (fun k => by rw [hg, if_pos h5]) (j3_false x)
    · by_cases hl : x.f1 = 3 ∨ x.f1 = 4
      · rw [if_neg (by rintro (h | h); exact hn h; exact h.2 hl)]
        exact Ev.congr (fun k => by rw [hg, if_neg h5, link_eq, Option.bind_some, decide_eq_true hl]; rfl) (j3_false x)
      · rw [if_pos (.inr ⟨h5, hl⟩)]
        exact Ev.congr (fun k => by rw [hg, if_neg h5, link_eq, Option.bind_some, decide_eq_false hl]; rfl) (j3_true x)
  by_cases h : 0 < x.f4.length
  · by_cases h1 : x.f1 = 1
    · exact Ev.step (fun k => by simp only [tabularyref11_May.j2]; rw [if_neg (by decide), if_pos (by omega), if_pos h1]) (tail _ (fun k => rfl) (fun hh => hh.2 h1))
    · unfold j2V
      rw [if_pos (.inl ⟨h, h1⟩)]
      exact Ev.step (fun k => by simp only [tabularyref11_May.j2]; rw [if_neg (by decide), if_pos (by omega), if_neg h1]) (j3_true x)
  · exact Ev.step (fun k => by simp only [tabularyref11_May.j2]; rw [if_neg (by decide), if_neg (by omega)]) (tail _ (fun k => rfl) (fun hh => h hh.1))
def j1V (x : S26) : Int := if x.f2 < 0 ∨ 4095 < x.f2 ∨ ((x.f1 = 3 ∨ x.f1 = 4) ∧ x.f2 ≠ 0) then 1 else j2V x
theorem j1_true (x : S26) : Ev (fun k => tabularyref11_May.j1 k true x.f0 x.f1 x.f2 x.f3 x.f4 x.f5) 1 :=
  Ev.step (fun k => by simp only [tabularyref11_May.j1]; rw [if_pos trivial]) (Ev.now _)
theorem j1_false (x : S26) : Ev (fun k => tabularyref11_May.j1 k false x.f0 x.f1 x.f2 x.f3 x.f4 x.f5) (j1V x) := by
  unfold j1V
  by_cases h1 : x.f2 < 0
  · rw [if_pos (.inl h1)]
    exact Ev.step (fun k => by simp only [tabularyref11_May.j1]; rw [if_neg (by decide), if_pos h1]) (j2_true x)
  by_cases h2 : 4095 < x.f2
  · rw [if_pos (.inr (.inl h2))]
    exact Ev.step (fun k => by simp only [tabularyref11_May.j1]; rw [if_neg (by decide), if_neg h1, if_pos (by omega)]) (j2_true x)
  by_cases hl : x.f1 = 3 ∨ x.f1 = 4
  · by_cases h0 : x.f2 = 0
    · rw [if_neg (by omega)]
      exact Ev.step (fun k => by simp only [tabularyref11_May.j1]; rw [if_neg (by decide), if_neg h1, if_neg (by omega), link_eq, Option.bind_some, decide_eq_true hl, if_pos rfl, show (x.f2 != 0) = false by simp [h0]]) (j2_false x)
    · rw [if_pos (.inr (.inr ⟨hl, h0⟩))]
      exact Ev.step (fun k => by simp only [tabularyref11_May.j1]; rw [if_neg (by decide), if_neg h1, if_neg (by omega), link_eq, Option.bind_some, decide_eq_true hl, if_pos rfl, show (x.f2 != 0) = true by simp [h0]]) (j2_true x)
  · rw [if_neg (by omega)]
    exact Ev.step (fun k => by simp only [tabularyref11_May.j1]; rw [if_neg (by decide), if_neg h1, if_neg (by omega), link_eq, Option.bind_some, decide_eq_false hl, if_neg (by decide)]) (j2_false x)
def j0V (x : S26) : Int := if x.f3 < 0 ∨ 1099511627776 < x.f3 ∨ (x.f1 = 3 ∧ x.f3 ≠ 0) then 1 else j1V x
theorem j0_true (x : S26) : Ev (fun k => tabularyref11_May.j0 k true x.f0 x.f1 x.f2 x.f3 x.f4 x.f5) 1 :=
  Ev.step (fun k => by simp only [tabularyref11_May.j0]; rw [if_pos trivial]) (Ev.now _)
theorem j0_false (x : S26) : Ev (fun k => tabularyref11_May.j0 k false x.f0 x.f1 x.f2 x.f3 x.f4 x.f5) (j0V x) := by
  unfold j0V
  by_cases h1 : x.f3 < 0
  · rw [if_pos (.inl h1)]
    exact Ev.step (fun k => by simp only [tabularyref11_May.j0]; rw [if_neg (by decide), if_pos h1]) (j1_true x)
  by_cases h2 : 1099511627776 < x.f3
  · rw [if_pos (.inr (.inl h2))]
    exact Ev.step (fun k => by simp only [tabularyref11_May.j0]; rw [if_neg (by decide), if_neg h1, if_pos (by omega)]) (j1_true x)
  by_cases h3 : x.f1 = 3
  · by_cases h0 : x.f3 = 0
    · rw [if_neg (by omega)]
      exact Ev.step (fun k => by simp only [tabularyref11_May.j0]; rw [if_neg (by decide), if_neg h1, if_neg (by omega), if_pos h3, show (x.f3 != 0) = false by simp [h0]]) (j1_false x)
    · rw [if_pos (.inr (.inr ⟨h3, h0⟩))]
      exact Ev.step (fun k => by simp only [tabularyref11_May.j0]; rw [if_neg (by decide), if_neg h1, if_neg (by omega), if_pos h3, show (x.f3 != 0) = true by simp [h0]]) (j1_true x)
  · rw [if_neg (by omega)]
    exact Ev.step (fun k => by simp only [tabularyref11_May.j0]; rw [if_neg (by decide), if_neg h1, if_neg (by omega), if_neg h3]) (j1_false x)
theorem may_k1 (x : S26) (h : x.f1 = 1) : mayT x 4095 1099511627776 true false (plainP x) = j0V x := by
  unfold mayT j0V j1V j2V j3V
  rw [h]
  by_cases a : x.f3 < 0
  · simp [a]
  by_cases b : 1099511627776 < x.f3
  · simp [a, b]
  by_cases c : x.f2 < 0
  · simp [a, b, c]
  by_cases d : 4095 < x.f2
  · simp [a, b, c, d]
  by_cases e : 0 < x.f4.length
  · by_cases g : 65536 < x.f4.length <;> by_cases f : x.f5.toList = [] <;> simp [*, plainP] <;> omega
  · have e0 : x.f4.length = 0 := by omega
    by_cases f : x.f5.toList = [] <;> simp [*, plainP] <;> omega
theorem may_k2 (x : S26) (h : x.f1 = 2) : mayT x 4095 1099511627776 false false (plainP x) = j0V x := by
  unfold mayT j0V j1V j2V j3V
  rw [h]
  by_cases a : x.f3 < 0
  · simp [a]
  by_cases b : 1099511627776 < x.f3
  · simp [a, b]
  by_cases c : x.f2 < 0
  · simp [a, b, c]
  by_cases d : 4095 < x.f2
  · simp [a, b, c, d]
  by_cases e : 0 < x.f4.length
  · by_cases g : 65536 < x.f4.length <;> by_cases f : x.f5.toList = [] <;> simp [*, plainP] <;> omega
  · have e0 : x.f4.length = 0 := by omega
    by_cases f : x.f5.toList = [] <;> simp [*, plainP] <;> omega
theorem may_k3 (x : S26) (h : x.f1 = 3) : mayT x 0 0 false true (hardP x) = j0V x := by
  unfold mayT j0V j1V j2V j3V
  rw [h]
  by_cases a : x.f3 < 0
  · simp [a]
  by_cases b : 0 < x.f3
  · have : x.f3 ≠ 0 := by omega
    simp [a, b, this]
  by_cases c : x.f2 < 0
  · simp [a, b, c]
  by_cases d : 0 < x.f2
  · have : x.f2 ≠ 0 := by omega
    simp [a, b, c, d, this]
  have a0 : x.f3 = 0 := by omega
  have c0 : x.f2 = 0 := by omega
  by_cases e : 0 < x.f4.length
  · by_cases g : 65536 < x.f4.length <;> by_cases f : x.f5.toList = [] <;> simp [*, plainP] <;> omega
  · have e0 : x.f4.length = 0 := by omega
    by_cases f : x.f5.toList = [] <;> simp [*, plainP] <;> omega
theorem may_k4 (x : S26) (h : x.f1 = 4) : mayT x 0 1099511627776 false true (softP x) = j0V x := by
  unfold mayT j0V j1V j2V j3V
  rw [h]
  by_cases a : x.f3 < 0
  · simp [a]
  by_cases b : 1099511627776 < x.f3
  · simp [a, b]
  by_cases c : x.f2 < 0
  · simp [a, b, c]
  by_cases d : 0 < x.f2
  · have : x.f2 ≠ 0 := by omega
    simp [a, b, c, d, this]
  have c0 : x.f2 = 0 := by omega
  by_cases e : 0 < x.f4.length
  · by_cases g : 65536 < x.f4.length <;> by_cases f : x.f5.toList = [] <;> simp [*, plainP] <;> omega
  · have e0 : x.f4.length = 0 := by omega
    by_cases f : x.f5.toList = [] <;> simp [*, plainP] <;> omega
theorem may_eq (x : S26) : mayP x = if (Nm.check x.f0.data.toList).2 ≠ 0 then ((Nm.check x.f0.data.toList).2 : Int) else if x.f1 < 1 ∨ 4 < x.f1 then 1 else j0V x := by
  unfold mayP
  by_cases hc : (Nm.check x.f0.data.toList).2 = 0
  · have hn : ¬ ((Nm.check x.f0.data.toList).2 ≠ 0) := by simp [hc]
    rw [if_neg hn, if_neg hn]
    by_cases h1 : x.f1 = 1
    · rw [if_pos h1, if_neg (by omega)]; exact may_k1 x h1
    rw [if_neg h1]
    by_cases h2 : x.f1 = 2
    · rw [if_pos h2, if_neg (by omega)]; exact may_k2 x h2
    rw [if_neg h2]
    by_cases h3 : x.f1 = 3
    · rw [if_pos h3, if_neg (by omega)]; exact may_k3 x h3
    rw [if_neg h3]
    by_cases h4 : x.f1 = 4
    · rw [if_pos h4, if_neg (by omega)]; exact may_k4 x h4
    rw [if_neg h4, if_pos (by omega)]
  · rw [if_pos (by simpa using hc), if_pos (by simpa using hc)]
theorem refmay_ev (x : S26) : Ev (fun k => tabularyref11_May.f k x.f0 x.f1 x.f2 x.f3 x.f4 x.f5) (mayP x) := by
  rw [may_eq]
  refine Ev.congr (fun k => by rw [tabularyref11_May.f]) (Ev.bind (refcheck_ev x.f0) ?_)
  by_cases hc : (Nm.check x.f0.data.toList).2 = 0
  · rw [if_neg (by simp [hc])]
    by_cases h1 : x.f1 < 1
    · rw [if_pos (.inl h1)]
      exact Ev.congr (fun k => by rw [if_pos (by simp [hc]), if_pos h1]) (j0_true x)
    by_cases h4 : 4 < x.f1
    · rw [if_pos (.inr h4)]
      exact Ev.congr (fun k => by rw [if_pos (by simp [hc]), if_neg h1, decide_eq_true (show x.f1 > 4 from h4)]) (j0_true x)
    rw [if_neg (by omega)]
    exact Ev.congr (fun k => by rw [if_pos (by simp [hc]), if_neg h1, decide_eq_false (show ¬ x.f1 > 4 from h4)]) (j0_false x)
  · rw [if_pos (by simpa using hc)]
    exact Ev.congr (fun k => by rw [if_neg (by simpa using hc)]) (Ev.now _)
end Go.Proofs.YthpecpkncifngaaDoor.X
end

/- The reference's Check, told by the same plain words as the program's. -/
section
namespace Go.Proofs.YthpecpkncifngaaDoor.X
open Go.RowKit Go.Shelf Go.Proofs.YthpecpkncifngaaDoor Go.Proofs.YthpecpkncifngaaDoorW.PrintWords Go.Proofs.YthpecpkncifngaaDoorW.PrintLast Go.Proofs.YthpecpkncifngaaDoorW.PrintMore Go.Proofs.YthpecpkncifngaaDoor.Pure
set_option linter.unusedVariables false
set_option linter.unusedSimpArgs false

theorem ba_eq (a b : ByteArray) : a.toList = b.toList ↔ a = b := by
  rw [Lib.toList_data, Lib.toList_data]
  constructor
  · intro h
    cases a; cases b
    simp only [Array.toList_inj] at h
    rw [h]
  · intro h; rw [h]
def hasB : List S26 → ByteArray → Int → Bool
  | [], _, _ => false
  | x :: r, s, K => decide (x.f0 = s ∧ x.f1 = K) || hasB r s K
theorem rd_drop (xs : List S26) (i : Nat) (h : i < xs.length) : xs.drop i = rd_T26 xs i :: xs.drop (i + 1) := by
  rw [List.drop_eq_getElem_cons h]
  congr 1
  unfold rd_T26
  rw [Int.toNat_natCast, List.getD_eq_getElem?_getD, List.getElem?_eq_getElem h]
  rfl
theorem has_l0 (l : List S26) (hl : l.length ≤ 1099511627776) (s : ByteArray) (K : Int) (d : Nat) : ∀ i : Nat, i ≤ l.length → l.length - i = d →
    Ev (fun k => tabularyref11_has.l0 k l s K (i : Int)) (hasB (l.drop i) s K) := by
  induction d with
  | zero =>
    intro i hi hd
    rw [List.drop_eq_nil_of_le (by omega)]
    exact Ev.step (fun k => by simp only [tabularyref11_has.l0]; rw [if_neg (by omega)]; rfl) (Ev.now _)
  | succ d ih =>
    intro i hi hd
    have hlt : i < l.length := by omega
    rw [rd_drop l i hlt]
    simp only [hasB]
    have hn := ih (i + 1) (by omega) (by omega)
    have hw : wrap64 ((i : Int) + 1) = ((i + 1 : Nat) : Int) := wrap_succ (by omega)
    by_cases h1 : (rd_T26 l i).f0 = s
    · by_cases h2 : (rd_T26 l i).f1 = K
      · rw [decide_eq_true ⟨h1, h2⟩, Bool.true_or]
        exact Ev.step (fun k => by simp only [tabularyref11_has.l0]; rw [if_pos (by omega), if_pos (by omega), if_pos ((ba_eq _ _).2 h1), if_pos h2]) (Ev.now _)
      · rw [decide_eq_false (fun h => h2 h.2), Bool.false_or]
        exact Ev.step (fun k => by simp only [tabularyref11_has.l0]; rw [if_pos (by omega), if_pos (by omega), if_pos ((ba_eq _ _).2 h1), if_neg h2, hw]) hn
    · rw [decide_eq_false (fun h => h1 h.1), Bool.false_or]
      exact Ev.step (fun k => by simp only [tabularyref11_has.l0]; rw [if_pos (by omega), if_pos (by omega), if_neg (fun h => h1 ((ba_eq _ _).1 h)), hw]) hn
theorem has_ev (l : List S26) (hl : l.length ≤ 1099511627776) (s : ByteArray) (K : Int) : Ev (fun k => tabularyref11_has.f k l s K) (hasB l s K) := by
  have := has_l0 l hl s K l.length 0 (Nat.zero_le _) (by omega)
  rw [List.drop_zero] at this
  exact Ev.congr (fun k => rfl) this
theorem hasB_iff (l : List S26) (s : ByteArray) (K : Int) : hasB l s K = true ↔ ∃ x ∈ l, x.f0 = s ∧ x.f1 = K := by
  induction l with
  | nil => simp [hasB]
  | cons x r ih => simp [hasB, ih]
theorem mem_take (xs : List S26) (k : Nat) (hk : k ≤ xs.length) (x : S26) : x ∈ xs.take k ↔ ∃ i, i < k ∧ rd_T26 xs i = x := by
  have rd : ∀ i : Nat, (h : i < xs.length) → rd_T26 xs i = xs[i] := fun i h => by
    unfold rd_T26
    rw [Int.toNat_natCast, List.getD_eq_getElem?_getD, List.getElem?_eq_getElem h]; rfl
  rw [List.mem_take_iff_getElem]
  constructor
  · rintro ⟨i, hi, rfl⟩
    exact ⟨i, by omega, rd i (by omega)⟩
  · rintro ⟨i, hi, rfl⟩
    exact ⟨i, by omega, (rd i (by omega)).symm⟩
/-- The first k items are all right: their paths rise. -/
theorem rises {xs : List S26} {k : Nat} (h : ∀ j, j < k → stepP xs j = 0) : ∀ (j i : Nat), i < j → j < k → Nm.cmpL (Nm.texts (rd_T26 xs i).f0.data.toList) (Nm.texts (rd_T26 xs j).f0.data.toList) = -1 := by
  have one : ∀ j : Nat, j + 1 < k → Nm.cmpL (Nm.texts (rd_T26 xs j).f0.data.toList) (Nm.texts (rd_T26 xs (j + 1 : Nat)).f0.data.toList) = -1 := by
    intro j hj
    have hs := h (j + 1) hj
    have hm : mayP (rd_T26 xs (j + 1 : Nat)) = 0 := by
      by_cases hm : mayP (rd_T26 xs (j + 1 : Nat)) = 0
      · exact hm
      · rw [step1 hm] at hs; exact hs
    by_cases hc : 0 ≤ cmpA xs (j + 1)
    · rw [step2 hm ⟨by omega, hc⟩] at hs; simp at hs
    · unfold cmpA at hc
      rw [Nat.add_sub_cancel] at hc
      rcases Nm.cmp_vals (Nm.texts (rd_T26 xs j).f0.data.toList) (Nm.texts (rd_T26 xs (j + 1 : Nat)).f0.data.toList) with e | e | e <;> omega
  intro j
  induction j with
  | zero => intro i hi; omega
  | succ j ih =>
    intro i hi hj
    rcases Nat.lt_or_ge i j with hlt | hge
    · exact Nm.cmp_lt_trans _ _ _ (ih i hlt (by omega)) (one j hj)
    · obtain rfl : i = j := by omega
      exact one i hj
theorem apart {xs : List S26} {k : Nat} (h : ∀ j, j < k → stepP xs j = 0) {i j : Nat} (hi : i < k) (hj : j < k) (e : (rd_T26 xs i).f0 = (rd_T26 xs j).f0) : i = j := by
  rcases Nat.lt_trichotomy i j with hl | hl | hl
  · have := rises h j i hl hj
    rw [e, Nm.cmp_self] at this; simp at this
  · exact hl
  · have := rises h i j hl hi
    rw [e, Nm.cmp_self] at this; simp at this
theorem kd_last (xs : List S26) (s : ByteArray) (i : Nat) : ∀ k, i < k → (rd_T26 xs i).f0 = s → (∀ j, j < k → (rd_T26 xs j).f0 = s → j = i) → kd xs k s = (rd_T26 xs i).f1
  | 0, h, _, _ => by omega
  | k + 1, h, hs, hu => by
    simp only [kd]
    by_cases hk : (rd_T26 xs k).f0 = s
    · rw [if_pos hk, hu k (by omega) hk]
    · rw [if_neg hk]
      have hne : i ≠ k := fun e => hk (by rw [← e]; exact hs)
      exact kd_last xs s i k (by omega) hs (fun j hj => hu j (by omega))
theorem kd_some (xs : List S26) (s : ByteArray) (K : Int) (h0 : K ≠ 0) : ∀ k, kd xs k s = K → ∃ i, i < k ∧ (rd_T26 xs i).f0 = s ∧ (rd_T26 xs i).f1 = K
  | 0, h => absurd h.symm h0
  | k + 1, h => by
    simp only [kd] at h
    split at h
    · rename_i hk
      exact ⟨k, by omega, hk, h⟩
    · obtain ⟨i, hi, h1⟩ := kd_some xs s K h0 k h
      exact ⟨i, by omega, h1⟩
theorem kd_has {xs : List S26} {k : Nat} (hk : k ≤ xs.length) (h : ∀ j, j < k → stepP xs j = 0) (s : ByteArray) {K : Int} (h0 : K ≠ 0) : hasB (xs.take k) s K = decide (kd xs k s = K) := by
  rw [Bool.eq_iff_iff, hasB_iff, decide_eq_true_iff]
  constructor
  · rintro ⟨x, hx, h1, h2⟩
    obtain ⟨i, hi, rfl⟩ := (mem_take xs k hk x).1 hx
    rw [kd_last xs s i k hi h1 (fun j hj e => apart h hj hi (e.trans h1.symm))]
    exact h2
  · intro e
    obtain ⟨i, hi, h1, h2⟩ := kd_some xs s K h0 k e
    exact ⟨_, (mem_take xs k hk _).2 ⟨i, hi, rfl⟩, h1, h2⟩

theorem refchk_l0 (xs : List S26) (hx : xs.length ≤ 256) (d : Nat) : ∀ i : Nat, i ≤ xs.length → xs.length - i = d → (∀ j, j < i → stepP xs j = 0) → Ev (fun k => tabularyref11_Check.l0 k xs (i : Int)) (chkP xs i) := by
  induction d with
  | zero =>
    intro i hi hd hs
    rw [chkP_end (by omega)]
    exact Ev.step (fun k => by simp only [tabularyref11_Check.l0]; rw [if_neg (by omega)]) (Ev.now _)
  | succ d ih =>
    intro i hi hd hs
    have hlt : i < xs.length := by omega
    have hw : wrap64 ((i : Int) + 1) = ((i + 1 : Nat) : Int) := wrap_succ (by omega)
    have next : stepP xs i = 0 → Ev (fun k => tabularyref11_Check.l0 k xs (wrap64 ((i : Int) + 1))) (chkP xs i) := fun h0 => by
      rw [chkP_go hlt h0]
      exact Ev.congr (fun k => by rw [hw]) (ih (i + 1) (by omega) (by omega) (fun j hj => by
        rcases Nat.lt_or_ge j i with h | h
        · exact hs j h
        · obtain rfl : j = i := by omega
          exact h0))
    by_cases hm : mayP (rd_T26 xs i) = 0
    case neg =>
      rw [chkP_stop hlt (step1 hm) hm]
      exact Ev.step (fun k => by simp only [tabularyref11_Check.l0]; rw [if_pos (by omega), if_pos (by omega)]) (Ev.bind (refmay_ev _) (Ev.congr (fun k => by rw [if_neg hm]) (Ev.now _)))
    have hsz := may_size hm
    have hz : ((i : Int)).toNat = i := Int.toNat_natCast i
    have htl : (xs.take i).length ≤ 1099511627776 := by rw [List.length_take]; omega
    -- the third test
    have j2t : ∀ r, r = ((i : Int), (112 : Int)) → Ev (fun k => tabularyref11_Check.j2 k xs (i : Int) true) r := fun r hr => by
      rw [hr]; exact Ev.step (fun k => by simp only [tabularyref11_Check.j2]; rw [if_pos trivial]) (Ev.now _)
    have j2f : ¬ (0 < i ∧ 0 ≤ cmpA xs i) → ¬ ((upB (rd_T26 xs i).f0).toList ≠ [] ∧ kd xs i (upB (rd_T26 xs i).f0) ≠ 2) → Ev (fun k => tabularyref11_Check.j2 k xs (i : Int) false) (chkP xs i) := fun h2 h3 => by
      by_cases hk : (rd_T26 xs i).f1 = 3
      · refine Ev.step (fun k => by simp only [tabularyref11_Check.j2]; rw [if_neg (by decide), if_pos (by omega), if_pos (by omega), if_pos hk, if_pos (by omega), hz]) (Ev.bind (has_ev _ htl _ _) ?_)
        rw [kd_has hi hs _ (by decide)]
        by_cases h1 : kd xs i (rd_T26 xs i).f5 = 1
        · rw [decide_eq_true h1]
          exact Ev.congr (fun k => by rw [if_pos rfl]) (next (step5 hm h2 h3 (fun h => h.2 h1)))
        · rw [decide_eq_false h1]
          rw [chkP_stop hlt (step4 hm h2 h3 ⟨hk, h1⟩) (by decide)]
          exact Ev.congr (fun k => by rw [if_neg (by decide)]) (Ev.now _)
      · exact Ev.step (fun k => by simp only [tabularyref11_Check.j2]; rw [if_neg (by decide), if_pos (by omega), if_pos (by omega), if_neg hk]) (next (step5 hm h2 h3 (fun h => hk h.1)))
    -- the second
    have j1t : ∀ r, r = ((i : Int), (111 : Int)) → Ev (fun k => tabularyref11_Check.j1 k xs (i : Int) true) r := fun r hr => by
      rw [hr]; exact Ev.step (fun k => by simp only [tabularyref11_Check.j1]; rw [if_pos trivial]) (Ev.now _)
    have j1f : ¬ (0 < i ∧ 0 ≤ cmpA xs i) → Ev (fun k => tabularyref11_Check.j1 k xs (i : Int) false) (chkP xs i) := fun h2 => by
      refine Ev.step (fun k => by simp only [tabularyref11_Check.j1]; rw [if_neg (by decide), if_pos (by omega), if_pos (by omega)]) (Ev.bind (refup_ev _ (by omega)) ?_)
      by_cases hu : (upB (rd_T26 xs i).f0).toList = []
      · exact Ev.congr (fun k => by rw [if_pos hu]) (j2f h2 (fun h => h.1 hu))
      · refine Ev.congr (fun k => by rw [if_neg hu, if_pos (by omega), hz]) (Ev.bind (has_ev _ htl _ _) ?_)
        rw [kd_has hi hs _ (by decide)]
        by_cases h1 : kd xs i (upB (rd_T26 xs i).f0) = 2
        · rw [decide_eq_true h1]
          exact Ev.congr (fun k => rfl) (j2f h2 (fun h => h.2 h1))
        · rw [decide_eq_false h1]
          exact Ev.congr (fun k => rfl) (j2t _ (chkP_stop hlt (step3 hm h2 ⟨hu, h1⟩) (by decide)))
    refine Ev.step (fun k => by simp only [tabularyref11_Check.l0]; rw [if_pos (by omega), if_pos (by omega)]) (Ev.bind (refmay_ev _) ?_)
    by_cases h0 : 0 < i
    · have hp : wrap64 ((i : Int) - 1) = ((i - 1 : Nat) : Int) := by unfold wrap64; omega
      have hm' : mayP (rd_T26 xs (i - 1 : Nat)) = 0 := by
        by_cases hq : mayP (rd_T26 xs (i - 1 : Nat)) = 0
        · exact hq
        · have := hs (i - 1) (by omega)
          rw [step1 hq] at this; exact this
      have hsz' := may_size hm'
      refine Ev.congr (fun k => by rw [if_pos hm, if_pos (by omega), hp, if_pos (by omega), if_pos (by omega)]) (Ev.bind (refcompare_ev _ _ (by omega) (by omega)) ?_)
      by_cases hc : 0 ≤ cmpA xs i
      · have : (Nm.cmpL (Nm.texts (rd_T26 xs (i - 1 : Nat)).f0.data.toList) (Nm.texts (rd_T26 xs i).f0.data.toList) != -1) = true := by
          unfold cmpA at hc
          simp only [bne_iff_ne, ne_eq]
          omega
        exact Ev.congr (fun k => by rw [this]) (j1t _ (chkP_stop hlt (step2 hm ⟨h0, hc⟩) (by decide)))
      · have : (Nm.cmpL (Nm.texts (rd_T26 xs (i - 1 : Nat)).f0.data.toList) (Nm.texts (rd_T26 xs i).f0.data.toList) != -1) = false := by
          unfold cmpA at hc
          rcases Nm.cmp_vals (Nm.texts (rd_T26 xs (i - 1 : Nat)).f0.data.toList) (Nm.texts (rd_T26 xs i).f0.data.toList) with e | e | e <;> rw [e] at hc ⊢ <;> simp at hc ⊢
        exact Ev.congr (fun k => by rw [this]) (j1f (fun h => hc h.2))
    · exact Ev.congr (fun k => by rw [if_pos hm, if_neg (by omega)]) (j1f (fun h => h0 h.1))
theorem refchk_ev (xs : List S26) : Ev (fun k => tabularyref11_Check.f k xs) (checkP xs) := by
  unfold checkP
  by_cases h : 256 < xs.length
  · rw [if_pos h]
    exact Ev.congr (fun k => by rw [tabularyref11_Check.f, if_pos (by omega)]) (Ev.now _)
  · rw [if_neg h]
    exact Ev.congr (fun k => by rw [tabularyref11_Check.f, if_neg (by omega)]; rfl) (refchk_l0 xs (by omega) xs.length 0 (Nat.zero_le _) (by omega) (fun j hj => absurd hj (Nat.not_lt_zero j)))
end Go.Proofs.YthpecpkncifngaaDoor.X
end

/- The contracts of slices.Clip, tree.own and tree.some. -/
section
namespace Go.Proofs.YthpecpkncifngaaDoor.X
open Go.RowKit Go.Shelf Go.Proofs.YthpecpkncifngaaDoor Go.Proofs.YthpecpkncifngaaDoorW.PrintWords Go.Proofs.YthpecpkncifngaaDoorW.PrintLast Go.Proofs.YthpecpkncifngaaDoorW.PrintMore Go.Proofs.YthpecpkncifngaaDoor.Pure
set_option linter.unusedVariables false
set_option linter.unusedSimpArgs false

theorem clip_bytes (A : Option Addr) (n c : Nat) (w : World) (hc : n ≤ c) (hn : c ≤ 9223372036854775807) :
    Calls Tryd.prog 82 #[.slice A n c] w fun e w' => e = .returned (.slice A n n) ∧ w' = w := by
  go_enter Tryd.func82, Tryd.ntmps82
  go_wp2
  go_ret
  exact ⟨rfl, rfl⟩
theorem clip_items (A : Option Addr) (n c : Nat) (w : World) (hc : n ≤ c) (hn : c ≤ 9223372036854775807) :
    Calls Tryd.prog 54 #[.slice A n c] w fun e w' => e = .returned (.slice A n n) ∧ w' = w := by
  go_enter Tryd.func54, Tryd.ntmps54
  go_wp2
  go_ret
  exact ⟨rfl, rfl⟩

theorem cells_grown {W w1 : World} {g t : Nat} {cs : Array Value} (h : W.heap[g]? = some (.cells cs t (0, 0))) (hg : W.grownBy w1 none) : w1.heap[g]? = some (.cells cs t (0, 0)) := blk_grown h hg (by simp)

set_option maxRecDepth 100000 in
set_option maxHeartbeats 4000000 in
theorem own_any (x : S26) (A4 : Option Addr) (c4 : Nat) (w : World) (hl : x.f4.length ≤ c4) (hm : x.f4.length ≤ 140737488355328) (hr : (Kd.int .u8).C w A4 x.f4.length x.f4) :
    Calls Tryd.prog 56 #[.agg (cellsIt x A4 c4)] w fun e w' => (∃ A, e = .returned (.agg (cellsIt x A x.f4.length)) ∧ Kd.F (Kd.int .u8) w' (fun k => w.heap.size ≤ k) A x.f4.length x.f4) ∧ Below w.heap.size w w' := by
  have HR := Aside0.mk hr
  clear hr
  unfold cellsIt
  go_enter Tryd.func56, Tryd.ntmps56
  go_wp2_with (refine Kd.R_append_rows (Kd.int .u8) (w0 := w) w.heap.size rfl _ _ 24 5 (.int .u8 0) 1 rfl Tryd.underlying24 info5 rfl (by decide) (by decide) (.slice none 0 0) [] x.f4 A4 x.f4.length c4 (fun k => w.heap.size + 2 ≤ k) (fun _ => False) rfl rfl (Kd.R_nil _ _ _ _ _) (Kd.C_below HR.out (((Below.refl _ w).alloc (Nat.le_refl _) _).alloc (by simp) _)) (fun _ _ h => h) (fun _ h => h.elim) (fun k h => by simp at h; omega) (((Below.refl _ w).alloc (Nat.le_refl _) _).alloc (by simp) _) (by simp; omega) (by simp; omega) ?_)
  intro v1 w1 hR hB hg hat
  obtain ⟨A, c, rfl, hc, hC⟩ := Kd.R_reads hR
  have hcm : c ≤ 9223372036854775807 := by
    obtain ⟨inner, ho⟩ := Kd.R_own hR
    rcases ho.2 with ⟨he, h0⟩ | ⟨g, cap, cur, he, _, _, _, hcm, _⟩
    · injection he with _ _ e3; omega
    · injection he with _ _ e3; unfold maxLen at hcm; omega
  have k0 : w1.heap[w.heap.size]? = some (.cells #[.string x.f0, .int .u8 x.f1, .int .i64 x.f2, .int .i64 x.f3, .slice A4 x.f4.length c4, .string x.f5] 26 (0, 0)) := by
    refine cells_grown ?_ hg
    exact ((Below.refl _ (w.alloc (.cells #[.string x.f0, .int .u8 x.f1, .int .i64 x.f2, .int .i64 x.f3, .slice A4 x.f4.length c4, .string x.f5] 26))).alloc (Nat.le_refl _) _).block w.heap.size (by simp) |>.trans (blk_new w _)
  have k1 : w1.heap[w.heap.size + 1]? = some (.cells #[.string ⟨#[]⟩, .int .u8 0, .int .i64 0, .int .i64 0, .slice none 0 0, .string ⟨#[]⟩] 26 (0, 0)) := by
    refine cells_grown ?_ hg
    have := blk_new (w.alloc (.cells #[.string x.f0, .int .u8 x.f1, .int .i64 x.f2, .int .i64 x.f3, .slice A4 x.f4.length c4, .string x.f5] 26)) (.cells #[.string ⟨#[]⟩, .int .u8 0, .int .i64 0, .int .i64 0, .slice none 0 0, .string ⟨#[]⟩] 26)
    rw [World.size_alloc] at this
    exact this
  have c00 := (blk_cell k0 0).trans rfl
  have c01 := (blk_cell k0 1).trans rfl
  have c02 := (blk_cell k0 2).trans rfl
  have c03 := (blk_cell k0 3).trans rfl
  have c04 := (blk_cell k0 4).trans rfl
  have c05 := (blk_cell k0 5).trans rfl
  have f04 := blk_frozen k0 4
  have c10 := (blk_cell k1 0).trans rfl
  have c11 := (blk_cell k1 1).trans rfl
  have c12 := (blk_cell k1 2).trans rfl
  have c13 := (blk_cell k1 3).trans rfl
  have c14 := (blk_cell k1 4).trans rfl
  have c15 := (blk_cell k1 5).trans rfl
  have f10 := blk_frozen k1 0
  have f11 := blk_frozen k1 1
  have f12 := blk_frozen k1 2
  have f13 := blk_frozen k1 3
  have f14 := blk_frozen k1 4
  have f15 := blk_frozen k1 5
  have HRR := Aside0.mk hR
  have HB := Aside0.mk hB
  have HG := Aside0.mk hg
  clear hR hB hg hat k0 k1 hC
  go_wp2_with fail
  refine (clip_bytes A x.f4.length c _ hc hcm).mono ?_
  rintro e w2 ⟨rfl, rfl⟩
  go_wp2
  have hF0 := Kd.R_F HRR.out
  have hok0 : ∀ k, w.heap.size + 2 ≤ k → ∀ j, k ≠ (⟨w.heap.size, j, none⟩ : Addr).block := fun k hk j => by simp; omega
  have hok1 : ∀ k, w.heap.size + 2 ≤ k → ∀ j, k ≠ (⟨w.heap.size + 1, j, none⟩ : Addr).block := fun k hk j => by simp; omega
  refine bodyPost_ret (v := .agg #[.string x.f0, .int .u8 x.f1, .int .i64 x.f2, .int .i64 x.f3, .slice A x.f4.length x.f4.length, .string x.f5]) (by simp [results, Tryd.results56, go_sem, c00, c01, c02, c03, c04, c05, c10, c11, c12, c13, c14, c15]) rfl ⟨⟨A, rfl, ?_⟩, ?_⟩
  · refine Kd.F_mono ?_ (fun k (hk : w.heap.size + 2 ≤ k) => (by omega : w.heap.size ≤ k))
    exact Kd.F_far (Kd.F_far (Kd.F_far (Kd.F_far (Kd.F_far (Kd.F_far (Kd.F_far (Kd.F_far hF0 (fun k hk => hok0 k hk 4) _) (fun k hk => hok0 k hk 4) _) (fun k hk => hok1 k hk 0) _) (fun k hk => hok1 k hk 1) _) (fun k hk => hok1 k hk 2) _) (fun k hk => hok1 k hk 3) _) (fun k hk => hok1 k hk 4) _) (fun k hk => hok1 k hk 5) _
  · exact below_set (below_set (below_set (below_set (below_set (below_set (below_set (below_set HB.out (Nat.le_refl _)) (Nat.le_refl _)) (Nat.le_succ _)) (Nat.le_succ _)) (Nat.le_succ _)) (Nat.le_succ _)) (Nat.le_succ _)) (Nat.le_succ _)

theorem N_cap {α : Type} {d : Kd α} {e : Nat} {w : World} {base : Nat} {ok : Nat → Prop} {v : Value} {xs : List α} (h : Kd.N d e w base ok v xs) : ∃ A c, v = .slice A xs.length c ∧ xs.length ≤ c ∧ c ≤ 9223372036854775807 := by
  obtain ⟨A, c, rfl, hc, _⟩ := Kd.N_reads h
  refine ⟨A, c, rfl, hc, ?_⟩
  obtain ⟨_, rows, _, hR, _⟩ := h
  obtain ⟨inner, ho⟩ := Kd.R_own hR
  rcases ho.2 with ⟨he, h0⟩ | ⟨g, cap, cur, he, _, _, _, hcm, _⟩
  · injection he with _ _ e3; omega
  · injection he with _ _ e3; unfold maxLen at hcm; omega

/-- Those of the first k items that are wanted. -/
def keepP (p : S26 → Bool) (xs : List S26) : Nat → List S26
  | 0 => []
  | k + 1 => if p (rd_T26 xs k) then keepP p xs k ++ [rd_T26 xs k] else keepP p xs k
theorem keepP_len (p : S26 → Bool) (xs : List S26) (k : Nat) : (keepP p xs k).length ≤ k := by
  induction k with
  | zero => exact Nat.le_refl _
  | succ k ih =>
    simp only [keepP]
    split
    · rw [List.length_append, List.length_singleton]; omega
    · omega

set_option maxRecDepth 100000 in
set_option maxHeartbeats 4000000 in
theorem some_any (g : Nat) (cap : Array Value) (p : S26 → Bool) (A : Option Addr) (c : Nat) (xs : List S26) (w : World) (hr : Kd.C k26 w A xs.length xs) (hm : xs.length * 80 ≤ 140737488351232) (hb4 : ∀ x ∈ xs, x.f4.length ≤ 140737488355328)
    (hcall : ∀ (args : Array Value) (W : World), (callFunc g args).run Tryd.prog W = .ok (.enter g args) W) (hp : Tells g cap p w) :
    Calls Tryd.prog 46 #[.slice A xs.length c, .func (.func g) #[] cap] w fun e w' => (∃ v, e = .returned v ∧ Kd.V k26 26 w' w.heap.size (fun k => w.heap.size ≤ k) v (keepP p xs xs.length)) ∧ Below w.heap.size w w' := by
  have HR := Aside0.mk hr
  have HP := Aside0.mk hp
  have H4 := Aside0.mk hb4
  clear hr hp hb4
  go_enter Tryd.func46, Tryd.ntmps46
  go_wp2
  go_loopw [5, 10] (fun v i wr => ∃ k : Nat, k ≤ xs.length ∧ i = .int .i64 k ∧ Aside0 (Below w.heap.size w wr) ∧ Aside0 (Kd.N k26 26 wr w.heap.size (fun k => w.heap.size ≤ k) v (keepP p xs k))) (fun _ i _ => xs.length - (intOf i).toNat)
  case atStart => exact ⟨0, Nat.zero_le _, rfl, ⟨Below.refl _ _⟩, ⟨Kd.N_nil _ _ _ _ _⟩⟩
  case round =>
    obtain ⟨k, hk, rfl, hB, hN⟩ := hrel
    by_cases hlt : k < xs.length
    · obtain ⟨ad, A4, c4, rfl, h0, h1, h2, h3, h4, h5, hl, hr4⟩ := at_it HR.out hB.out k hlt
      have HR4 := Aside0.mk hr4
      clear hr4
      go_wp2_with fail
      refine (HP.out _ (rd_T26 xs k) A4 c4 (hB.out.trans (((Below.refl _ wr).alloc (Nat.le_refl _) _).mono hB.out.size)) hl (Kd.C_below HR4.out ((Below.refl _ _).alloc (Nat.le_refl _) _))).mono ?_
      rintro e w1 ⟨rfl, hb⟩
      obtain ⟨a0, a1, a2, a3, a4, a5, az⟩ := box_it (rd_T26 xs k) A4 c4 hb
      have hbw := ((Below.refl _ wr).alloc (Nat.le_refl _) (.cells (cellsIt (rd_T26 xs k) A4 c4) 26)).trans (hb.mono (by simp))
      have HB1 := Aside0.mk (hB.out.trans (hbw.mono hB.out.size))
      have HBW := Aside0.mk hbw
      have HN1 := Aside0.mk (Kd.N_below hN.out hbw)
      clear hb hbw h0 h1 h2 h3 h4 h5
      by_cases hpk : p (rd_T26 xs k) = true
      · have HK := Lib.hid hpk
        have HS := Lib.hid (show keepP p xs (k + 1) = keepP p xs k ++ [rd_T26 xs k] by rw [keepP, if_pos hpk])
        rw [hpk]
        clear hpk
        have hm4 : (rd_T26 xs k).f4.length ≤ 140737488355328 := H4.out _ (by unfold rd_T26; rw [Int.toNat_natCast, List.getD_eq_getElem?_getD, List.getElem?_eq_getElem hlt]; exact List.getElem_mem hlt)
        go_wp2_with fail
        refine (own_any (rd_T26 xs k) A4 c4 _ hl hm4 (Kd.C_below HR4.out HBW.out)).mono ?_
        rintro e w2 ⟨⟨A', rfl, hF⟩, hb2⟩
        unfold cellsIt
        have HF := Aside0.mk hF
        have HN2 := Aside0.mk (Kd.N_below HN1.out hb2)
        have HB2 := Aside0.mk (HB1.out.trans (hb2.mono HB1.out.size))
        have hlt1 := HBW.out.size
        have hkl := keepP_len p xs k
        clear hF hb2 a0 a1 a2 a3 a4 a5
        go_wp2_with ((with_reducible refine gate_builtin (b := .append) (xs := #[.tmp 17, .tmp 20]) rfl ?_); at_builtin; refine Kd.N_append k26 (w0 := w) w.heap.size rfl (.tmp 17) (.tmp 20) 22 26 (.agg #[.string ⟨#[]⟩, .int .u8 0, .int .i64 0, .int .i64 0, .slice none 0 0, .string ⟨#[]⟩]) 80 rfl Tryd.underlying22 info26 rfl (by decide) (by decide) _ (keepP p xs k) (rd_T26 xs k) [.string (rd_T26 xs k).f0, .int .u8 (rd_T26 xs k).f1, .int .i64 (rd_T26 xs k).f2, .int .i64 (rd_T26 xs k).f3, .slice A' (rd_T26 xs k).f4.length (rd_T26 xs k).f4.length, .string (rd_T26 xs k).f5] (fun k_ => w.heap.size ≤ k_) (fun k_ => w1.heap.size ≤ k_) rfl rfl (k26_mkF _ _ _ (Nat.le_refl _) HF.out) (fun k_ h => ⟨Nat.le_trans HB1.out.size h, fun e => by have := Kd.N_lt HN1.out k_ e.symm; omega⟩) (fun k_ h => Nat.le_trans HB2.out.size h) HN2.out HB2.out HB2.out.size (by omega) ?_)
        intro v1 w3 hN3 hB3 hg hat
        rw [← HS.out] at hN3
        have HN3 := Aside0.mk hN3
        have HB3 := Aside0.mk hB3
        clear hN3 hB3 hg hat hlt1 hkl
        go_wp2
        go_roundw
        case rel => exact ⟨k + 1, by omega, by go_num, HB3, HN3⟩
        case measure => simp [intOf]; omega
      · have hpk' : p (rd_T26 xs k) = false := by simpa using hpk
        have HS := Lib.hid (show keepP p xs (k + 1) = keepP p xs k by rw [keepP, if_neg hpk])
        rw [hpk']
        clear hpk hpk'
        have hN3 := HN1.out
        rw [← HS.out] at hN3
        have HN3 := Aside0.mk hN3
        clear hN3 a0 a1 a2 a3 a4 a5
        go_wp2
        go_roundw
        case rel => exact ⟨k + 1, by omega, by go_num, HB1, HN3⟩
        case measure => simp [intOf]; omega
    · obtain rfl : k = xs.length := by omega
      obtain ⟨A', c', rfl, hc', hcm'⟩ := N_cap hN.out
      have hF := Kd.N_F hN.out
      have HF := Aside0.mk hF
      clear hF
      go_wp2_with fail
      refine (clip_items A' (keepP p xs xs.length).length c' _ hc' hcm').mono ?_
      rintro e w2 ⟨rfl, rfl⟩
      go_wp2
      go_ret
      exact ⟨⟨_, rfl, Kd.V_mk (Nat.le_refl _) HF.out⟩, hB.out⟩
end Go.Proofs.YthpecpkncifngaaDoor.X
end

/- The contracts of the law's own lent and kept: a list in memory of its own, with marks behind it and behind each body. -/
section
namespace Go.Proofs.YthpecpkncifngaaDoor.X
open Go.RowKit Go.Shelf Go.Proofs.YthpecpkncifngaaDoor Go.Proofs.YthpecpkncifngaaDoorW.PrintWords Go.Proofs.YthpecpkncifngaaDoorW.PrintLast Go.Proofs.YthpecpkncifngaaDoorW.PrintMore Go.Proofs.YthpecpkncifngaaDoor.Pure
set_option linter.unusedVariables false
set_option linter.unusedSimpArgs false

def markS : ByteArray := ⟨#[109, 97, 114, 107]⟩
/-- An item whose body has a byte 201 behind it; or the mark behind all. -/
def kLK (w : World) (x : Option S26) (cs : List Value) : Prop :=
  match x with
  | some x => ∃ ad c4, cs = [.string x.f0, .int .u8 x.f1, .int .i64 x.f2, .int .i64 x.f3, .slice (some ad) x.f4.length c4, .string x.f5] ∧ x.f4.length + 1 ≤ c4 ∧ c4 ≤ 9223372036854775807 ∧ (Kd.int .u8).C w (some ad) x.f4.length x.f4 ∧ w.cell? (ad.add x.f4.length) = some (.int .u8 201)
  | none => cs = [.string markS, .int .u8 0, .int .i64 0, .int .i64 0, .slice none 0 0, .string ⟨#[]⟩]
def kL : Kd (Option S26) where
  sz := 6
  E := [5]
  K := kLK
  M := fun _ _ _ _ _ => False
  K_len := by
    intro w x cs h
    cases x with
    | none => rw [show cs = _ from h]; rfl
    | some x => obtain ⟨ad, c4, rfl, _⟩ := h; rfl
  K_one := by
    intro w x cs h u hu
    cases x with
    | none =>
      rw [show cs = _ from h] at hu
      simp only [List.mem_cons, List.not_mem_nil, or_false] at hu
      rcases hu with rfl | rfl | rfl | rfl | rfl | rfl <;> rfl
    | some x =>
      obtain ⟨ad, c4, rfl, _⟩ := h
      simp only [List.mem_cons, List.not_mem_nil, or_false] at hu
      rcases hu with rfl | rfl | rfl | rfl | rfl | rfl <;> rfl
  K_below := by
    intro w w1 x cs hb h
    cases x with
    | none => exact h
    | some x =>
      obtain ⟨ad, c4, e, h1, h2, h3, h4⟩ := h
      exact ⟨ad, c4, e, h1, h2, Kd.C_below h3 hb, (hb.cell (World.block_lt_of_cell? w _ h4)).trans h4⟩
  K_of_M := fun h => h.elim
  M_mono := fun _ h => h
  M_bound := fun h => h
  M_move := fun _ h => h
  M_lower := fun _ h => h
theorem kL_k {w : World} {x : S26} {cs : List Value} (h : kL.K w (some x) cs) : k26.K w x cs := by
  obtain ⟨ad, c4, rfl, h1, h2, h3, h4⟩ := h
  exact k26_mk w x (by omega) h3
/-- What is lent reads as the items. -/
theorem lent_reads {w : World} {A : Option Addr} {xs : List S26} (h : kL.C w A (xs.length + 1) (xs.map some ++ [none])) : k26.C w A xs.length xs := by
  refine ⟨rfl, by have := Kd.C_max h; omega, fun h0 => ?_⟩
  obtain ⟨ad, e, hr⟩ := h.2.2 (by omega)
  refine ⟨ad, e, fun j x hj => ?_⟩
  obtain ⟨c, hl, hk, hc⟩ := hr j (some x) (by rw [List.getElem?_append_left (by rw [List.length_map]; exact (List.getElem?_eq_some_iff.1 hj).1), List.getElem?_map, hj]; rfl)
  exact ⟨c, hl, kL_k hk, hc⟩
theorem C_snoc {w : World} {ad : Addr} {l : List Int} {v : Int} (h : (Kd.int .u8).C w (some ad) (l ++ [v]).length (l ++ [v])) : (Kd.int .u8).C w (some ad) l.length l ∧ w.cell? (ad.add l.length) = some (.int .u8 v) := by
  have hl : (l ++ [v]).length = l.length + 1 := by simp
  constructor
  · have := Kd.C_take h (m := l.length) (by omega)
    rw [List.take_left] at this
    exact this
  · obtain ⟨ad', cs, e, _, hk, hcell⟩ := Kd.C_get h 0 (l.length : Int) (by omega) (by omega)
    obtain rfl := Option.some.inj e
    have hK : cs = [.int .u8 ((l ++ [v]).getD ((l.length : Int)).toNat 0)] := hk
    subst hK
    have := hcell 0 _ rfl
    rw [Int.toNat_natCast, show l.length * (Kd.int .u8).sz + 0 = l.length by show l.length * 1 + 0 = _; omega] at this
    simpa using this

theorem cut_own {w : World} {base e : Nat} {v : Value} {n m : Nat} {xs : List Value} (h : w.ownsRow base e 1 v (n + 1) xs) : ∃ g cap, v = .slice (some ⟨g, 0, none⟩) (n + 1) cap ∧ n + 1 ≤ cap ∧ cap ≤ 9223372036854775807 := by
  rcases h.2 with ⟨_, h0⟩ | ⟨g, cap, cur, he, _, _, h1, h2, _⟩
  · omega
  · exact ⟨g, cap, he, h1, by unfold maxLen at h2; omega⟩
set_option maxRecDepth 100000 in
set_option maxHeartbeats 4000000 in
theorem lent_any (A : Option Addr) (c : Nat) (xs : List S26) (w : World) (hr : Kd.C k26 w A xs.length xs) (hm : xs.length * 80 ≤ 140737488351232) (hb4 : ∀ x ∈ xs, x.f4.length ≤ 140737488351232) :
    Calls Tryd.prog 12 #[.slice A xs.length c] w fun e w' => (∃ A' c', e = .returned (.slice A' xs.length c') ∧ xs.length + 1 ≤ c' ∧ c' ≤ 9223372036854775807 ∧ kL.C w' A' (xs.length + 1) (xs.map some ++ [none])) ∧ Below w.heap.size w w' := by
  have HR := Aside0.mk hr
  have H4 := Aside0.mk hb4
  clear hr hb4
  go_enter Tryd.func12, Tryd.ntmps12
  go_wp2
  go_loopw [3, 4] (fun v i wr => ∃ k : Nat, k ≤ xs.length ∧ i = .int .i64 k ∧ Aside0 (Below w.heap.size w wr) ∧ Aside0 (Kd.N kL 26 wr w.heap.size (fun k => w.heap.size ≤ k) v ((xs.map some).take k))) (fun _ i _ => xs.length - (intOf i).toNat)
  case atStart => exact ⟨0, Nat.zero_le _, rfl, ⟨Below.refl _ _⟩, ⟨Kd.N_nil _ _ _ _ _⟩⟩
  case round =>
    obtain ⟨k, hk, rfl, hB, hN⟩ := hrel
    by_cases hlt : k < xs.length
    · obtain ⟨ad, A4, c4, rfl, h0, h1, h2, h3, h4, h5, hl, hr4⟩ := at_it HR.out hB.out k hlt
      have HR4 := Aside0.mk hr4
      have hm4 : (rd_T26 xs k).f4.length ≤ 140737488351232 := H4.out _ (by unfold rd_T26; rw [Int.toNat_natCast, List.getD_eq_getElem?_getD, List.getElem?_eq_getElem hlt]; exact List.getElem_mem hlt)
      clear hr4
      go_wp2_with ((with_reducible refine gate_builtin (b := .append) (xs := #[.tmp 21, .tmp 23]) rfl ?_); at_builtin; refine Kd.R_append_rows (Kd.int .u8) (w0 := wr) wr.heap.size rfl (.tmp 21) (.tmp 23) 24 5 (.int .u8 0) 1 rfl Tryd.underlying24 info5 rfl (by decide) (by decide) (.slice none 0 0) [] (rd_T26 xs k).f4 A4 (rd_T26 xs k).f4.length c4 (fun k => wr.heap.size + 1 ≤ k) (fun _ => False) rfl rfl (Kd.R_nil _ _ _ _ _) (Kd.C_below HR4.out ((Below.refl _ wr).alloc (Nat.le_refl _) _)) (fun _ _ h => h) (fun _ h => h.elim) (fun k h => by simp at h; omega) ((Below.refl _ wr).alloc (Nat.le_refl _) _) (by simp) (by simp; omega) ?_)
      intro v1 w1 hR1 hB1 hg1 hat1
      have k0 : w1.heap[wr.heap.size]? = some (.cells #[.string (rd_T26 xs k).f0, .int .u8 (rd_T26 xs k).f1, .int .i64 (rd_T26 xs k).f2, .int .i64 (rd_T26 xs k).f3, .slice A4 (rd_T26 xs k).f4.length c4, .string (rd_T26 xs k).f5] 26 (0, 0)) := cells_grown (blk_new wr _) hg1
      have HR1 := Aside0.mk hR1
      have HB1 := Aside0.mk hB1
      have K0 := Aside0.mk k0
      have hz1 : wr.heap.size < w1.heap.size := blk_lt k0
      clear hR1 hB1 hg1 hat1 k0 h0 h1 h2 h3 h4 h5
      go_wp2_with ((with_reducible refine gate_builtin (b := .append) (xs := #[.tmp 25, .tmp 26]) rfl ?_); at_builtin; refine Kd.R_append (Kd.int .u8) (w0 := wr) wr.heap.size rfl (.tmp 25) (.tmp 26) 24 5 (.int .u8 0) 1 rfl Tryd.underlying24 info5 rfl (by decide) (by decide) v1 (rd_T26 xs k).f4 201 [.int .u8 201] (fun k => wr.heap.size + 1 ≤ k) (fun _ => False) rfl rfl rfl (fun _ h => h.elim) (fun k h => by omega) HR1.out HB1.out HB1.out.size (by omega) ?_)
      intro v2 w2 hR2 hB2 hg2 hat2
      have k2 : w2.heap[wr.heap.size]? = some (.cells #[.string (rd_T26 xs k).f0, .int .u8 (rd_T26 xs k).f1, .int .i64 (rd_T26 xs k).f2, .int .i64 (rd_T26 xs k).f3, .slice A4 (rd_T26 xs k).f4.length c4, .string (rd_T26 xs k).f5] 26 (0, 0)) := blk_grown K0.out hg2 (fun e => by have : wr.heap.size + 1 ≤ wr.heap.size := HR1.out.1 _ e.symm; omega)
      have hl2 : ((rd_T26 xs k).f4 ++ [(201 : Int)]).length = (rd_T26 xs k).f4.length + 1 := by simp
      obtain ⟨g, cap, hv2, hcap, hcap2⟩ : ∃ g cap, v2 = .slice (some ⟨g, 0, none⟩) ((rd_T26 xs k).f4.length + 1) cap ∧ (rd_T26 xs k).f4.length + 1 ≤ cap ∧ cap ≤ 9223372036854775807 := by
        obtain ⟨inner, ho⟩ := Kd.R_own hR2
        rw [hl2] at ho
        exact cut_own (m := 0) ho
      subst hv2
      have hF2 := Kd.R_F hR2
      have c00 := (blk_cell k2 0).trans rfl
      have c01 := (blk_cell k2 1).trans rfl
      have c02 := (blk_cell k2 2).trans rfl
      have c03 := (blk_cell k2 3).trans rfl
      have c04 := (blk_cell k2 4).trans rfl
      have c05 := (blk_cell k2 5).trans rfl
      have f04 := blk_frozen k2 4
      have HF2 := Aside0.mk hF2
      have HB2 := Aside0.mk hB2
      have HN2 := Aside0.mk (Kd.N_below hN.out hB2)
      have hz2 : wr.heap.size < w2.heap.size := blk_lt k2
      clear hR2 hg2 hat2 hB2 hF2 k2 K0 HR1 HB1 hz1
      have hFK : Kd.FK kL (w2.setCell ⟨wr.heap.size, 4, none⟩ (.slice (some ⟨g, 0, none⟩) (rd_T26 xs k).f4.length cap)) (fun k => wr.heap.size + 1 ≤ k) (some (rd_T26 xs k)) [.string (rd_T26 xs k).f0, .int .u8 (rd_T26 xs k).f1, .int .i64 (rd_T26 xs k).f2, .int .i64 (rd_T26 xs k).f3, .slice (some ⟨g, 0, none⟩) (rd_T26 xs k).f4.length cap, .string (rd_T26 xs k).f5] := by
        have h1 := Kd.F_far HF2.out (p := ⟨wr.heap.size, 4, none⟩) (fun k (hk : wr.heap.size + 1 ≤ k) => by show k ≠ wr.heap.size; omega) (.slice (some ⟨g, 0, none⟩) (rd_T26 xs k).f4.length cap)
        refine Foot.imp h1 (fun W' hC => ?_)
        rw [← hl2] at hC
        obtain ⟨q1, q2⟩ := C_snoc hC
        exact ⟨_, _, rfl, hcap, hcap2, q1, q2⟩
      have HFK := Aside0.mk hFK
      have HBs := Aside0.mk (HB2.out.setCell (p := ⟨wr.heap.size, 4, none⟩) (Nat.le_refl _) (.slice (some ⟨g, 0, none⟩) (rd_T26 xs k).f4.length cap))
      have HNs := Aside0.mk (Kd.N_below hN.out HBs.out)
      have HBw := Aside0.mk (hB.out.trans (HBs.out.mono hB.out.size))
      have hsz : (w2.setCell ⟨wr.heap.size, 4, none⟩ (.slice (some ⟨g, 0, none⟩) (rd_T26 xs k).f4.length cap)).heap.size = w2.heap.size := by simp
      clear hFK
      go_wp2_with ((with_reducible refine gate_builtin (b := .append) (xs := #[.tmp 32, .tmp 34]) rfl ?_); at_builtin; refine Kd.N_append kL (w0 := w) w.heap.size rfl (.tmp 32) (.tmp 34) 22 26 (.agg #[.string ⟨#[]⟩, .int .u8 0, .int .i64 0, .int .i64 0, .slice none 0 0, .string ⟨#[]⟩]) 80 rfl Tryd.underlying22 info26 rfl (by decide) (by decide) _ ((xs.map some).take k) (some (rd_T26 xs k)) [.string (rd_T26 xs k).f0, .int .u8 (rd_T26 xs k).f1, .int .i64 (rd_T26 xs k).f2, .int .i64 (rd_T26 xs k).f3, .slice (some ⟨g, 0, none⟩) (rd_T26 xs k).f4.length cap, .string (rd_T26 xs k).f5] (fun k_ => w.heap.size ≤ k_) (fun k_ => wr.heap.size + 1 ≤ k_) rfl (by rw [hsz]; rfl) HFK.out (fun k_ h => ⟨Nat.le_trans hB.out.size (Nat.le_of_succ_le h), fun e => by have := Kd.N_lt hN.out k_ e.symm; omega⟩) (fun k_ h => by have := hB.out.size; omega) HNs.out HBw.out HBw.out.size (by simp; omega) ?_)
      intro v3 w3 hN3 hB3 hg3 hat3
      have hs : (xs.map some).take k ++ [some (rd_T26 xs k)] = (xs.map some).take (k + 1) := by
        rw [List.take_succ_eq_append_getElem (by rw [List.length_map]; exact hlt)]
        congr 1
        rw [List.getElem_map]
        unfold rd_T26
        rw [Int.toNat_natCast, List.getD_eq_getElem?_getD, List.getElem?_eq_getElem hlt]; rfl
      rw [hs] at hN3
      have HN3 := Aside0.mk hN3
      have HB3 := Aside0.mk hB3
      clear hN3 hB3 hg3 hat3 hs hsz c00 c01 c02 c03 c04 c05 f04
      go_wp2
      go_roundw
      case rel => exact ⟨k + 1, by omega, by go_num, HB3, HN3⟩
      case measure => simp [intOf]; omega
    · obtain rfl : k = xs.length := by omega
      have hN := hN.out
      rw [List.take_of_length_le (by rw [List.length_map]; exact Nat.le_refl _)] at hN
      have hfk : Kd.FK kL wr (fun k_ => wr.heap.size ≤ k_) none [.string ⟨#[109, 97, 114, 107]⟩, .int .u8 0, .int .i64 0, .int .i64 0, .slice none 0 0, .string ⟨#[]⟩] := fun W' _ => rfl
      have HN := Aside0.mk hN
      have HFK := Aside0.mk hfk
      clear hN hfk
      go_wp2_with ((with_reducible refine gate_builtin (b := .append) (xs := #[.tmp 36, .tmp 38]) rfl ?_); at_builtin; refine Kd.N_append kL (w0 := w) w.heap.size rfl (.tmp 36) (.tmp 38) 22 26 (.agg #[.string ⟨#[]⟩, .int .u8 0, .int .i64 0, .int .i64 0, .slice none 0 0, .string ⟨#[]⟩]) 80 rfl Tryd.underlying22 info26 rfl (by decide) (by decide) _ (xs.map some) none [.string ⟨#[109, 97, 114, 107]⟩, .int .u8 0, .int .i64 0, .int .i64 0, .slice none 0 0, .string ⟨#[]⟩] (fun k_ => w.heap.size ≤ k_) (fun k_ => wr.heap.size ≤ k_) rfl rfl HFK.out (fun k_ h => ⟨Nat.le_trans hB.out.size h, fun e => by have := Kd.N_lt HN.out k_ e.symm; omega⟩) (fun k_ h => Nat.le_trans hB.out.size h) HN.out hB.out hB.out.size (by simp; omega) ?_)
      intro v3 w3 hN3 hB3 hg3 hat3
      obtain ⟨A3, c3, rfl, hc3, hc3m⟩ := N_cap hN3
      have hl3 : (xs.map some ++ [(none : Option S26)]).length = xs.length + 1 := by simp
      rw [hl3] at hc3
      have hC := (Kd.N_reads' hN3).2.2
      rw [hl3] at hC
      have HC := Aside0.mk hC
      have HB3 := Aside0.mk hB3
      clear hN3 hB3 hg3 hat3 hC
      simp only [hl3]
      clear hl3
      go_wp2
      go_ret
      exact ⟨⟨_, _, rfl, hc3, hc3m, HC.out⟩, HB3.out⟩

set_option maxRecDepth 100000 in
set_option maxHeartbeats 4000000 in
theorem same_any (A : Option Addr) (c : Nat) (A1 : Option Addr) (c1 : Nat) (xs : List S26) (w : World) (hr : Kd.C k26 w A xs.length xs) (hc : xs.length ≤ c) (hr1 : Kd.C k26 w A1 xs.length xs) (hc1 : xs.length ≤ c1) (hx : xs.length ≤ 140737488355328) :
    Calls Tryd.prog 20 #[.slice A xs.length c, .slice A1 xs.length c1] w fun e w' => e = .returned (.bool true) ∧ Below w.heap.size w w' := by
  have HR := Aside0.mk hr
  have HR1 := Aside0.mk hr1
  clear hr hr1
  go_enter Tryd.func20, Tryd.ntmps20
  go_wp2
  go_loopw [5] (fun i wr => ∃ k : Nat, k ≤ xs.length ∧ i = .int .i64 k ∧ Aside0 (Below w.heap.size w wr)) (fun i _ => xs.length - (intOf i).toNat)
  case atStart => exact ⟨0, Nat.zero_le _, rfl, ⟨Below.refl _ _⟩⟩
  case round =>
    obtain ⟨k, hk, rfl, hB⟩ := hrel
    by_cases hlt : k < xs.length
    · obtain ⟨ad, A4, c4, rfl, h0, h1, h2, h3, h4, h5, hl, hr4⟩ := at_it HR.out hB.out k hlt
      obtain ⟨bd, B4, d4, rfl, g0, g1, g2, g3, g4, g5, gl, gr4⟩ := at_it HR1.out hB.out k hlt
      have lt0 := World.block_lt_of_cell? _ _ g0
      have hbx : Below wr.heap.size wr ((wr.alloc (.cells #[.string (rd_T26 xs k).f0, .int .u8 (rd_T26 xs k).f1, .int .i64 (rd_T26 xs k).f2, .int .i64 (rd_T26 xs k).f3, .slice A4 (rd_T26 xs k).f4.length c4, .string (rd_T26 xs k).f5] 26)).alloc (.cells #[.string (rd_T26 xs k).f0, .int .u8 (rd_T26 xs k).f1, .int .i64 (rd_T26 xs k).f2, .int .i64 (rd_T26 xs k).f3, .slice B4 (rd_T26 xs k).f4.length d4, .string (rd_T26 xs k).f5] 26)) := ((Below.refl _ _).alloc (Nat.le_refl _) _).alloc (by simp) _
      have hcv1 := Kd.C_string (P := Tryd.prog) (A := A4) (c := c4) Tryd.underlying24 Tryd.underlying5 Tryd.underlying9 (Kd.C_below hr4 hbx)
      have hcv2 := Kd.C_string (P := Tryd.prog) (A := B4) (c := d4) Tryd.underlying24 Tryd.underlying5 Tryd.underlying9 (Kd.C_below gr4 hbx)
      have HBX := Aside0.mk (hB.out.trans (hbx.mono hB.out.size))
      clear hr4 gr4 hbx
      go_wp2
      go_roundw
      case rel => exact ⟨k + 1, by omega, by go_num, HBX⟩
      case measure => simp [intOf]; omega
    · go_wp2
      go_ret
      exact ⟨rfl, hB.out⟩

theorem at_L {w W : World} {A : Option Addr} {xs : List S26} (h : kL.C w A (xs.length + 1) (xs.map some ++ [none])) (hb : Below w.heap.size w W) (i : Nat) (h1 : i < xs.length) :
    ∃ ad b c4, A = some ad ∧ W.cell? ⟨(ad.add (i * 6)).block, (ad.add (i * 6)).off + 4, none⟩ = some (.slice (some b) (rd_T26 xs i).f4.length c4) ∧ (rd_T26 xs i).f4.length + 1 ≤ c4 ∧ c4 ≤ 9223372036854775807 ∧ W.cell? (b.add (rd_T26 xs i).f4.length) = some (.int .u8 201) := by
  obtain ⟨ad, e, hr⟩ := h.2.2 (by omega)
  have hx : (xs.map some ++ [(none : Option S26)])[i]? = some (some (rd_T26 xs i)) := by
    rw [List.getElem?_append_left (by rw [List.length_map]; exact h1), List.getElem?_map, List.getElem?_eq_getElem h1]
    unfold rd_T26
    rw [Int.toNat_natCast, List.getD_eq_getElem?_getD, List.getElem?_eq_getElem h1]; rfl
  obtain ⟨c, hl, ⟨b, c4, rfl, q1, q2, q3, q4⟩, hc⟩ := hr i _ hx
  have st : ∀ {a : Addr} {v : Value}, w.cell? a = some v → W.cell? a = some v := fun {a v} hv => (hb.cell (World.block_lt_of_cell? w _ hv)).trans hv
  refine ⟨ad, b, c4, e, st ?_, q1, q2, st q4⟩
  rw [← add_field _ _ 4 (by omega)]
  exact hc 4 _ rfl
theorem at_mark {w W : World} {A : Option Addr} {xs : List S26} (h : kL.C w A (xs.length + 1) (xs.map some ++ [none])) (hb : Below w.heap.size w W) :
    ∃ ad, A = some ad ∧ W.cell? (ad.add (xs.length * 6)) = some (.string ⟨#[109, 97, 114, 107]⟩) := by
  obtain ⟨ad, e, hr⟩ := h.2.2 (by omega)
  obtain ⟨c, hl, hk, hc⟩ := hr xs.length none (by rw [List.getElem?_append_right (by simp)]; simp)
  rw [show c = _ from hk] at hc
  have := hc 0 _ rfl
  exact ⟨ad, e, (hb.cell (World.block_lt_of_cell? w _ this)).trans this⟩

set_option maxRecDepth 100000 in
set_option maxHeartbeats 4000000 in
theorem kept_any (A : Option Addr) (c : Nat) (A1 : Option Addr) (c1 : Nat) (xs : List S26) (w : World) (hL : kL.C w A (xs.length + 1) (xs.map some ++ [none])) (hc : xs.length + 1 ≤ c) (hcm : c ≤ 9223372036854775807) (hr1 : Kd.C k26 w A1 xs.length xs) (hc1 : xs.length ≤ c1) (hx : xs.length ≤ 140737488355000) :
    Calls Tryd.prog 17 #[.slice A xs.length c, .slice A1 xs.length c1] w fun e w' => e = .returned (.bool true) ∧ Below w.heap.size w w' := by
  have HL := Aside0.mk hL
  have HR1 := Aside0.mk hr1
  clear hL hr1
  go_enter Tryd.func17, Tryd.ntmps17
  go_wp2
  go_loopw [5] (fun i wr => ∃ k : Nat, k ≤ xs.length ∧ i = .int .i64 k ∧ wr = w) (fun i _ => xs.length - (intOf i).toNat)
  case atStart => exact ⟨0, Nat.zero_le _, rfl, rfl⟩
  case round =>
    obtain ⟨k, hk, rfl, rfl⟩ := hrel
    by_cases hlt : k < xs.length
    · obtain ⟨ad, b, c4, rfl, h4, hq, hqm, hm⟩ := at_L HL.out (Below.refl _ _) k hlt
      go_wp2
      go_roundw
      case rel => exact ⟨k + 1, by omega, by go_num, trivial⟩
      case measure => simp [intOf]; omega
    · obtain rfl : k = xs.length := by omega
      obtain ⟨ad, rfl, hmk⟩ := at_mark HL.out (Below.refl _ _)
      go_wp2_with fail
      refine (same_any _ c A1 c1 xs _ (lent_reads HL.out) (by omega) HR1.out hc1 (by omega)).mono ?_
      rintro e w1 ⟨rfl, hb⟩
      have hmk1 := (hb.cell (World.block_lt_of_cell? _ _ hmk)).trans hmk
      have HB := Aside0.mk hb
      clear hmk hb
      go_wp2
      go_ret
      exact ⟨rfl, HB.out⟩
end Go.Proofs.YthpecpkncifngaaDoor.X
end

/- TreeChecks: the law's walk. -/
section
namespace Go.Proofs.YthpecpkncifngaaDoor.X
open Go.RowKit Go.Shelf Go.Proofs.YthpecpkncifngaaDoor Go.Proofs.YthpecpkncifngaaDoorW.PrintWords Go.Proofs.YthpecpkncifngaaDoorW.PrintLast Go.Proofs.YthpecpkncifngaaDoorW.PrintMore Go.Proofs.YthpecpkncifngaaDoor.Pure
set_option linter.unusedVariables false
set_option linter.unusedSimpArgs false

theorem refcheck_any (A : Option Addr) (c : Nat) (xs : List S26) (w : World) (hr : Kd.C k26 w A xs.length xs) (hc : xs.length ≤ c) :
    Calls Tryd.prog 14 #[.slice A xs.length c] w fun e w' => e = .returned (.tuple #[.int .i64 (checkP xs).1, .int .i64 (checkP xs).2]) ∧ Below w.heap.size w w' := by
  obtain ⟨k, hk⟩ := Ev.rounds (refchk_ev xs)
  exact tabularyref11_Check.calls k A c xs _ _ w hr hc hk
end Go.Proofs.YthpecpkncifngaaDoor.X
end

/- The contracts of tree.Beneath, tree.checked, tree.Without. -/
section
namespace Go.Proofs.YthpecpkncifngaaDoor.X
open Go.RowKit Go.Shelf Go.Proofs.YthpecpkncifngaaDoor Go.Proofs.YthpecpkncifngaaDoorW.PrintWords Go.Proofs.YthpecpkncifngaaDoorW.PrintLast Go.Proofs.YthpecpkncifngaaDoorW.PrintMore Go.Proofs.YthpecpkncifngaaDoor.Pure
set_option linter.unusedVariables false
set_option linter.unusedSimpArgs false

theorem ben_any (a p : ByteArray) (w : World) :
    Calls Tryd.prog 48 #[.string a, .string p] w fun e w' => e = .returned (.bool (ben a.data.toList p.data.toList)) ∧ Below w.heap.size w w' :=
  name_Beneath.calls a p _ w (nbeneath a p)
theorem checked_any (A : Option Addr) (c : Nat) (xs : List S26) (w : World) (hr : Kd.C k26 w A xs.length xs) :
    Calls Tryd.prog 45 #[.slice A xs.length c] w fun e w' => e = .returned (if (checkP xs).2 = 0 then .tuple #[.slice A xs.length c, .int .i64 0] else .tuple #[.slice none 0 0, .int .i64 (checkP xs).2]) ∧ Below w.heap.size w w' := by
  have HR := Aside0.mk hr
  clear hr
  by_cases h : (checkP xs).2 = 0
  · have hd : ((checkP xs).2 != 0) = false := by simpa using h
    rw [if_pos h]
    have H := Lib.hid h
    clear h
    go_enter Tryd.func45, Tryd.ntmps45
    go_wp2_with fail
    refine (check_tree A c xs _ HR.out).mono ?_
    rintro e w1 ⟨rfl, hb⟩
    go_wp2
    go_ret2
    exact ⟨rfl, hb⟩
  · have hd : ((checkP xs).2 != 0) = true := by simpa using h
    rw [if_neg h]
    have H := Lib.hid h
    clear h
    go_enter Tryd.func45, Tryd.ntmps45
    go_wp2_with fail
    refine (check_tree A c xs _ HR.out).mono ?_
    rintro e w1 ⟨rfl, hb⟩
    go_wp2
    go_ret2
    exact ⟨rfl, hb⟩

noncomputable def outP (path : ByteArray) (x : S26) : Bool := (x.f0.toList != path.toList) && !ben path.data.toList x.f0.data.toList
theorem without1_tells (path : ByteArray) (B : Nat) (w : World) (hc : w.cell? ⟨B, 0, none⟩ = some (.string path)) : Tells 47 #[.pointer (some ⟨B, 0, none⟩)] (outP path) w := by
  intro W x A4 c4 hB hl hr
  have hb := World.block_lt_of_cell? w _ hc
  have hc' := (hB.cell hb).trans hc
  have hbW : B < W.heap.size := Nat.lt_of_lt_of_le hb hB.size
  clear hc
  unfold cellsIt
  by_cases h : (x.f0.toList != path.toList) = true
  · have H := Lib.hid (show outP path x = !ben path.data.toList x.f0.data.toList by unfold outP; rw [h]; rfl)
    have he : (x.f0.toList == path.toList) = false := by simpa using h
    have hp : ¬ (x.f0.toList = path.toList) := by simpa using h
    clear h
    go_enter Tryd.func47, Tryd.ntmps47
    go_wp2_with fail
    refine (ben_any _ _ _).mono ?_
    rintro e w1 ⟨rfl, h1⟩
    go_wp2
    go_ret
    exact ⟨by rw [H.out]; rfl, ((Below.refl _ W).alloc (Nat.le_refl _) _).trans (h1.mono (by simp))⟩
  · have h' : (x.f0.toList != path.toList) = false := by simpa using h
    have H := Lib.hid (show outP path x = false by unfold outP; rw [h']; rfl)
    have he : (x.f0.toList == path.toList) = true := by simpa using h
    have hp : x.f0.toList = path.toList := by simpa using h
    clear h h'
    go_enter Tryd.func47, Tryd.ntmps47
    go_wp2
    go_ret
    exact ⟨by rw [H.out]; rfl, (Below.refl _ W).alloc (Nat.le_refl _) _⟩
/-- What tree.Without tells. -/
noncomputable def withoutP (xs : List S26) (path : ByteArray) : List S26 × Int :=
  if (checkP xs).2 ≠ 0 then ([], (checkP xs).2) else if (findP xs path).2 ≠ 0 then ([], (findP xs path).2) else
  if (checkP (keepP (outP path) xs xs.length)).2 = 0 then (keepP (outP path) xs xs.length, 0) else ([], (checkP (keepP (outP path) xs xs.length)).2)
theorem without_any (A : Option Addr) (c : Nat) (xs : List S26) (path : ByteArray) (w : World) (hr : Kd.C k26 w A xs.length xs) (hm : xs.length * 80 ≤ 140737488351232) (hb4 : ∀ x ∈ xs, x.f4.length ≤ 140737488355328) :
    Calls Tryd.prog 18 #[.slice A xs.length c, .string path] w fun e w' => (∃ v, e = .returned (.tuple #[v, .int .i64 (withoutP xs path).2]) ∧ Kd.V k26 26 w' w.heap.size (fun k => w.heap.size ≤ k) v (withoutP xs path).1) ∧ Below w.heap.size w w' := by
  have HR := Aside0.mk hr
  have H4 := Aside0.mk hb4
  clear hr hb4
  have hB0 : Below w.heap.size w (w.alloc (.cells #[.string path] 9)) := (Below.refl _ w).alloc (Nat.le_refl _) _
  have hcell : (w.alloc (.cells #[.string path] 9)).cell? ⟨w.heap.size, 0, none⟩ = some (.string path) := (cell_new_l w (.string path) 9).1
  have HC := Aside0.mk hcell
  clear hcell
  have hm' : xs.length ≤ 140737488355328 := by omega
  by_cases h1 : (checkP xs).2 = 0
  case neg =>
    have H := Lib.hid (show withoutP xs path = ([], (checkP xs).2) by unfold withoutP; rw [if_pos h1])
    have hd : ((checkP xs).2 != 0) = true := by simpa using h1
    rw [H.out]
    clear h1
    go_enter Tryd.func18, Tryd.ntmps18
    go_wp2_with fail
    refine (check_tree A c xs _ (Kd.C_below HR.out hB0)).mono ?_
    rintro e w1 ⟨rfl, hb⟩
    go_wp2
    go_ret2
    exact ⟨⟨_, rfl, Kd.V_nil _ _ _ _ _⟩, hB0.trans (hb.mono hB0.size)⟩
  have hd : ((checkP xs).2 != 0) = false := by simpa using h1
  by_cases h2 : (findP xs path).2 = 0
  case neg =>
    have H := Lib.hid (show withoutP xs path = ([], (findP xs path).2) by unfold withoutP; rw [if_neg (by simpa using h1), if_pos h2])
    have hd2 : ((findP xs path).2 != 0) = true := by simpa using h2
    rw [H.out]
    clear h1 h2
    go_enter Tryd.func18, Tryd.ntmps18
    go_wp2_with fail
    refine (check_tree A c xs _ (Kd.C_below HR.out hB0)).mono ?_
    rintro e w1 ⟨rfl, hb⟩
    have HB1 := Aside0.mk (hB0.trans (hb.mono hB0.size))
    have hcell := (hb.cell (p := ⟨w.heap.size, 0, none⟩) (by simp)).trans HC.out
    clear hb
    go_wp2_with fail
    refine (find_any A c xs path _ (Kd.C_below HR.out HB1.out) hm').mono ?_
    rintro e w2 ⟨rfl, hb⟩
    go_wp2
    go_ret2
    exact ⟨⟨_, rfl, Kd.V_nil _ _ _ _ _⟩, HB1.out.trans (hb.mono HB1.out.size)⟩
  have hd2 : ((findP xs path).2 != 0) = false := by simpa using h2
  have H := Lib.hid (show withoutP xs path = if (checkP (keepP (outP path) xs xs.length)).2 = 0 then (keepP (outP path) xs xs.length, 0) else ([], (checkP (keepP (outP path) xs xs.length)).2) by unfold withoutP; rw [if_neg (by simpa using h1), if_neg (by simpa using h2)])
  by_cases h3 : (checkP (keepP (outP path) xs xs.length)).2 = 0
  · rw [H.out, if_pos h3]
    have H3 := Lib.hid h3
    clear h1 h2 h3
    go_enter Tryd.func18, Tryd.ntmps18
    go_wp2_with fail
    refine (check_tree A c xs _ (Kd.C_below HR.out hB0)).mono ?_
    rintro e w1 ⟨rfl, hb⟩
    have HB1 := Aside0.mk (hB0.trans (hb.mono hB0.size))
    have hcell := (hb.cell (p := ⟨w.heap.size, 0, none⟩) (by simp)).trans HC.out
    have hlt1 : w.heap.size < w1.heap.size := Nat.lt_of_lt_of_le (by simp) hb.size
    clear hb
    go_wp2_with fail
    refine (find_any A c xs path _ (Kd.C_below HR.out HB1.out) hm').mono ?_
    rintro e w2 ⟨rfl, hb⟩
    have HB2 := Aside0.mk (HB1.out.trans (hb.mono HB1.out.size))
    have HC2 := Aside0.mk ((hb.cell (p := ⟨w.heap.size, 0, none⟩) hlt1).trans hcell)
    clear hb hcell
    go_wp2_with fail
    refine (some_any 47 _ _ A c xs _ (Kd.C_below HR.out HB2.out) hm H4.out (fun args W => by kernel_rfl) (without1_tells path w.heap.size _ HC2.out)).mono ?_
    rintro e w3 ⟨⟨v, rfl, hV⟩, hb⟩
    have HB3 := Aside0.mk (HB2.out.trans (hb.mono HB2.out.size))
    have HV := Aside0.mk (Kd.V_mono hV (fun k h => Nat.le_trans HB2.out.size h))
    clear hV hb HC2 hlt1
    obtain ⟨A', c', rfl⟩ := Kd.V_slice HV.out
    go_wp2_with fail
    refine (checked_any A' c' (keepP (outP path) xs xs.length) _ (Kd.V_reads' HV.out).2.2).mono ?_
    rw [if_pos H3.out]
    rintro e w4 ⟨rfl, hb⟩
    go_wp2
    go_ret2
    exact ⟨⟨_, rfl, Kd.V_below HV.out hb⟩, HB3.out.trans (hb.mono HB3.out.size)⟩
  · rw [H.out, if_neg h3]
    have H3 := Lib.hid h3
    clear h1 h2 h3
    go_enter Tryd.func18, Tryd.ntmps18
    go_wp2_with fail
    refine (check_tree A c xs _ (Kd.C_below HR.out hB0)).mono ?_
    rintro e w1 ⟨rfl, hb⟩
    have HB1 := Aside0.mk (hB0.trans (hb.mono hB0.size))
    have hcell := (hb.cell (p := ⟨w.heap.size, 0, none⟩) (by simp)).trans HC.out
    have hlt1 : w.heap.size < w1.heap.size := Nat.lt_of_lt_of_le (by simp) hb.size
    clear hb
    go_wp2_with fail
    refine (find_any A c xs path _ (Kd.C_below HR.out HB1.out) hm').mono ?_
    rintro e w2 ⟨rfl, hb⟩
    have HB2 := Aside0.mk (HB1.out.trans (hb.mono HB1.out.size))
    have HC2 := Aside0.mk ((hb.cell (p := ⟨w.heap.size, 0, none⟩) hlt1).trans hcell)
    clear hb hcell
    go_wp2_with fail
    refine (some_any 47 _ _ A c xs _ (Kd.C_below HR.out HB2.out) hm H4.out (fun args W => by kernel_rfl) (without1_tells path w.heap.size _ HC2.out)).mono ?_
    rintro e w3 ⟨⟨v, rfl, hV⟩, hb⟩
    have HB3 := Aside0.mk (HB2.out.trans (hb.mono HB2.out.size))
    have HV := Aside0.mk (Kd.V_mono hV (fun k h => Nat.le_trans HB2.out.size h))
    clear hV hb HC2 hlt1
    obtain ⟨A', c', rfl⟩ := Kd.V_slice HV.out
    go_wp2_with fail
    refine (checked_any A' c' (keepP (outP path) xs xs.length) _ (Kd.V_reads' HV.out).2.2).mono ?_
    rw [if_neg H3.out]
    rintro e w4 ⟨rfl, hb⟩
    go_wp2
    go_ret2
    exact ⟨⟨_, rfl, Kd.V_nil _ _ _ _ _⟩, HB3.out.trans (hb.mono HB3.out.size)⟩
end Go.Proofs.YthpecpkncifngaaDoor.X
end

/- TreeWithout: the reference's Find and Without, and the law's walk. -/
section
namespace Go.Proofs.YthpecpkncifngaaDoor.X
open Go.RowKit Go.Shelf Go.Proofs.YthpecpkncifngaaDoor Go.Proofs.YthpecpkncifngaaDoorW.PrintWords Go.Proofs.YthpecpkncifngaaDoorW.PrintLast Go.Proofs.YthpecpkncifngaaDoorW.PrintMore Go.Proofs.YthpecpkncifngaaDoor.Pure
set_option linter.unusedVariables false
set_option linter.unusedSimpArgs false

theorem reffind_l0 (xs : List S26) (path : ByteArray) (hm : xs.length ≤ 140737488355328) (d : Nat) : ∀ i : Nat, i ≤ xs.length → xs.length - i = d →
    Ev (fun k => tabularyref11_Find.l0 k xs path (i : Int)) (if idxP (fun x => x.f0.toList == path.toList) xs i < 0 then (0, 4) else (idxP (fun x => x.f0.toList == path.toList) xs i, 0)) := by
  induction d with
  | zero =>
    intro i hi hd
    rw [idxP_end (by omega), if_pos (by decide)]
    exact Ev.step (fun k => by simp only [tabularyref11_Find.l0]; rw [if_neg (by omega)]) (Ev.now _)
  | succ d ih =>
    intro i hi hd
    have hlt : i < xs.length := by omega
    by_cases h : ((rd_T26 xs i).f0.toList == path.toList) = true
    · rw [idxP_yes hlt h, if_neg (by omega)]
      exact Ev.step (fun k => by simp only [tabularyref11_Find.l0]; rw [if_pos (by omega), if_pos (by omega), if_pos (by simpa using h)]) (Ev.now _)
    · have h' : ((rd_T26 xs i).f0.toList == path.toList) = false := by simpa using h
      have hw : wrap64 ((i : Int) + 1) = ((i + 1 : Nat) : Int) := wrap_succ (by omega)
      rw [idxP_no (p := fun x => x.f0.toList == path.toList) hlt h']
      exact Ev.step (fun k => by simp only [tabularyref11_Find.l0]; rw [if_pos (by omega), if_pos (by omega), if_neg (by simpa using h), hw]) (ih (i + 1) (by omega) (by omega))
theorem reffind_ev (xs : List S26) (path : ByteArray) (hm : xs.length ≤ 140737488355328) : Ev (fun k => tabularyref11_Find.f k xs path) (findP xs path) :=
  Ev.congr (fun k => rfl) (reffind_l0 xs path hm _ 0 (Nat.zero_le _) rfl)
theorem reffind_any (A : Option Addr) (c : Nat) (xs : List S26) (path : ByteArray) (w : World) (hr : Kd.C k26 w A xs.length xs) (hc : xs.length ≤ c) (hm : xs.length ≤ 140737488355328) :
    Calls Tryd.prog 49 #[.slice A xs.length c, .string path] w fun e w' => e = .returned (.tuple #[.int .i64 (findP xs path).1, .int .i64 (findP xs path).2]) ∧ Below w.heap.size w w' := by
  obtain ⟨k, hk⟩ := Ev.rounds (reffind_ev xs path hm)
  refine (tabularyref11_Find.calls k A c xs path (findP xs path).1 (findP xs path).2 w hr hc hk).mono ?_
  rintro e w1 ⟨rfl, hd⟩
  exact ⟨rfl, hd.below⟩
/-- An item of a list that came in, with its body's footprint. -/
theorem at_itF {w W : World} {A : Option Addr} {n : Nat} {xs : List S26} (h : Kd.C k26 w A n xs) (hb : Below w.heap.size w W) (i : Nat) (h1 : i < n) :
    ∃ ad A4 c4, A = some ad ∧ W.cell? (ad.add (i * 6)) = some (.string (rd_T26 xs i).f0) ∧ W.cell? ⟨(ad.add (i * 6)).block, (ad.add (i * 6)).off + 1, none⟩ = some (.int .u8 (rd_T26 xs i).f1) ∧ W.cell? ⟨(ad.add (i * 6)).block, (ad.add (i * 6)).off + 2, none⟩ = some (.int .i64 (rd_T26 xs i).f2) ∧ W.cell? ⟨(ad.add (i * 6)).block, (ad.add (i * 6)).off + 3, none⟩ = some (.int .i64 (rd_T26 xs i).f3) ∧ W.cell? ⟨(ad.add (i * 6)).block, (ad.add (i * 6)).off + 4, none⟩ = some (.slice A4 (rd_T26 xs i).f4.length c4) ∧ W.cell? ⟨(ad.add (i * 6)).block, (ad.add (i * 6)).off + 5, none⟩ = some (.string (rd_T26 xs i).f5) ∧ (rd_T26 xs i).f4.length ≤ c4 ∧ Kd.F (Kd.int .u8) W (fun k => k < w.heap.size) A4 (rd_T26 xs i).f4.length (rd_T26 xs i).f4 := by
  obtain ⟨ad, A4, c4, e, h0, h1', h2, h3, h4, h5, hl, hr⟩ := at_it h (Below.refl _ w) i h1
  have st : ∀ {a : Addr} {v : Value}, w.cell? a = some v → W.cell? a = some v := fun {a v} hv => (hb.cell (World.block_lt_of_cell? w _ hv)).trans hv
  exact ⟨ad, A4, c4, e, st h0, st h1', st h2, st h3, st h4, st h5, hl, Kd.F_below (Kd.C_F (Kd.heap_int _) hr) hb⟩
theorem refben_any (a p : ByteArray) (w : World) :
    Calls Tryd.prog 50 #[.string a, .string p] w fun e w' => e = .returned (.bool (ben a.data.toList p.data.toList)) ∧ Below w.heap.size w w' := by
  obtain ⟨k, hk⟩ := Ev.rounds (refbeneath_ev a p)
  exact tabularyref08_Beneath.calls k a p _ w hk

set_option maxRecDepth 100000 in
set_option maxHeartbeats 4000000 in
theorem refwithout_any (A : Option Addr) (c : Nat) (xs : List S26) (path : ByteArray) (w : World) (hr : Kd.C k26 w A xs.length xs) (hc : xs.length ≤ c) (hm : xs.length * 80 ≤ 140737488351232) :
    Calls Tryd.prog 19 #[.slice A xs.length c, .string path] w fun e w' => (∃ A' c', e = .returned (.tuple #[.slice A' (withoutP xs path).1.length c', .int .i64 (withoutP xs path).2]) ∧ (withoutP xs path).1.length ≤ c' ∧ Kd.C k26 w' A' (withoutP xs path).1.length (withoutP xs path).1) ∧ Below w.heap.size w w' := by
  have HR := Aside0.mk hr
  clear hr
  have hm' : xs.length ≤ 140737488355328 := by omega
  by_cases h1 : (checkP xs).2 = 0
  case neg =>
    have H := Lib.hid (show withoutP xs path = ([], (checkP xs).2) by unfold withoutP; rw [if_pos h1])
    have hd : ((checkP xs).2 != 0) = true := by simpa using h1
    rw [H.out]
    clear h1
    go_enter Tryd.func19, Tryd.ntmps19
    go_wp2_with fail
    refine (refcheck_any A c xs _ HR.out hc).mono ?_
    rintro e w1 ⟨rfl, hb⟩
    go_wp2
    go_ret2
    exact ⟨⟨none, 0, rfl, Nat.zero_le _, Kd.C_nil _ _⟩, hb⟩
  have hd : ((checkP xs).2 != 0) = false := by simpa using h1
  by_cases h2 : (findP xs path).2 = 0
  case neg =>
    have H := Lib.hid (show withoutP xs path = ([], (findP xs path).2) by unfold withoutP; rw [if_neg (by simpa using h1), if_pos h2])
    have hd2 : ((findP xs path).2 != 0) = true := by simpa using h2
    rw [H.out]
    clear h1 h2
    go_enter Tryd.func19, Tryd.ntmps19
    go_wp2_with fail
    refine (refcheck_any A c xs _ HR.out hc).mono ?_
    rintro e w1 ⟨rfl, hb⟩
    have HB1 := Aside0.mk hb
    clear hb
    go_wp2_with fail
    refine (reffind_any A c xs path _ (Kd.C_below HR.out HB1.out) hc hm').mono ?_
    rintro e w2 ⟨rfl, hb⟩
    go_wp2
    go_ret2
    exact ⟨⟨none, 0, rfl, Nat.zero_le _, Kd.C_nil _ _⟩, HB1.out.trans (hb.mono HB1.out.size)⟩
  have hd2 : ((findP xs path).2 != 0) = false := by simpa using h2
  have H := Lib.hid (show withoutP xs path = if (checkP (keepP (outP path) xs xs.length)).2 = 0 then (keepP (outP path) xs xs.length, 0) else ([], (checkP (keepP (outP path) xs xs.length)).2) by unfold withoutP; rw [if_neg (by simpa using h1), if_neg (by simpa using h2)])
  clear h1 h2
  go_enter Tryd.func19, Tryd.ntmps19
  go_wp2_with fail
  refine (refcheck_any A c xs _ HR.out hc).mono ?_
  rintro e w1 ⟨rfl, hb⟩
  have HB1 := Aside0.mk hb
  clear hb
  go_wp2_with fail
  refine (reffind_any A c xs path _ (Kd.C_below HR.out HB1.out) hc hm').mono ?_
  rintro e w2 ⟨rfl, hb⟩
  have HB2 := Aside0.mk (HB1.out.trans (hb.mono HB1.out.size))
  clear hb HB1
  go_wp2
  go_loopw [8, 9] (fun v i wr => ∃ k : Nat, k ≤ xs.length ∧ i = .int .i64 k ∧ Aside0 (Below w.heap.size w wr) ∧ Aside0 (Kd.N k26 26 wr w.heap.size (fun _ => True) v (keepP (outP path) xs k))) (fun _ i _ => xs.length - (intOf i).toNat)
  case atStart => exact ⟨0, Nat.zero_le _, rfl, HB2, ⟨Kd.N_nil _ _ _ _ _⟩⟩
  case round =>
    obtain ⟨k, hk, rfl, hB, hN⟩ := hrel
    by_cases hlt : k < xs.length
    · obtain ⟨ad, A4, c4, rfl, h0, h1, h2, h3, h4, h5, hl, hr4⟩ := at_it HR.out hB.out k hlt
      have HR4 := Aside0.mk hr4
      clear hr4
      have take : outP path (rd_T26 xs k) = true → keepP (outP path) xs (k + 1) = keepP (outP path) xs k ++ [rd_T26 xs k] := fun h => by rw [keepP, if_pos h]
      have leave : outP path (rd_T26 xs k) = false → keepP (outP path) xs (k + 1) = keepP (outP path) xs k := fun h => by rw [keepP, if_neg (by simp [h])]
      by_cases h : ((rd_T26 xs k).f0.toList != path.toList) = true
      · have HO := Lib.hid (show outP path (rd_T26 xs k) = !ben path.data.toList (rd_T26 xs k).f0.data.toList by unfold outP; rw [h]; rfl)
        have he : ((rd_T26 xs k).f0.toList == path.toList) = false := by simpa using h
        have hp : ¬ ((rd_T26 xs k).f0.toList = path.toList) := by simpa using h
        clear h
        by_cases hbn : ben path.data.toList (rd_T26 xs k).f0.data.toList = true
        · have HS := Lib.hid (leave (by rw [HO.out, hbn]; rfl))
          have HBn := Lib.hid hbn
          clear hbn take leave
          go_wp2_with fail
          refine (refben_any _ _ _).mono ?_
          rw [HBn.out]
          rintro e w3 ⟨rfl, hb⟩
          have HB3 := Aside0.mk (hB.out.trans (hb.mono hB.out.size))
          have hN3 := Kd.N_below hN.out hb
          rw [← HS.out] at hN3
          have HN3 := Aside0.mk hN3
          clear hN3 hb
          go_wp2
          go_roundw
          case rel => exact ⟨k + 1, by omega, by go_num, HB3, HN3⟩
          case measure => simp [intOf]; omega
        · have hbn' : ben path.data.toList (rd_T26 xs k).f0.data.toList = false := by simpa using hbn
          have HS := Lib.hid (take (by rw [HO.out, hbn']; rfl))
          have HBn := Lib.hid hbn'
          clear hbn hbn' take leave
          go_wp2_with fail
          refine (refben_any _ _ _).mono ?_
          rw [HBn.out]
          rintro e w3 ⟨rfl, hb⟩
          obtain ⟨ad', A4', c4', ea, g0, g1, g2, g3, g4, g5, gl, gr4⟩ := at_itF HR.out (hB.out.trans (hb.mono hB.out.size)) k hlt
          cases ea
          have HB3 := Aside0.mk (hB.out.trans (hb.mono hB.out.size))
          have HN3 := Aside0.mk (Kd.N_below hN.out hb)
          have GR4 := Aside0.mk gr4
          have hkl := keepP_len (outP path) xs k
          clear hb h0 h1 h2 h3 h4 h5 gr4
          go_wp2_with ((with_reducible refine gate_builtin (b := .append) (xs := #[.tmp 50, .tmp 55]) rfl ?_); at_builtin; refine Kd.N_append k26 (w0 := w) w.heap.size rfl (.tmp 50) (.tmp 55) 22 26 (.agg #[.string ⟨#[]⟩, .int .u8 0, .int .i64 0, .int .i64 0, .slice none 0 0, .string ⟨#[]⟩]) 80 rfl Tryd.underlying22 info26 rfl (by decide) (by decide) _ (keepP (outP path) xs k) (rd_T26 xs k) [.string (rd_T26 xs k).f0, .int .u8 (rd_T26 xs k).f1, .int .i64 (rd_T26 xs k).f2, .int .i64 (rd_T26 xs k).f3, .slice A4' (rd_T26 xs k).f4.length c4', .string (rd_T26 xs k).f5] (fun _ => True) (fun k_ => k_ < w.heap.size) rfl rfl (k26_mkF _ _ _ gl GR4.out) (fun k_ h => ⟨trivial, fun e => by have := Kd.N_base HN3.out k_ e.symm; omega⟩) (fun _ _ => trivial) HN3.out HB3.out HB3.out.size (by omega) ?_)
          intro v1 w4 hN4 hB4 hg hat
          rw [← HS.out] at hN4
          have HN4 := Aside0.mk hN4
          have HB4 := Aside0.mk hB4
          clear hN4 hB4 hg hat hkl
          go_wp2
          go_roundw
          case rel => exact ⟨k + 1, by omega, by go_num, HB4, HN4⟩
          case measure => simp [intOf]; omega
      · have h' : ((rd_T26 xs k).f0.toList != path.toList) = false := by simpa using h
        have he : ((rd_T26 xs k).f0.toList == path.toList) = true := by simpa using h
        have hp : (rd_T26 xs k).f0.toList = path.toList := by simpa using h
        have hN3 := hN.out
        rw [← leave (by unfold outP; rw [h']; rfl)] at hN3
        have HN3 := Aside0.mk hN3
        clear h h' hN3 take leave
        go_wp2
        go_roundw
        case rel => exact ⟨k + 1, by omega, by go_num, hB, HN3⟩
        case measure => simp [intOf]; omega
    · obtain rfl : k = xs.length := by omega
      obtain ⟨A', c', rfl, hc', hcm'⟩ := N_cap hN.out
      have HC := Aside0.mk (Kd.N_reads' hN.out)
      by_cases h3 : (checkP (keepP (outP path) xs xs.length)).2 = 0
      · have hd3 : ((checkP (keepP (outP path) xs xs.length)).2 != 0) = false := by simpa using h3
        rw [if_pos h3] at H
        clear h3
        go_wp2_with fail
        refine (refcheck_any A' c' (keepP (outP path) xs xs.length) _ HC.out.2.2 hc').mono ?_
        rintro e w4 ⟨rfl, hb⟩
        go_wp2
        go_ret2
        exact ⟨by rw [H.out]; exact ⟨A', c', rfl, hc', Kd.C_below HC.out.2.2 hb⟩, hB.out.trans (hb.mono hB.out.size)⟩
      · have hd3 : ((checkP (keepP (outP path) xs xs.length)).2 != 0) = true := by simpa using h3
        rw [if_neg h3] at H
        clear h3
        go_wp2_with fail
        refine (refcheck_any A' c' (keepP (outP path) xs xs.length) _ HC.out.2.2 hc').mono ?_
        rintro e w4 ⟨rfl, hb⟩
        go_wp2
        go_ret2
        exact ⟨by rw [H.out]; exact ⟨none, 0, rfl, Nat.zero_le _, Kd.C_nil _ _⟩, hB.out.trans (hb.mono hB.out.size)⟩
theorem withoutP_len (xs : List S26) (path : ByteArray) : (withoutP xs path).1.length ≤ xs.length := by
  unfold withoutP
  split
  · exact Nat.zero_le _
  · split
    · exact Nat.zero_le _
    · split
      · exact keepP_len _ _ _
      · exact Nat.zero_le _
set_option maxRecDepth 100000 in
set_option maxHeartbeats 4000000 in
theorem treeWithout_walk (A : Option Addr) (c : Nat) (xs : List S26) (path : ByteArray) (w : World) (hr : Kd.C k26 w A xs.length xs) (hc : xs.length ≤ c) (hm : xs.length * 80 ≤ 140737488351232) (hb4 : ∀ x ∈ xs, x.f4.length ≤ 140737488351232) :
    Calls Tryd.prog 4 #[.slice A xs.length c, .string path] w fun e w' => e = .returned (.bool true) ∧ Below w.heap.size w w' := by
  have HR := Aside0.mk hr
  have H4 := Aside0.mk hb4
  clear hr hb4
  go_enter Tryd.func4, Tryd.ntmps4
  go_wp2_with fail
  refine (lent_any A c xs _ HR.out hm H4.out).mono ?_
  rintro e w1 ⟨⟨A', c', rfl, hc', hcm', hL⟩, hb⟩
  have HB1 := Aside0.mk hb
  have HL1 := Aside0.mk hL
  clear hb hL
  go_wp2_with fail
  refine (without_any A' c' xs path _ (lent_reads HL1.out) hm (fun x hx => Nat.le_trans (H4.out x hx) (by decide))).mono ?_
  rintro e w2 ⟨⟨v, rfl, hV⟩, hb⟩
  obtain ⟨A2, c2, rfl⟩ := Kd.V_slice hV
  have hV' := Kd.V_reads' hV
  have HB2 := Aside0.mk (HB1.out.trans (hb.mono HB1.out.size))
  have HL2 := Aside0.mk (Kd.C_below HL1.out hb)
  have HV2 := Aside0.mk hV'.2.2
  have hcl2 := hV'.2.1
  clear hb HB1 HL1 hV hV'
  go_wp2_with fail
  refine (refwithout_any A c xs path _ (Kd.C_below HR.out HB2.out) hc hm).mono ?_
  rintro e w3 ⟨⟨A3, c3, rfl, hcl3, hC3⟩, hb⟩
  have HB3 := Aside0.mk (HB2.out.trans (hb.mono HB2.out.size))
  have HL3 := Aside0.mk (Kd.C_below HL2.out hb)
  have HV3 := Aside0.mk (Kd.C_below HV2.out hb)
  have HW3 := Aside0.mk hC3
  clear hb HB2 HL2 HV2 hC3
  have e2 : ((withoutP xs path).2 == (withoutP xs path).2) = true := beq_self_eq_true _
  have hwl : (withoutP xs path).1.length ≤ 140737488355328 := Nat.le_trans (withoutP_len xs path) (by omega)
  go_wp2_with fail
  refine (same_any A2 c2 A3 c3 (withoutP xs path).1 _ HV3.out hcl2 HW3.out hcl3 hwl).mono ?_
  rintro e w4 ⟨rfl, hb⟩
  have HB4 := Aside0.mk (HB3.out.trans (hb.mono HB3.out.size))
  have HL4 := Aside0.mk (Kd.C_below HL3.out hb)
  clear hb
  go_wp2_with fail
  refine (kept_any A' c' A c xs _ HL4.out hc' hcm' (Kd.C_below HR.out HB4.out) hc (by omega)).mono ?_
  rintro e w5 ⟨rfl, hb⟩
  go_wp2
  go_ret
  exact ⟨rfl, HB4.out.trans (hb.mono HB4.out.size)⟩
end Go.Proofs.YthpecpkncifngaaDoor.X
end

/- Arguments laid open by their kinds: what a reading of an argument says of its cells, kind by kind; and that no part of it is greater than the reach. -/
section
namespace Go.Proofs.YthpecpkncifngaaDoor.Op2
open Go.RowKit Go.Proofs.YthpecpkncifngaaDoorW.PrintWords
set_option linter.unusedVariables false
set_option linter.unusedSimpArgs false

section
variable {H : Type} (enc : TypeId × Value → H) (P : Program) (W : World) (base : Nat) (spare : Nat → Bool) (held : Bool)
/-- What is read at type t is of the kind d; G holds of it, if no part weighs more than the reach. -/
def Opens {α : Type} (t : TypeId) (d : Kd α) (G : α → Prop) : Prop :=
  ∀ (fuel : Nat) (cs : List Value) (x : DataW H × List MemPlace), DataW.trod enc P W base spare held fuel t cs = some x → (∀ n ∈ x.1.weights P t, n ≤ reachBytes) → ∃ y, d.K W y cs ∧ G y
variable {enc P W base spare held}
theorem opens_int {t : TypeId} {k : IntKind} (ht : P.underlying t = some (.int k)) : Opens enc P W base spare held t (Kd.int k) (fun n => (Lit.int k n).wf = true) := by
  intro fuel cs x h _
  obtain ⟨n, rfl, rfl, hw⟩ := DataW.trod_int ht h
  exact ⟨n, rfl, hw⟩
theorem opens_string {t : TypeId} (ht : P.underlying t = some .string) : Opens enc P W base spare held t Kd.string (fun s => s.size ≤ 140737488351232) := by
  intro fuel cs x h hw
  obtain ⟨s, rfl, rfl, hs⟩ := DataW.trod_string ht h
  refine ⟨s, rfl, ?_⟩
  have := hw s.data.toList.length (by simp [DataW.weights])
  rw [Array.length_toList] at this
  exact this
theorem weightsAll_mem {e : TypeId} : ∀ {l : List (DataW H)} {d : DataW H} {n : Nat}, d ∈ l → n ∈ d.weights P e → n ∈ DataW.weightsAll P e l
  | x :: r, d, n, hd, hn => by
    rw [DataW.weightsAll]
    rcases List.mem_cons.1 hd with rfl | hd
    · exact List.mem_append_left _ hn
    · exact List.mem_append_right _ (weightsAll_mem hd hn)
theorem weightsEach_mem : ∀ {ts : List TypeId} {l : List (DataW H)} {j : Nat} {t : TypeId} {d : DataW H} {n : Nat}, ts[j]? = some t → l[j]? = some d → n ∈ d.weights P t → n ∈ DataW.weightsEach P ts l
  | t :: ts, x :: r, 0, _, _, n, h1, h2, hn => by
    simp at h1 h2
    subst h1; subst h2
    rw [DataW.weightsEach]
    exact List.mem_append_left _ hn
  | t :: ts, x :: r, j + 1, _, _, n, h1, h2, hn => by
    rw [DataW.weightsEach]
    exact List.mem_append_right _ (weightsEach_mem (by simpa using h1) (by simpa using h2) hn)
  | [], _, _, _, _, _, h1, _, _ => by simp at h1
  | _ :: _, [], _, _, _, _, _, h2, _ => by simp at h2
theorem choose_list {α β : Type} {R : Nat → α → β → Prop} : ∀ (l : List α), (∀ i a, l[i]? = some a → ∃ b, R i a b) → ∃ m : List β, m.length = l.length ∧ ∀ i a b, l[i]? = some a → m[i]? = some b → R i a b
  | [], _ => ⟨[], rfl, by simp⟩
  | a :: r, h => by
    obtain ⟨b, hb⟩ := h 0 a rfl
    obtain ⟨m, hm, hr⟩ := choose_list (R := fun i => R (i + 1)) r (fun i x hx => h (i + 1) x (by simpa using hx))
    refine ⟨b :: m, by simp [hm], fun i x y hx hy => ?_⟩
    cases i with
    | zero =>
      simp at hx hy
      subst hx; subst hy
      exact hb
    | succ i => exact hr i x y (by simpa using hx) (by simpa using hy)
theorem cells_all {a : Addr} {n : Nat} {cs : List Value} (h : W.cells? base a n = some cs) : cs.length = n ∧ ∀ i u, cs[i]? = some u → W.cell? (a.add i) = some u := by
  obtain ⟨h1, h2, h3⟩ := World.cells?_some h
  refine ⟨h2, fun i u hu => ?_⟩
  have hi : i < n := by rw [← h2]; exact (List.getElem?_eq_some_iff.1 hu).1
  rw [h3 i hi]; exact hu
theorem opens_slice {t e : TypeId} {α : Type} {d : Kd α} {G : α → Prop} {b : Nat} (ht : P.underlying t = some (.slice e)) (hc : P.cellsOf e = d.sz) (hb : P.bytesOf e = b) (he : Opens enc P W base spare held e d G) :
    Opens enc P W base spare held t (Kd.slice e d) (fun xs => xs.length * b ≤ 140737488351232 ∧ xs.length ≤ 9223372036854775807 ∧ ∀ x ∈ xs, G x) := by
  intro fuel cs x h hw
  rcases DataW.trod_slice ht h with ⟨rfl, rfl⟩ | ⟨a, len, cap, elems, rest, n, _, rfl, rfl, hbs, hl, hm, hlen, hel, _, _⟩
  · exact ⟨[], ⟨none, 0, rfl, Nat.le_refl _, Kd.C_nil _ _⟩, by simp, by simp, by simp⟩
  · simp only [DataW.weights, ht] at hw
    have h1 := hw ((List.map (·.1) elems).length + (List.map (·.1) rest).length |> (· * P.bytesOf e)) List.mem_cons_self
    have each : ∀ i y, elems[i]? = some y → ∃ z, (∃ c, c.length = d.sz ∧ d.K W z c ∧ ∀ j u, c[j]? = some u → W.cell? (a.add (i * d.sz + j)) = some u) ∧ G z := by
      intro i y hy
      have hi : i < len := by rw [← hlen]; exact (List.getElem?_eq_some_iff.1 hy).1
      have hq := hel i hi
      rw [hy, Option.bind_eq_some_iff] at hq
      obtain ⟨c, hcs, hy'⟩ := hq
      obtain ⟨z, hz, hg⟩ := he n c y hy' (fun m hm' => hw m (List.mem_cons_of_mem _ (List.mem_append_left _ (weightsAll_mem (List.mem_map.2 ⟨y, List.mem_of_getElem? hy, rfl⟩) hm'))))
      rw [hc] at hcs
      obtain ⟨q1, q2⟩ := cells_all hcs
      refine ⟨z, ⟨c, q1, hz, fun j u hu => ?_⟩, hg⟩
      have := q2 j u hu
      rwa [add_add] at this
    obtain ⟨zs, hzl, hz⟩ := choose_list elems each
    have hzlen : zs.length = len := hzl.trans hlen
    have get : ∀ i z, zs[i]? = some z → (∃ c, c.length = d.sz ∧ d.K W z c ∧ ∀ j u, c[j]? = some u → W.cell? (a.add (i * d.sz + j)) = some u) ∧ G z := by
      intro i z hzi
      have hi : i < elems.length := by rw [← hzl]; exact (List.getElem?_eq_some_iff.1 hzi).1
      exact hz i _ z (List.getElem?_eq_getElem hi) hzi
    have hmx : cap ≤ 9223372036854775807 := by unfold maxLen at hm; omega
    refine ⟨zs, ⟨some a, cap, by rw [hzlen], by omega, ⟨hzlen ▸ rfl, by omega, fun _ => ⟨a, rfl, fun j p hj => (get j p hj).1⟩⟩⟩, ?_, by omega, ?_⟩
    · rw [hzlen, ← hlen]
      rw [hb] at h1
      simp only [List.length_map] at h1
      have : elems.length * b ≤ (elems.length + rest.length) * b := Nat.mul_le_mul_right _ (Nat.le_add_right _ _)
      exact Nat.le_trans this h1
    · intro z hz'
      obtain ⟨i, hi⟩ := List.getElem?_of_mem hz'
      exact (get i z hi).2
end
end Go.Proofs.YthpecpkncifngaaDoor.Op2
end

/- Items, and lists of items, laid open. -/
section
namespace Go.Proofs.YthpecpkncifngaaDoor.X
open Go.RowKit Go.Proofs.YthpecpkncifngaaDoorW.PrintWords Go.Proofs.YthpecpkncifngaaDoor.Op2
set_option linter.unusedVariables false
set_option linter.unusedSimpArgs false

/-- What is known of an item that was read. -/
def GoodIt (x : S26) : Prop := x.f0.size ≤ 140737488351232 ∧ (Lit.int .u8 x.f1).wf = true ∧ (Lit.int .i64 x.f2).wf = true ∧ (Lit.int .i64 x.f3).wf = true ∧ (x.f4.length * 1 ≤ 140737488351232 ∧ x.f4.length ≤ 9223372036854775807 ∧ ∀ n ∈ x.f4, (Lit.int .u8 n).wf = true) ∧ x.f5.size ≤ 140737488351232
theorem six {α : Type} {l : List α} (h : l.length = 6) : ∃ a b c d e f, l = [a, b, c, d, e, f] := by
  match l, h with
  | [a, b, c, d, e, f], _ => exact ⟨a, b, c, d, e, f, rfl⟩
theorem opens_item {H : Type} {enc : TypeId × Value → H} {W : World} {base : Nat} {spare : Nat → Bool} {held : Bool} : Opens enc Tryd.prog W base spare held 26 k26 GoodIt := by
  intro fuel cs x h hw
  obtain ⟨xs, n, _, rfl, hl, hx, hel⟩ := DataW.trod_struct Tryd.underlying26 h
  have hc : Tryd.prog.cellsOf 26 = 6 := by kernel_rfl
  rw [hc] at hl
  obtain ⟨u0, u1, u2, u3, u4, u5, rfl⟩ := six hl
  obtain ⟨y0, y1, y2, y3, y4, y5, rfl⟩ := six (show xs.length = 6 from hx)
  simp only [DataW.weights, Tryd.underlying26] at hw
  have c0 : Tryd.prog.cellsOf 9 = 1 := by kernel_rfl
  have c1 : Tryd.prog.cellsOf 23 = 1 := by kernel_rfl
  have c2 : Tryd.prog.cellsOf 3 = 1 := by kernel_rfl
  have c4 : Tryd.prog.cellsOf 24 = 1 := by kernel_rfl
  have e0 : DataW.trod enc Tryd.prog W base spare held n 9 (([u0, u1, u2, u3, u4, u5].drop 0).take (Tryd.prog.cellsOf 9)) = some y0 := hel 0 _ rfl
  rw [c0] at e0
  have e1 : DataW.trod enc Tryd.prog W base spare held n 23 (([u0, u1, u2, u3, u4, u5].drop 1).take (Tryd.prog.cellsOf 23)) = some y1 := hel 1 _ rfl
  rw [c1] at e1
  have e2 : DataW.trod enc Tryd.prog W base spare held n 3 (([u0, u1, u2, u3, u4, u5].drop 2).take (Tryd.prog.cellsOf 3)) = some y2 := hel 2 _ rfl
  rw [c2] at e2
  have e3 : DataW.trod enc Tryd.prog W base spare held n 3 (([u0, u1, u2, u3, u4, u5].drop 3).take (Tryd.prog.cellsOf 3)) = some y3 := hel 3 _ rfl
  rw [c2] at e3
  have e4 : DataW.trod enc Tryd.prog W base spare held n 24 (([u0, u1, u2, u3, u4, u5].drop 4).take (Tryd.prog.cellsOf 24)) = some y4 := hel 4 _ rfl
  rw [c4] at e4
  have e5 : DataW.trod enc Tryd.prog W base spare held n 9 (([u0, u1, u2, u3, u4, u5].drop 5).take (Tryd.prog.cellsOf 9)) = some y5 := hel 5 _ rfl
  rw [c0] at e5
  have wt : ∀ (j : Nat) (t : TypeId) (y : DataW H × List MemPlace), ((#[_, _, _, _, _, _] : Array Field).toList.map (·.type))[j]? = some t → [y0, y1, y2, y3, y4, y5][j]? = some y → ∀ m ∈ y.1.weights Tryd.prog t, m ≤ reachBytes :=
    fun j t y h1 h2 m hm => hw m (weightsEach_mem h1 (by rw [List.getElem?_map, h2]; rfl) hm)
  obtain ⟨z0, k0, g0⟩ := opens_string Tryd.underlying9 n _ _ e0 (wt 0 _ _ rfl rfl)
  obtain ⟨z1, k1, g1⟩ := opens_int Tryd.underlying23 n _ _ e1 (wt 1 _ _ rfl rfl)
  obtain ⟨z2, k2, g2⟩ := opens_int Tryd.underlying3 n _ _ e2 (wt 2 _ _ rfl rfl)
  obtain ⟨z3, k3, g3⟩ := opens_int Tryd.underlying3 n _ _ e3 (wt 3 _ _ rfl rfl)
  obtain ⟨z4, k4, g4⟩ := opens_slice (b := 1) Tryd.underlying24 (by kernel_rfl) (by kernel_rfl) (opens_int Tryd.underlying5) n _ _ e4 (wt 4 _ _ rfl rfl)
  obtain ⟨z5, k5, g5⟩ := opens_string Tryd.underlying9 n _ _ e5 (wt 5 _ _ rfl rfl)
  exact ⟨⟨z0, z1, z2, z3, z4, z5⟩, ⟨_, _, rfl, k0, ⟨_, _, rfl, k1, ⟨_, _, rfl, k2, ⟨_, _, rfl, k3, ⟨_, _, rfl, k4, k5⟩⟩⟩⟩⟩, g0, g1, g2, g3, g4, g5⟩
theorem opens_items {H : Type} {enc : TypeId × Value → H} {W : World} {base : Nat} {spare : Nat → Bool} {held : Bool} : Opens enc Tryd.prog W base spare held 22 (Kd.slice 26 k26) (fun xs => xs.length * 80 ≤ 140737488351232 ∧ xs.length ≤ 9223372036854775807 ∧ ∀ x ∈ xs, GoodIt x) :=
  opens_slice Tryd.underlying22 (by kernel_rfl) (by kernel_rfl) opens_item
end Go.Proofs.YthpecpkncifngaaDoor.X
end

section
namespace Go.Proofs.YthpecpkncifngaaDoor.treeWithoutRow
open Go.ChangeShapes Go.WideShapes Go.ChangeAt Go.RowKit
open Go.ChangeMaps (open_string shut_string)
set_option linter.unusedVariables false
set_option linter.unusedSimpArgs false
theorem own : ownKnob Tryd.prog.godebug = none := by kernel_rfl
open Go.Proofs.YthpecpkncifngaaDoor Go.Proofs.YthpecpkncifngaaDoorW.PrintWords
theorem laidOut : laidOutB Tryd.prog = true := by kernel_rfl
theorem walk (A0 : Option Addr) (c0 : Nat) (a0 : List X.S26) (a1 : ByteArray) (w : World) (h0 : Kd.C X.k26 w A0 a0.length a0) (hc0 : a0.length ≤ c0) (hg0 : a0.length * 80 ≤ 140737488351232 ∧ a0.length ≤ 9223372036854775807 ∧ ∀ x ∈ a0, X.GoodIt x) (h1 : a1.size ≤ 140737488351232) : Calls Tryd.prog 4 #[.slice A0 a0.length c0, .string a1] w fun e w' => e = .returned (.bool true) ∧ Below w.heap.size w w' := by
  exact X.treeWithout_walk A0 c0 a0 a1 w h0 hc0 hg0.1 (fun x hx => by have := (hg0.2.2 x hx).2.2.2.2.1.1; omega)
set_option maxRecDepth 100000 in
theorem contract (H : Type) (enc : TypeId × Value → H) (W : World) (base : Nat) (args : Array Value) (ds gs : List (DataW H)) (before : List MemPlace)
    (hval : ∀ (j : Nat) t v, Tryd.f4.params[j]? = some t → args[j]? = some v → Value.okWide Tryd.prog W .any base t v)
    (hW : DataW.Whole enc Tryd.prog Tryd.f4.params.toList Rows.treeWithoutSpec.vars false W args.toList ds gs before) (hsz0 : (DataW.weightsEach Tryd.prog (Tryd.f4.params.toList ++ Rows.treeWithoutSpec.plain.varTypes Tryd.prog) (ds ++ gs)).all (· ≤ reachBytes) = true) :
    Calls Tryd.prog 4 args W fun e W' => ∃ v, e = .returned v ∧ Rows.treeWithoutSpec.post enc Tryd.prog Tryd.f4 false true false false W args v W' := by
  have hW' := hW
  obtain ⟨p, q, hA0, hV, rfl, hfz, hnd⟩ := hW
  have hA : DataW.TrodAll enc Tryd.prog W 0 (fun _ => true) true Tryd.f4.params.toList args.toList ds p := hA0
  have hsz := hsz0
  rw [Tryd.params4] at hA hval hsz
  obtain ⟨v0, vs0, d0, ds0, p0, q0, hargs, rfl, rfl, h0, r0⟩ := trodAll_cons hA
  obtain ⟨v1, vs1, d1, ds1, p1, q1, rfl, rfl, rfl, h1, r1⟩ := trodAll_cons r0
  obtain ⟨rfl, rfl, rfl⟩ := trodAll_nil r1
  obtain rfl : args = #[v0, v1] := by cases args; simp_all
  obtain ⟨rfl, rfl⟩ := trodVars_none hV
  have k0 := h0
  have lt0 : ∀ x ∈ p0, x.block < W.heap.size := by obtain ⟨m, hm⟩ := k0; exact DataW.trod_lt m _ _ _ hm
  obtain ⟨va0, vl0, vc0, rfl⟩ := okWide_slice Tryd.underlying22 (hval 0 22 v0 rfl rfl)
  obtain ⟨m0, hm0⟩ := h0
  obtain ⟨a0, hK0, w0⟩ := X.opens_items m0 _ _ hm0 (fun n hn => of_decide_eq_true (List.all_eq_true.1 hsz n (DataW.weights_mem_each (j := 0) rfl rfl n hn)))
  obtain ⟨A0, c0, he0, wc0, wK0⟩ := hK0
  obtain ⟨ea0, el0, ec0⟩ : va0 = A0 ∧ vl0 = a0.length ∧ vc0 = c0 := by simpa [Value.cells] using he0
  obtain rfl : A0 = va0 := ea0.symm
  obtain rfl : a0.length = vl0 := el0.symm
  obtain rfl : c0 = vc0 := ec0.symm
  obtain ⟨a1, rfl, rfl, rfl, y1⟩ := open_string Tryd.underlying9 (hval 1 9 v1 rfl rfl) h1
  have w1 : a1.size ≤ 140737488351232 := by
    have z := sized_string hsz (j := 1) (t := 9) rfl rfl
    rw [Array.length_toList] at z
    exact z
  clear hA0
  refine (walk A0 c0 a0 a1 W wK0 wc0 w0 w1).mono fun e W' ⟨he, bel⟩ => ?_
  subst he
  exact ⟨_, rfl, _, _, _, [], _, [], hW', trodAll_mk1 (shut_bool Tryd.underlying4 _), (trodAll_cons_mk (Below.trod laidOut (by kernel_rfl) (of_decide_eq_true (by kernel_rfl)) k0 bel lt0) (trodAll_cons_mk (shut_string Tryd.underlying9 y1) trodAll_mk0)), rfl, bel.frame _, fun h => by cases h⟩
/-- A world for the witness: the settled one, the tables holding what the program's text lays. -/
noncomputable def laidWorld (os : Os) : World := { World.holding Tryd.prog os ⟨#[], #[], []⟩ with heap := (((World.holding Tryd.prog os ⟨#[], #[], []⟩).heap.modify 2 fun | .cells _ t frozen => .cells (#[.int .u8 128, .int .u8 191, .int .u8 160, .int .u8 191, .int .u8 128, .int .u8 159, .int .u8 144, .int .u8 191, .int .u8 128, .int .u8 143, .int .u8 0, .int .u8 0, .int .u8 0, .int .u8 0, .int .u8 0, .int .u8 0, .int .u8 0, .int .u8 0, .int .u8 0, .int .u8 0, .int .u8 0, .int .u8 0, .int .u8 0, .int .u8 0, .int .u8 0, .int .u8 0, .int .u8 0, .int .u8 0, .int .u8 0, .int .u8 0, .int .u8 0, .int .u8 0]) t frozen | o => o).modify 1 fun | .cells _ t frozen => .cells ((Go.Pinned.utf8FirstZ.map fun (n : Nat) => Value.int .u8 (n : Int)).toArray) t frozen | o => o) }
set_option maxRecDepth 100000 in
theorem laid_met (os : Os) : laidMet Tryd.prog Rows.treeWithoutRow.laid ((laidWorld os).forCall (fun _ _ => 0) ⟨#[], #[.slice none 0 0, .string ByteArray.empty], []⟩).memory :=
  laidMet_of_run' 8 (by kernel_rfl) (by kernel_rfl)
set_option maxRecDepth 100000 in
theorem reads (os : Os) {H : Type} (enc : TypeId × Value → H) : ∃ places, DataW.whole enc Tryd.prog ((laidWorld os).forCall (fun _ _ => 0) ⟨#[], #[.slice none 0 0, .string ByteArray.empty], []⟩).memory Tryd.f4.params.toList Rows.treeWithoutSpec.vars false (#[.slice none 0 0, .string ByteArray.empty] : Array Value).toList 8 = some ([.nil, .lit (.string [])], [], places) :=
  ⟨[], by kernel_rfl⟩
set_option maxRecDepth 100000 in
theorem lifted (os : Os) (started : os.Started) (H : Type) (enc : TypeId × Value → H) (F : Stop.Interp) :
    ReturnsInHanded {} Tryd.checked os 4 .any ((OpenSpec.ofChange Rows.treeWithoutSpec).preRow enc Tryd.prog Tryd.f4 Rows.treeWithoutRow.domain false Rows.treeWithoutRow.laid) (((OpenSpec.ofChange Rows.treeWithoutSpec).at F).post enc Tryd.prog Tryd.f4 false true false false) := by
  obtain ⟨places, hx⟩ := reads os enc
  refine returnsInHanded_of_row (C := Tryd.checked) (s := OpenSpec.ofChange Rows.treeWithoutSpec) own started (by kernel_rfl) Tryd.func4
    (witness_row_at (enc := enc) (C := Tryd.checked) false (laidWorld os) #[.slice none 0 0, .string ByteArray.empty] rfl (by kernel_rfl) (by kernel_rfl) (by kernel_rfl)
      (OpenSpec.preRow_of_cond 8 hx (by kernel_rfl) (fun k hk => by cases hk) (by kernel_rfl) (laid_met os))) ?_
  intro W base args ds gs before hval hW _ hcond hsz0 _ _ _
  exact contract H enc W base args ds gs before hval hW hsz0
set_option maxRecDepth 100000 in
theorem proved : Rows.TreeWithoutSaid :=
  OpenClaim.holds_of_cond 4 Tryd.f4 rfl rfl rfl rfl rfl rfl rfl ⟨rfl, rfl, rfl, rfl, rfl⟩ rfl rfl rfl rfl rfl (by kernel_rfl) Tryd.func4 (by kernel_rfl)
    (of_decide_eq_true (by kernel_rfl)) (by unfold Func.isWrapper; first | (rw [if_pos (by decide +kernel)]; kernel_rfl) | (rw [if_neg (by decide +kernel)]; exact ⟨rfl, rfl⟩))
    (fun os started H enc _ F => by rw [OpenClaim.pre_eq_preRow]; exact lifted os started H enc F)
theorem plain (f : FuncId) (fn : Func) (hf : Tryd.pinned.checked.prog.funcNamed "tabulary/tabularylaw11.TreeWithout" = some f) (hfn : Tryd.pinned.checked.prog.funcs[f]? = some fn) :
    false = Tryd.pinned.checked.prog.looks [] ∧ ∀ (j : Nat) t, fn.params[j]? = some t → Tryd.pinned.checked.prog.wantsStandIn t = false := by
  obtain rfl : f = 4 := Option.some.inj ((show Tryd.prog.funcNamed "tabulary/tabularylaw11.TreeWithout" = some 4 by kernel_rfl).symm.trans hf) |>.symm
  obtain rfl : fn = Tryd.f4 := (Option.some.inj (Tryd.func4.symm.trans hfn)).symm
  refine ⟨by kernel_rfl, fun j t ht => ?_⟩
  rw [Tryd.params4] at ht
  have hm : t = 9 ∨ t = 22 := by have := Array.mem_of_getElem? ht; simp at this; rcases this with h | h <;> simp [h]
  rcases hm with rfl | rfl
  · exact (show Tryd.prog.wantsStandIn 9 = false by kernel_rfl)
  · exact (show Tryd.prog.wantsStandIn 22 = false by kernel_rfl)
set_option maxRecDepth 100000 in
theorem card : Rows.TreeWithoutCardSaid :=
  Claim7.holds_tied_plain_at .later [] _ _ _ _ proved (fun _ h => by cases h) (by kernel_rfl) (fun _ h => by cases h) treeWithout_row_tie rfl ⟨rfl, rfl⟩ (by kernel_rfl) rfl plain (by kernel_rfl)
end Go.Proofs.YthpecpkncifngaaDoor.treeWithoutRow
namespace Go.Proofs.YthpecpkncifngaaDoor
/-- The card, under a short name, for the claim. -/
theorem treeWithout_holds : Rows.TreeWithoutCardSaid := treeWithoutRow.card
#print axioms treeWithout_holds
end Go.Proofs.YthpecpkncifngaaDoor
end
