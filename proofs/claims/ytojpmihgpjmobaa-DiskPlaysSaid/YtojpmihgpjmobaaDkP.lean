/- slices.Sorted(maps.Keys(..)) of a disk's map: its sectors, in order. -/
import Derived.Test.YtojpmihgpjmobaaDkN
import Derived.Test.YtojpmihgpjmobaaSortd
namespace Go.Proofs.Ytojpmihgpjmobaa.X
open Go Go.RowKit Go.Maps Go.Sort Go.Shelf Go.Proofs Go.Proofs.Ytojpmihgpjmobaa Go.Proofs.YtojpmihgpjmobaaW.PrintWords Go.Proofs.YtojpmihgpjmobaaW.PrintLast Go.Proofs.YtojpmihgpjmobaaW.PrintMore
set_option linter.unusedVariables false
set_option linter.unusedSimpArgs false

theorem dkSorts (m : Nat) : AnyZI.SortsIn Try.prog Try.dkSorted_ren Fence.wide m :=
  ⟨fun blk off cap ss W hH hblk hsz => callsIn_wide.2 (AnyM.slices_Sort_int Try.dkSort blk off cap ss W hH hblk hsz),
   fun p cap W => callsIn_wide.2 (AnyM.slices_Sort_int_none Try.dkSort p cap W)⟩
theorem keys_pair (s : DS) : s.keys.Pairwise (· < ·) := (List.pairwise_lt_range).filter _
theorem keys_mem (s : DS) (k : Nat) : k ∈ s.keys ↔ k < s.n ∧ (s.wt k).isSome = true := by
  unfold DS.keys
  rw [List.mem_filter, List.mem_range]
theorem keys_perm {W : World} {p lb mb : Nat} {D : DataW Unit} {wb : Nat → Nat} {s : DS} (h : Hold W p lb mb D wb s) : (s.keys.map fun k : Nat => (k : Int)).Perm (intKeys D) := by
  obtain ⟨es, rfl, hp, hk⟩ := h.map.entries (int_keyed Try.underlying3)
  refine perm_intKeys hp (fun q hq => ?_) ?_ (fun x => ?_)
  · have hh : Maps.has (.map es) q.1 = true := by
      rw [has_eq, List.any_eq_true]
      exact ⟨q, hq, WideAt.sameKey_self (hk q hq)⟩
    obtain ⟨k, _, e⟩ := (h.has q.1).1 hh
    exact ⟨_, e⟩
  · refine List.pairwise_map.2 ((keys_pair s).imp fun {a b} hab e => ?_)
    omega
  · rw [List.mem_map, h.has]
    constructor
    · rintro ⟨k, hk', rfl⟩
      exact ⟨k, ((keys_mem s k).1 hk').2, rfl⟩
    · rintro ⟨k, q1, q2⟩
      injection q2 with _ q2
      exact ⟨k, (keys_mem s k).2 ⟨h.lim k q1, q1⟩, q2.symm⟩
theorem keys_sort {s : DS} {ss : List Int} (h : ss.Perm (s.keys.map fun k : Nat => (k : Int))) : (ss.mergeSort fun x y => decide (x ≤ y)) = s.keys.map (fun k : Nat => (k : Int)) := by
  refine List.Perm.eq_of_pairwise (le := fun x y => decide (x ≤ y) = true) (fun a b _ _ h1 h2 => ?_) (List.pairwise_mergeSort (fun a b c h1 h2 => ?_) (fun a b => ?_) ss) ?_ ((List.mergeSort_perm _ _).trans h)
  · have h1 := of_decide_eq_true h1; have h2 := of_decide_eq_true h2; omega
  · have h1 := of_decide_eq_true h1; have h2 := of_decide_eq_true h2; exact decide_eq_true (by omega)
  · rcases Int.le_total a b with h | h
    · rw [decide_eq_true h]; rfl
    · rw [decide_eq_true h, Bool.or_true]
  · exact List.pairwise_map.2 ((keys_pair s).imp fun {a b} hab => decide_eq_true (by omega))
set_option maxHeartbeats 2000000 in
theorem sort_tells : SortTells := by
  intro W p lb mb D wb s h
  refine (callsIn_wide (n := 5)).1 ?_
  have hbl := h.map.lt
  have hsz : Maps.size D ≤ 65536 := by rw [h.size]; exact Nat.le_trans (cnt_le s) h.n2
  have hseq : SeqGives Fence.wide 2 Try.prog 43 #[.pointer (some ⟨W.heap.size, 0, none⟩)] encZ (fun ss => ss.Perm (intKeys D)) (Maps.size D) (W.alloc (.cells #[.map (some mb)] 55)) :=
    AnyZI.keys_gives (ρ := Try.dkKeys_ren) { Try.dkKeys with } Fence.wide _ trivial rfl (by omega) W.heap.size mb (Maps.size D) D _ (by simp) (by simp) (owns_step h.map (Below.heap_alloc _ _ mb hbl))
  have cS := AnyZI.sorted_in Try.dkSorted Fence.wide 5 trivial trivial trivial trivial rfl (by omega) (dkSorts _) (enters_of Try.func42 (by kernel_rfl) rfl) 43 #[.pointer (some ⟨W.heap.size, 0, none⟩)] trivial (enters_of Try.func43 (by kernel_rfl) rfl) _ _ (by unfold maxLen; omega) (by omega) _ hseq
  change CallsIn _ _ Try.prog 32 _ _ _ at cS
  refine cS.mono ?_
  rintro e w' ⟨v, ss, rfl, hS, hrow, hnil, hb⟩
  have hp := hS.trans (keys_perm h).symm
  have hlen : ss.length = s.keys.length := by rw [hp.length_eq, List.length_map]
  rw [keys_sort hp, hlen] at hrow
  have hb' : Below W.heap.size W w' := ((Below.refl _ W).alloc (Nat.le_refl _) _).trans (hb.mono (by simp))
  refine ⟨⟨v, rfl, ?_⟩, hb'⟩
  rcases hrow.2 with ⟨rfl, hz⟩ | ⟨g, cap, cur, rfl, _, hg, h1, h2, h3, h4⟩
  · exact .inl ⟨List.eq_nil_of_length_eq_zero hz, _, _, rfl⟩
  · refine .inr ⟨g, cap, cur, rfl, hg, fun i k hk => ?_⟩
    have hi := (List.getElem?_eq_some_iff.1 hk).1
    have : (cur.toList.take (s.keys.length * 1))[i]? = some (encZ (k : Int)) := by
      rw [h4, List.getElem?_map, List.getElem?_map, hk]; rfl
    rw [List.getElem?_take_of_lt (by omega), Array.getElem?_toList] at this
    exact this
end Go.Proofs.Ytojpmihgpjmobaa.X
