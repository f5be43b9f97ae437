/- NameInside: the pure statement. -/
import Derived.Test.YtnceocjgcdcpgaaDoorPureG
import Derived.Lib.IndexLaws
namespace Go.Proofs.YtnceocjgcdcpgaaDoor.Nm
theorem idx_not {l : List UInt8} {c : UInt8} : Lib.indexByte l c = -1 ↔ c ∉ l := by
  constructor
  · intro h hm
    obtain ⟨k, hk⟩ := List.mem_iff_getElem?.1 hm
    exact Lib.indexByte_none h k hk
  · intro h
    by_cases e : Lib.indexByte l c = -1
    · exact e
    · have := Lib.indexByte_ge l c
      obtain ⟨n, hn⟩ : ∃ n : Nat, Lib.indexByte l c = n := ⟨(Lib.indexByte l c).toNat, by omega⟩
      exact absurd (List.mem_iff_getElem?.2 ⟨n, (Lib.indexByte_some hn).1⟩) h
theorem texts_one {l : List UInt8} (h : (47 : UInt8) ∉ l) : texts l = [l] := by
  rw [texts, pieces_none l 0 (idx_not.2 h)]; rfl
/-- Pieces without a stroke, put together, are taken apart again. -/
theorem texts_join : ∀ L : List (List UInt8), L ≠ [] → (∀ x ∈ L, (47 : UInt8) ∉ x) → texts (joinT L) = L
  | [], h, _ => absurd rfl h
  | [x], _, h => texts_one (h x (by simp))
  | x :: y :: r, _, h => by
    show texts (x ++ 47 :: joinT (y :: r)) = _
    rw [texts_append, texts_one (h x (by simp)), texts_join (y :: r) (by simp) (fun z hz => h z (List.mem_cons_of_mem _ hz))]
    rfl
theorem pc_no_stroke : ∀ (l : List UInt8) (p : Nat), (47 : UInt8) ∉ (pc p l).1 ∧ ∀ x ∈ (pc p l).2, (47 : UInt8) ∉ x.2
  | [], _ => ⟨by simp [pc], by simp [pc]⟩
  | c :: l, p => by
    obtain ⟨h1, h2⟩ := pc_no_stroke l (p + 1)
    by_cases hc : c = 47
    · simp only [pc, hc, if_true]
      refine ⟨by simp, fun x hx => ?_⟩
      rcases List.mem_cons.1 hx with rfl | hx
      · exact h1
      · exact h2 x hx
    · simp only [pc, hc, if_false]
      exact ⟨fun h => by rcases List.mem_cons.1 h with h | h; exact hc h.symm; exact h1 h, h2⟩
theorem texts_no_stroke {l x : List UInt8} (h : x ∈ texts l) : (47 : UInt8) ∉ x := by
  obtain ⟨h1, h2⟩ := pc_no_stroke l 0
  simp only [texts, pieces, List.map_cons, List.mem_cons, List.mem_map] at h
  rcases h with rfl | ⟨y, hy, rfl⟩
  · exact h1
  · exact h2 y hy
theorem pc_mem : ∀ (l : List UInt8) (p : Nat) (c : UInt8), (c ∈ (pc p l).1 → c ∈ l) ∧ ∀ x ∈ (pc p l).2, c ∈ x.2 → c ∈ l
  | [], _, _ => ⟨by simp [pc], by simp [pc]⟩
  | d :: l, p, c => by
    obtain ⟨h1, h2⟩ := pc_mem l (p + 1) c
    by_cases hc : d = 47
    · simp only [pc, hc, if_true]
      refine ⟨by simp, fun x hx hm => List.mem_cons_of_mem _ ?_⟩
      rcases List.mem_cons.1 hx with rfl | hx
      · exact h1 hm
      · exact h2 x hx hm
    · simp only [pc, hc, if_false]
      refine ⟨fun h => ?_, fun x hx hm => List.mem_cons_of_mem _ (h2 x hx hm)⟩
      rcases List.mem_cons.1 h with h | h
      · rw [h]; exact List.mem_cons_self
      · exact List.mem_cons_of_mem _ (h1 h)
theorem texts_mem {l x : List UInt8} {c : UInt8} (h : x ∈ texts l) (hc : c ∈ x) : c ∈ l := by
  obtain ⟨h1, h2⟩ := pc_mem l 0 c
  simp only [texts, pieces, List.map_cons, List.mem_cons, List.mem_map] at h
  rcases h with rfl | ⟨y, hy, rfl⟩
  · exact h1 hc
  · exact h2 y hy hc
/-- A right piece. -/
def good (x : List UInt8) : Prop := x ≠ [] ∧ x ≠ [46] ∧ x ≠ [46, 46] ∧ (0 : UInt8) ∉ x ∧ (47 : UInt8) ∉ x
theorem good_of_bad {x : List UInt8} (h : bad x = none) (h47 : (47 : UInt8) ∉ x) : good x := by
  unfold bad at h
  split at h
  · simp at h
  · rename_i h1
    split at h
    · simp at h
    · split at h
      · simp at h
      · rename_i h3
        split at h
        · simp at h
        · rename_i h4
          refine ⟨h1, fun e => h3 (.inl e), fun e => h3 (.inr e), ?_, h47⟩
          exact idx_not.1 (by have := Lib.indexByte_ge x 0; omega)
theorem way_good : ∀ (b ps q : List (List UInt8)), way ps b = some q → (∀ x ∈ ps, good x) → (∀ x ∈ b, (0 : UInt8) ∉ x ∧ (47 : UInt8) ∉ x) → ∀ x ∈ q, good x
  | [], ps, q, h, hp, _ => by simp only [way, Option.some.injEq] at h; subst h; exact hp
  | x :: r, ps, q, h, hp, hb => by
    have hr : ∀ x ∈ r, (0 : UInt8) ∉ x ∧ (47 : UInt8) ∉ x := fun y hy => hb y (List.mem_cons_of_mem _ hy)
    simp only [way] at h
    split at h
    · exact way_good r ps q h hp hr
    · rename_i h1
      split at h
      · split at h
        · simp at h
        · exact way_good r _ q h (fun y hy => hp y (List.dropLast_subset _ hy)) hr
      · rename_i h2
        refine way_good r _ q h (fun y hy => ?_) hr
        rcases List.mem_append.1 hy with hy | hy
        · exact hp y hy
        · rw [List.mem_singleton] at hy
          subst hy
          have := hb y (by simp)
          exact ⟨fun e => h1 (.inl e), fun e => h1 (.inr e), h2, this.1, this.2⟩
/-- What a link leads to, if it leads somewhere. -/
theorem lead_ok {a t s : List UInt8} (h : lead a t = (s, 0)) : (check a).2 = 0 ∧ t ≠ [] ∧ t.length ≤ 400 ∧ (0 : UInt8) ∉ t ∧ ∃ L, way (texts a).dropLast (texts t) = some L ∧ s = joinT L := by
  unfold lead at h
  split at h
  · rename_i h1; simp only [Prod.mk.injEq] at h; exact absurd h.2 h1
  · rename_i h1
    split at h
    · simp at h
    · rename_i h2
      split at h
      · simp at h
      · rename_i h3
        split at h
        · simp at h
        · rename_i h4
          split at h
          · simp at h
          · cases hw : way (texts a).dropLast (texts t) with
            | none => rw [hw] at h; simp [led] at h
            | some L =>
              rw [hw] at h
              simp only [led, Prod.mk.injEq, and_true] at h
              exact ⟨by omega, h2, by omega, idx_not.1 (by have := Lib.indexByte_ge t 0; omega), L, rfl, h.symm⟩
theorem lead_good {a t : List UInt8} {L : List (List UInt8)} (h1 : (check a).2 = 0) (h0 : (0 : UInt8) ∉ t) (hw : way (texts a).dropLast (texts t) = some L) : ∀ x ∈ L, good x := by
  refine way_good _ _ _ hw (fun x hx => ?_) (fun x hx => ⟨fun hm => h0 (texts_mem hx hm), texts_no_stroke hx⟩)
  have hx := List.dropLast_subset _ hx
  exact good_of_bad (((check_ok a).1 h1).2 x hx) (texts_no_stroke hx)
theorem lead_part {a t : List UInt8} (h1 : (check a).2 = 0) (h2 : (check t).2 = 0) (h3 : (47 : UInt8) ∉ t) : lead a t = (joinT ((texts a).dropLast ++ [t]), 0) := by
  obtain ⟨h4, h5⟩ := (check_ok t).1 h2
  rw [texts_one h3] at h5
  obtain ⟨g1, g2, g3, g4, g5⟩ := good_of_bad (h5 t (by simp)) h3
  have hh : ¬ t.head? = some 47 := by
    cases t with
    | nil => exact absurd rfl g1
    | cons c r => intro e; simp only [List.head?_cons, Option.some.injEq] at e; exact h3 (by rw [e]; simp)
  have hn : ¬ (0 ≤ Lib.indexByte t 0) := by rw [idx_not.2 g4]; omega
  unfold lead
  rw [if_neg (by omega), if_neg g1, if_neg (by omega), if_neg hn, if_neg hh, texts_one h3]
  have : way (texts a).dropLast [t] = some ((texts a).dropLast ++ [t]) := by simp [way, g1, g2, g3]
  rw [this]
  rfl
end Go.Proofs.YtnceocjgcdcpgaaDoor.Nm
namespace Go.Proofs.YtnceocjgcdcpgaaDoor.Pure
open Go.RowKit Go.Proofs.YtnceocjgcdcpgaaDoor.X Go.Proofs.YtnceocjgcdcpgaaDoorW.PrintWords Go.Proofs.YtnceocjgcdcpgaaDoorW.PrintLast Go.Proofs.YtnceocjgcdcpgaaDoorW.PrintMore
open Go.Proofs.YtnceocjgcdcpgaaDoor

theorem last_no (c : UInt8) : ∀ l : List UInt8, Nm.lastIdx c l < 0 → ∀ m : Nat, l[m]? ≠ some c
  | [], _, m => by simp
  | x :: l, h, m => by
    simp only [Nm.lastIdx] at h
    split at h
    · omega
    · split at h
      · omega
      · rename_i h1 h2
        cases m with
        | zero => simpa using h2
        | succ m => rw [List.getElem?_cons_succ]; exact last_no c l (by omega) m
/-- How many strokes a text has. -/
theorem strokes_l0 (p : ByteArray) (hp : p.size ≤ 1099511627776) (d : Nat) : ∀ (i n : Nat), i ≤ p.size → n ≤ i → p.size - i = d →
    Ev (fun k => tabularylaw08_strokes.l0 k p (n : Int) (i : Int)) ((n + (p.data.toList.drop i).count 47 : Nat) : Int) := by
  induction d with
  | zero =>
    intro i n hi hn hd
    have e : i = p.size := by omega
    subst e
    have e2 : p.data.toList.drop p.size = [] := List.drop_eq_nil_of_le (by rw [len_eq]; omega)
    refine Ev.step (fun k => ?_) (Ev.now _)
    rw [tabularylaw08_strokes.l0, if_neg (by omega), e2]
    rfl
  | succ d ih =>
    intro i n hi hn hd
    obtain ⟨c, hc, hb, hci⟩ := drop_at p i (by omega)
    rw [hc]
    by_cases h : c = 47
    · have hb' : bt p (i : Int) = 47 := by rw [hb, h]; rfl
      have s : ∀ k, tabularylaw08_strokes.l0 (k + 1) p (n : Int) (i : Int) = tabularylaw08_strokes.l0 k p ((n + 1 : Nat) : Int) ((i + 1 : Nat) : Int) := fun k => by
        rw [tabularylaw08_strokes.l0, if_pos (by omega), if_pos (by omega), if_pos hb', wrap_succ (by omega), wrap_succ (by omega)]
      refine Ev.step s ?_
      have := ih (i + 1) (n + 1) (by omega) (by omega) (by omega)
      rw [h, List.count_cons_self, show n + (List.count 47 (p.data.toList.drop (i + 1)) + 1) = n + 1 + List.count 47 (p.data.toList.drop (i + 1)) from by omega]
      exact this
    · have hb' : ¬ bt p (i : Int) = 47 := by rw [hb]; exact fun e => h ((toNat_eq c 47).1 e)
      have s : ∀ k, tabularylaw08_strokes.l0 (k + 1) p (n : Int) (i : Int) = tabularylaw08_strokes.l0 k p (n : Int) ((i + 1 : Nat) : Int) := fun k => by
        rw [tabularylaw08_strokes.l0, if_pos (by omega), if_pos (by omega), if_neg hb', wrap_succ (by omega)]
      refine Ev.step s ?_
      rw [List.count_cons_of_ne (by simpa using h)]
      exact ih (i + 1) n (by omega) (by omega) (by omega)
theorem strokes_ev (p : ByteArray) (hp : p.size ≤ 1099511627776) : Ev (fun k => tabularylaw08_strokes.f k p) ((p.data.toList.count 47 : Nat) : Int) := by
  have := strokes_l0 p hp p.size 0 0 (by omega) (by omega) (by omega)
  simpa [tabularylaw08_strokes.f] using this

/-- clean at a text of good pieces. -/
theorem clean_l0 (p : ByteArray) (hp : p.size ≤ 1099511627776) (h0 : (0 : UInt8) ∉ p.data.toList) (d : Nat) : ∀ (a i : Nat), a ≤ i → i ≤ p.size → p.size - i = d →
    (∀ x ∈ ((p.data.toList.drop a).take (i - a) ++ (Nm.pc i (p.data.toList.drop i)).1) :: (Nm.pc i (p.data.toList.drop i)).2.map (·.2), x ≠ [] ∧ x ≠ [46] ∧ x ≠ [46, 46]) →
    Ev (fun k => tabularylaw08_clean.l0 k p (a : Int) (i : Int)) true := by
  induction d with
  | zero =>
    intro a i ha hi hd hg
    have e : i = p.size := by omega
    subst e
    have e2 : p.data.toList.drop p.size = [] := List.drop_eq_nil_of_le (by rw [len_eq]; omega)
    have hx := hg _ (List.mem_cons_self)
    rw [e2] at hx
    simp only [Nm.pc, List.append_nil] at hx
    have ex : (p.extract a p.size).toList = (p.data.toList.drop a).take (p.size - a) := by rw [toList_eq, Lib.extract_data]
    have s1 : ∀ k, tabularylaw08_clean.l0 (k + 1) p (a : Int) (p.size : Int) = tabularylaw08_clean.j1 k p (a : Int) (p.size : Int) false := fun k => by
      rw [tabularylaw08_clean.l0, if_pos (by omega), if_neg (by omega)]
    have s2 : ∀ k, tabularylaw08_clean.j1 (k + 1) p (a : Int) (p.size : Int) false = tabularylaw08_clean.j2 k p (a : Int) (p.size : Int) true := fun k => by
      rw [tabularylaw08_clean.j1, if_neg (by decide), if_pos rfl]
    have s3 : ∀ k, tabularylaw08_clean.j2 (k + 1) p (a : Int) (p.size : Int) true = tabularylaw08_clean.l0 k p ((p.size + 1 : Nat) : Int) ((p.size + 1 : Nat) : Int) := fun k => by
      rw [tabularylaw08_clean.j2, if_pos rfl, if_pos (by omega), if_pos (by omega), if_pos (by omega), Int.toNat_natCast, Int.toNat_natCast, ex, if_neg hx.1, if_neg hx.2.1, if_neg hx.2.2, wrap_succ (by omega)]
    refine Ev.step s1 (Ev.step s2 (Ev.step s3 (Ev.step (fun k => ?_) (Ev.now _))))
    rw [tabularylaw08_clean.l0, if_neg (by omega)]
  | succ d ih =>
    intro a i ha hi hd hg
    obtain ⟨c, hc, hb, hci⟩ := drop_at p i (by omega)
    have hc0 : c ≠ 0 := by
      rintro rfl
      exact h0 (List.mem_iff_getElem?.2 ⟨i, hci⟩)
    have hb0 : (bt p (i : Int) == 0) = false := by
      rw [hb]
      have : ¬ ((c.toNat : Int) = 0) := fun e => hc0 (UInt8.toNat_inj.1 (by show c.toNat = 0; omega))
      exact beq_eq_false_iff_ne.2 this
    have s1 : ∀ k, tabularylaw08_clean.l0 (k + 1) p (a : Int) (i : Int) = tabularylaw08_clean.j1 k p (a : Int) (i : Int) false := fun k => by
      rw [tabularylaw08_clean.l0, if_pos (by omega), if_pos (by omega), if_pos (by omega), hb0]
    have s2 : ∀ k, tabularylaw08_clean.j1 (k + 1) p (a : Int) (i : Int) false = tabularylaw08_clean.j2 k p (a : Int) (i : Int) (bt p (i : Int) == 47) := fun k => by
      rw [tabularylaw08_clean.j1, if_neg (by decide), if_neg (by omega), if_pos (by omega), if_pos (by omega)]
    refine Ev.step s1 (Ev.step s2 ?_)
    rw [hc] at hg
    by_cases h : c = 47
    · have hb' : (bt p (i : Int) == 47) = true := by rw [hb, h]; rfl
      rw [hb']
      simp only [Nm.pc, h, if_true, List.append_nil, List.map_cons] at hg
      have hx := hg _ (List.mem_cons_self)
      have ex : (p.extract a i).toList = (p.data.toList.drop a).take (i - a) := by rw [toList_eq, Lib.extract_data]
      have s3 : ∀ k, tabularylaw08_clean.j2 (k + 1) p (a : Int) (i : Int) true = tabularylaw08_clean.l0 k p ((i + 1 : Nat) : Int) ((i + 1 : Nat) : Int) := fun k => by
        rw [tabularylaw08_clean.j2, if_pos rfl, if_pos (by omega), if_pos (by omega), if_pos (by omega), Int.toNat_natCast, Int.toNat_natCast, ex, if_neg hx.1, if_neg hx.2.1, if_neg hx.2.2, wrap_succ (by omega)]
      refine Ev.step s3 (ih (i + 1) (i + 1) (by omega) (by omega) (by omega) ?_)
      rw [Nat.sub_self, List.take_zero, List.nil_append]
      exact fun x hx => hg x (List.mem_cons_of_mem _ hx)
    · have hb' : (bt p (i : Int) == 47) = false := by
        rw [hb]
        exact beq_eq_false_iff_ne.2 (fun e => h ((toNat_eq c 47).1 e))
      rw [hb']
      have s3 : ∀ k, tabularylaw08_clean.j2 (k + 1) p (a : Int) (i : Int) false = tabularylaw08_clean.l0 k p (a : Int) ((i + 1 : Nat) : Int) := fun k => by
        rw [tabularylaw08_clean.j2, if_neg (by decide), wrap_succ (by omega)]
      refine Ev.step s3 (ih a (i + 1) (by omega) (by omega) (by omega) ?_)
      have e : (p.data.toList.drop a).take (i + 1 - a) = (p.data.toList.drop a).take (i - a) ++ [c] := by
        rw [show i + 1 - a = (i - a) + 1 from by omega, List.take_add_one, List.getElem?_drop, show a + (i - a) = i from by omega, hci]
        rfl
      rw [e, List.append_assoc, List.singleton_append]
      simp only [Nm.pc, h, if_false] at hg
      exact hg
theorem clean_ev (p : ByteArray) (hp : p.size ≤ 1099511627776) (h0 : (0 : UInt8) ∉ p.data.toList) (hg : ∀ x ∈ Nm.texts p.data.toList, x ≠ [] ∧ x ≠ [46] ∧ x ≠ [46, 46]) : Ev (fun k => tabularylaw08_clean.f k p) true := by
  refine clean_l0 p hp h0 p.size 0 0 (by omega) (by omega) (by omega) ?_
  simpa [Nm.texts, Nm.pieces] using hg
/-- What stands above a path: its pieces but the last. -/
theorem up_texts (p : ByteArray) : (upB p).data.toList = Nm.joinT (Nm.texts p.data.toList).dropLast := by
  unfold upB
  have hge := Nm.lastIdx_ge 47 p.data.toList
  have ex : ∀ n, (p.extract 0 n).data.toList = p.data.toList.take n := fun n => by rw [Lib.extract_data]; simp
  rw [ex]
  by_cases h : Nm.lastIdx 47 p.data.toList < 0
  · have h1 : (47 : UInt8) ∉ p.data.toList := fun hm => by
      obtain ⟨k, hk⟩ := List.mem_iff_getElem?.1 hm
      exact last_no 47 _ h k hk
    rw [Nm.texts_one h1, show (Nm.lastIdx 47 p.data.toList).toNat = 0 from by omega]
    rfl
  · obtain ⟨n, hn⟩ : ∃ n : Nat, Nm.lastIdx 47 p.data.toList = n := ⟨(Nm.lastIdx 47 p.data.toList).toNat, by omega⟩
    obtain ⟨g1, g2⟩ := (lastIdx_some 47 _ n).1 hn
    rw [hn, Int.toNat_natCast]
    obtain ⟨g3, g4⟩ := List.getElem?_eq_some_iff.1 g1
    have hd := List.drop_eq_getElem_cons g3
    rw [g4] at hd
    have h47 : (47 : UInt8) ∉ p.data.toList.drop (n + 1) := fun hm => by
      obtain ⟨k, hk⟩ := List.mem_iff_getElem?.1 hm
      rw [List.getElem?_drop] at hk
      exact g2 (n + 1 + k) (by omega) hk
    have hp : p.data.toList = p.data.toList.take n ++ 47 :: p.data.toList.drop (n + 1) := by rw [← hd, List.take_append_drop]
    have ht : Nm.texts p.data.toList = Nm.texts (p.data.toList.take n) ++ [p.data.toList.drop (n + 1)] := by
      rw [← Nm.texts_one h47, ← Nm.texts_append, ← hp]
    rw [ht, List.dropLast_concat, Nm.joinT_texts]
theorem lead_err {a t : List UInt8} (h : (Nm.lead a t).2 ≠ 0) : (Nm.lead a t).1 = [] := by
  unfold Nm.lead at h ⊢
  by_cases h1 : (Nm.check a).2 ≠ 0
  · rw [if_pos h1]
  · rw [if_neg h1] at h ⊢
    by_cases h2 : t = []
    · rw [if_pos h2]
    · rw [if_neg h2] at h ⊢
      by_cases h3 : 400 < t.length
      · rw [if_pos h3]
      · rw [if_neg h3] at h ⊢
        by_cases h4 : 0 ≤ Lib.indexByte t 0
        · rw [if_pos h4]
        · rw [if_neg h4] at h ⊢
          by_cases h5 : t.head? = some 47
          · rw [if_pos h5]
          · rw [if_neg h5] at h ⊢
            cases hw : Nm.way (Nm.texts a).dropLast (Nm.texts t) with
            | none => rfl
            | some L => rw [hw] at h; exact absurd rfl h
theorem join_ne {L : List (List UInt8)} (h : L ≠ []) (hg : ∀ x ∈ L, x ≠ []) : Nm.joinT L ≠ [] := by
  match L, h, hg with
  | [x], _, hg => exact hg x (by simp)
  | x :: y :: r, _, _ => simp [Nm.joinT]
theorem count_texts (l : List UInt8) : l.count 47 + 1 = (Nm.texts l).length := by
  have : ∀ (l : List UInt8) (p : Nat), (Nm.pc p l).2.length = l.count 47 := by
    intro l
    induction l with
    | nil => intro p; rfl
    | cons c r ih =>
      intro p
      by_cases hc : c = 47
      · subst hc; simp only [Nm.pc, if_true, List.length_cons, ih, List.count_cons_self]
      · simp only [Nm.pc, hc, if_false, ih]
        rw [List.count_cons_of_ne (by simpa using hc)]
  simp [Nm.texts, Nm.pieces, this]

/-- A text that is a part leads beside the link. -/
theorem inside_j0 (a t : ByteArray) (h1 : (Nm.check a.data.toList).2 = 0) : Ev (fun k => tabularylaw08_NameInside.j0 k a t false) true := by
  have hla := len_eq a
  have hlt := len_eq t
  by_cases h2 : (Nm.check t.data.toList).2 = 0
  · have ha4 := ((Nm.check_ok _).1 h1).1
    have ht4 := ((Nm.check_ok _).1 h2).1
    refine Ev.step (fun k => by rw [tabularylaw08_NameInside.j0, if_neg (by decide), ncheck, Option.bind_some, if_pos (by simp [h2])]) (Ev.bind (strokes_ev t (by omega)) ?_)
    by_cases h3 : 0 < t.data.toList.count 47
    · have e : decide (((t.data.toList.count 47 : Nat) : Int) > 0) = true := decide_eq_true (by omega)
      rw [e]
      exact Ev.step (fun k => by rw [tabularylaw08_NameInside.j1, if_pos rfl]) (Ev.now _)
    · have e : decide (((t.data.toList.count 47 : Nat) : Int) > 0) = false := decide_eq_false (by omega)
      have h47 : (47 : UInt8) ∉ t.data.toList := fun hm => h3 (List.count_pos_iff.2 hm)
      rw [e]
      have hL := Nm.lead_part h1 h2 h47
      refine Ev.step (fun k => by rw [tabularylaw08_NameInside.j1, if_neg (by decide), nlead, hL, Option.bind_some]) (Ev.bind (up_ev a (by omega)) ?_)
      have hup := up_texts a
      have hgd : ∀ x ∈ (Nm.texts a.data.toList).dropLast, x ≠ [] := fun x hx =>
        (Nm.good_of_bad (((Nm.check_ok _).1 h1).2 x (List.dropLast_subset _ hx)) (Nm.texts_no_stroke (List.dropLast_subset _ hx))).1
      have hus : (upB a).size ≤ 1048576 := by
        rw [← len_eq]
        unfold upB
        rw [Lib.extract_data]
        simp
        omega
      refine Ev.congr (fun k => ?_) (Ev.now _)
      rw [toList_eq (upB a), hup]
      have z : ((0 : Nat) : Int) = 0 := rfl
      show (if Nm.joinT (Nm.texts a.data.toList).dropLast = [] then (if ((0 : Nat) : Int) = 0 then (if (upB a).size + t.size ≤ 9223372036854775807 then some ((bytesOfL (Nm.joinT ((Nm.texts a.data.toList).dropLast ++ [t.data.toList]))).toList == (upB a ++ t).toList) else none) else some false) else (if (upB a).size + 1 ≤ 9223372036854775807 then (if ((0 : Nat) : Int) = 0 then (if (upB a ++ (⟨#[47]⟩ : ByteArray)).size + t.size ≤ 9223372036854775807 then some ((bytesOfL (Nm.joinT ((Nm.texts a.data.toList).dropLast ++ [t.data.toList]))).toList == ((upB a ++ (⟨#[47]⟩ : ByteArray)) ++ t).toList) else none) else some false) else none)) = some true
      by_cases h5 : (Nm.texts a.data.toList).dropLast = []
      · rw [h5]
        have e0 : Nm.joinT [] = [] := rfl
        rw [if_pos e0, if_pos z, if_pos (by omega), toList_eq, toList_eq, bytes_app, hup, h5]
        simp [Nm.joinT, bytesOfL]
      · have hne := join_ne h5 hgd
        have s3 : (upB a ++ (⟨#[47]⟩ : ByteArray)).size = (upB a).size + 1 := by rw [ByteArray.size_append]; rfl
        rw [if_neg hne, if_pos (by omega), if_pos z, if_pos (by rw [s3]; omega), toList_eq, toList_eq, bytes_app, bytes_app, hup, Nm.joinT_append _ _ h5 (by simp)]
        simp [Nm.joinT, bytesOfL]
  · refine Ev.step (fun k => by rw [tabularylaw08_NameInside.j0, if_neg (by decide), ncheck, Option.bind_some, if_neg (by simp; omega)]) ?_
    exact Ev.step (fun k => by rw [tabularylaw08_NameInside.j1, if_pos rfl]) (Ev.now _)
/-- **NameInside.** -/
theorem inside_ev (a t part : ByteArray) : Ev (fun k => tabularylaw08_NameInside.f k a t part) true := by
  have hla := len_eq a
  have hlt := len_eq t
  refine Ev.congr (fun k => by rw [tabularylaw08_NameInside.f]) (Ev.bind awake_ev (Ev.congr (fun k => by rw [if_pos rfl, nlead, Option.bind_some]) ?_))
  by_cases h1 : (Nm.lead a.data.toList t.data.toList).2 = 0
  · obtain ⟨c1, c2, c3, c4, L, c5, c6⟩ := Nm.lead_ok (a := a.data.toList) (t := t.data.toList) (s := (Nm.lead a.data.toList t.data.toList).1) (by rw [← h1])
    have hj := inside_j0 a part c1
    have ha4 := ((Nm.check_ok _).1 c1).1
    refine Ev.congr (fun k => by rw [if_pos (by simp [h1]), toList_of]) ?_
    by_cases h2 : (Nm.lead a.data.toList t.data.toList).1 = []
    · exact Ev.congr (fun k => by rw [if_pos h2]) hj
    · have hgL := Nm.lead_good c1 c4 c5
      have hLne : L ≠ [] := by rintro rfl; exact h2 (by rw [c6]; rfl)
      have htx : Nm.texts (Nm.joinT L) = L := Nm.texts_join L hLne (fun x hx => (hgL x hx).2.2.2.2)
      have hs : (bytesOfL (Nm.lead a.data.toList t.data.toList).1).data.toList = Nm.joinT L := by rw [c6]; rfl
      have hb := Nm.way_tot _ _ _ c5
      have hb2 := Nm.totL_dropLast (Nm.texts a.data.toList)
      rw [Nm.totL_texts] at hb hb2
      have hjl := Nm.joinT_totL L
      have hsz : (bytesOfL (Nm.lead a.data.toList t.data.toList).1).size ≤ 1048576 := by rw [← len_eq, hs]; omega
      have h0 : (0 : UInt8) ∉ Nm.joinT L := by
        intro hm
        have : ∀ L : List (List UInt8), (∀ x ∈ L, (0 : UInt8) ∉ x) → (0 : UInt8) ∉ Nm.joinT L := by
          intro L
          induction L with
          | nil => intro _; simp [Nm.joinT]
          | cons x r ih =>
            intro hx
            cases r with
            | nil => exact hx x (by simp)
            | cons y s =>
              simp only [Nm.joinT, List.mem_append, List.mem_cons, not_or]
              exact ⟨hx x (by simp), by decide, ih (fun z hz => hx z (List.mem_cons_of_mem _ hz))⟩
        exact this L (fun x hx => (hgL x hx).2.2.2.1) hm
      have hcl := clean_ev (bytesOfL (Nm.lead a.data.toList t.data.toList).1) (by omega) (by rw [hs]; exact h0) (by rw [hs, htx]; exact fun x hx => ⟨(hgL x hx).1, (hgL x hx).2.1, (hgL x hx).2.2.1⟩)
      have hst := strokes_ev (bytesOfL (Nm.lead a.data.toList t.data.toList).1) (by omega)
      rw [hs] at hst
      refine Ev.congr (fun k => by rw [if_neg h2]) (Ev.bind hcl (Ev.congr (fun k => by rw [if_pos rfl]) (Ev.bind hst (Ev.bind (strokes_ev a (by omega)) (Ev.bind (strokes_ev t (by omega)) ?_)))))
      have k1 := count_texts (Nm.joinT L)
      have k2 := count_texts a.data.toList
      have k3 := count_texts t.data.toList
      have k4 := Nm.way_len _ _ _ c5
      rw [htx] at k1
      rw [List.length_dropLast] at k4
      have p1 := Nm.pieces_length a.data.toList 0
      have p2 := Nm.pieces_length t.data.toList 0
      have p3 : (Nm.texts a.data.toList).length = (Nm.pieces 0 a.data.toList).length := by simp [Nm.texts]
      have p4 : (Nm.texts t.data.toList).length = (Nm.pieces 0 t.data.toList).length := by simp [Nm.texts]
      have hle : (Nm.joinT L).count 47 ≤ a.data.toList.count 47 + t.data.toList.count 47 := by omega
      have hbig : a.data.toList.count 47 + t.data.toList.count 47 ≤ 9223372036854775807 := by omega
      have e : decide ((((Nm.joinT L).count 47 : Nat) : Int) > ((a.data.toList.count 47 + t.data.toList.count 47 : Nat) : Int)) = false := decide_eq_false (Int.not_lt.2 (Int.ofNat_le.2 hle))
      have hw : wrap64 (((a.data.toList.count 47 : Nat) : Int) + ((t.data.toList.count 47 : Nat) : Int)) = ((a.data.toList.count 47 + t.data.toList.count 47 : Nat) : Int) := by
        rw [← Int.natCast_add]
        exact wrap_nat hbig
      rw [hw, e]
      exact hj
  · refine Ev.congr (fun k => ?_) (Ev.now _)
    rw [if_neg (by simp; omega), toList_of, lead_err h1]
    rfl
end Go.Proofs.YtnceocjgcdcpgaaDoor.Pure
