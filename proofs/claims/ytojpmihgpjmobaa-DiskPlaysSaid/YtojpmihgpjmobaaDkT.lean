/- Rot at any place; what is read of arguments; a row that is filled. -/
import Derived.Test.YtojpmihgpjmobaaDkS
import Derived.Laws.BytesArg
namespace Go.Proofs.Ytojpmihgpjmobaa.X
open Go Go.RowKit Go.Maps Go.Shelf Go.Proofs.Ytojpmihgpjmobaa Go.Proofs.YtojpmihgpjmobaaW.PrintWords Go.Proofs.YtojpmihgpjmobaaW.PrintLast Go.Proofs.YtojpmihgpjmobaaW.PrintMore
set_option linter.unusedVariables false
set_option linter.unusedSimpArgs false

def Inside (n : Nat) (a q : Int) : Prop := 0 ≤ a ∧ a < n ∧ 0 ≤ q ∧ q < 64
instance (n : Nat) (a q : Int) : Decidable (Inside n a q) := by unfold Inside; infer_instance
def rotF (n : Nat) (a q b : Int) (F : Nat → Int) (j : Nat) : Int := if Inside n a q ∧ (j : Int) = 64 * a + q then bits .xor .u8 (F j) b else F j
theorem rot_out {W : World} {p : Nat} {s : DS} {B : Nat → Prop} (h : DiskAt W p s B) (a q b : Int) (ho : ¬ Inside s.n a q) :
    Calls Try.prog 19 #[dptr p, .int .i64 a, .int .i64 q, .int .u8 b] W fun e w' => e = .returned (.int .i64 1) ∧ w' = W := by
  have H := Aside0.mk h
  clear h
  have ho' : (a < 0 ∨ 0 ≤ a ∧ (s.n : Int) ≤ a) ∨ (0 ≤ a ∧ a < s.n ∧ q < 0) ∨ 0 ≤ a ∧ a < s.n ∧ 0 ≤ q ∧ 64 ≤ q := by unfold Inside at ho; omega
  clear ho
  rcases ho' with (h1 | ⟨h1, h2⟩) | ⟨h1, h2, h3⟩ | ⟨h1, h2, h3, h4⟩
  all_goals
    first
    | have g1 : ¬ a < 0 := by omega
    | skip
  all_goals
    first
    | have g2 : ¬ (s.n : Int) ≤ a := by omega
    | skip
  all_goals
    first
    | have g3 : ¬ q < 0 := by omega
    | skip
  all_goals
    go_enter Try.func19, Try.ntmps19
    go_wp2_with (go_at_call 24; refine (size_any H.out).mono ?_; rintro e w1' ⟨rfl, hq'⟩; obtain rfl := hq'.symm)
    go_ret
    exact ⟨rfl, rfl⟩
theorem DS.rot_nd (s : DS) (k q : Nat) (b : Int) : (s.rot k q b).n = s.n ∧ (s.rot k q b).dead = s.dead ∧ (s.rot k q b).fuse = s.fuse := ⟨rfl, rfl, rfl⟩
theorem rot_all {W : World} {p : Nat} {s : DS} {B : Nat → Prop} (h : DiskAt W p s B) (a q b : Int) :
    Calls Try.prog 19 #[dptr p, .int .i64 a, .int .i64 q, .int .u8 b] W fun e w' => e = .returned (.int .i64 (if Inside s.n a q then 0 else 1)) ∧ (∃ s', DiskAt w' p s' B ∧ s'.n = s.n ∧ s'.dead = s.dead ∧ s'.fuse = s.fuse ∧ s'.rd = rotF s.n a q b s.rd) ∧ Tn W w' B := by
  by_cases hi : Inside s.n a q
  · rw [if_pos hi]
    have hi2 := hi
    obtain ⟨h1, h2, h3, h4⟩ := hi2
    obtain ⟨k, rfl⟩ := Int.eq_ofNat_of_zero_le h1
    obtain ⟨r, rfl⟩ := Int.eq_ofNat_of_zero_le h3
    refine (rot_in h k r b (by omega) (by omega)).mono ?_
    rintro e w' ⟨rfl, hD, hT⟩
    refine ⟨rfl, ⟨_, hD, rfl, rfl, rfl, ?_⟩, hT⟩
    funext j
    rw [DS.rot_rd s k r b (by omega)]
    unfold rotF
    by_cases hj : j = 64 * k + r
    · rw [if_pos hj, if_pos ⟨hi, by omega⟩]
    · rw [if_neg hj, if_neg (fun hq => hj (by have := hq.2; omega))]
  · rw [if_neg hi]
    refine (rot_out h a q b hi).mono ?_
    rintro e w' ⟨rfl, rfl⟩
    refine ⟨rfl, ⟨s, h, rfl, rfl, rfl, ?_⟩, Tn.refl _ _⟩
    funext j
    unfold rotF
    rw [if_neg (fun hq => hi hq.1)]
theorem xor_twice8 : ∀ a b : Fin 256, bits .xor .u8 (bits .xor .u8 (a.val : Int) (b.val : Int)) (b.val : Int) = (a.val : Int) := by decide +kernel
theorem u8_fin {x : Int} (h : (Lit.int .u8 x).wf = true) : ∃ a : Fin 256, x = (a.val : Int) := by
  have h1 : 0 ≤ x ∧ x < 256 := by
    simp [Lit.wf, IntKind.min, IntKind.max, IntKind.bits, IntKind.signed] at h
    omega
  exact ⟨⟨x.toNat, by omega⟩, by show x = ((x.toNat : Nat) : Int); omega⟩
theorem xor_twice {x b : Int} (hx : (Lit.int .u8 x).wf = true) (hb : (Lit.int .u8 b).wf = true) : bits .xor .u8 (bits .xor .u8 x b) b = x := by
  obtain ⟨a, rfl⟩ := u8_fin hx
  obtain ⟨c, rfl⟩ := u8_fin hb
  exact xor_twice8 a c
theorem rotF_twice {n : Nat} {a q b : Int} {F : Nat → Int} (hF : ∀ j, (Lit.int .u8 (F j)).wf = true) (hb : (Lit.int .u8 b).wf = true) : rotF n a q b (rotF n a q b F) = F := by
  funext j
  show (if Inside n a q ∧ (j : Int) = 64 * a + q then bits .xor .u8 (rotF n a q b F j) b else rotF n a q b F j) = F j
  by_cases h : Inside n a q ∧ (j : Int) = 64 * a + q
  · rw [if_pos h]
    unfold rotF
    rw [if_pos h]
    exact xor_twice (hF j) hb
  · rw [if_neg h]
    unfold rotF
    rw [if_neg h]
/-- A row of n bytes at block g, made behind w1. -/
def Row (W : World) (g n : Nat) (f : Nat → Int) : Prop := ∃ cur, W.heap[g]? = some (.cells cur 5 (0, 0)) ∧ cur.size = n ∧ ∀ i, i < n → cur[i]? = some (.int .u8 (f i))
theorem Row.cell {W : World} {g n : Nat} {f : Nat → Int} (h : Row W g n f) {i : Nat} (hi : i < n) : W.cell? ⟨g, i, none⟩ = some (.int .u8 (f i)) := by
  obtain ⟨cur, h1, _, h2⟩ := h
  exact (blk_cell h1 i).trans (h2 i hi)
theorem Row.step {W W1 : World} {g n : Nat} {f : Nat → Int} (h : Row W g n f) (he : W1.heap[g]? = W.heap[g]?) : Row W1 g n f := by
  obtain ⟨cur, h1, h2⟩ := h
  exact ⟨cur, he.trans h1, h2⟩
theorem Row.by_ {W : World} {g n : Nat} {f : Nat → Int} (h : Row W g n f) : By W (some ⟨g, 0, none⟩) n f := .inr ⟨_, rfl, fun i hi => by
  rw [Addr.add_lit, Nat.zero_add]
  exact h.cell hi⟩
theorem Row.put {W : World} {g n : Nat} {f : Nat → Int} (h : Row W g n f) {k : Nat} (hk : k < n) (v : Int) : Row (W.setCell ⟨g, k, none⟩ (.int .u8 v)) g n (fun i => if i = k then v else f i) := by
  obtain ⟨cur, h1, h2, h3⟩ := h
  exact ⟨_, blk_set h1 _ _, by rw [Array.size_setIfInBounds]; exact h2, fun i hi => put_get h3 hk v i hi⟩
theorem Row.lt {W : World} {g n : Nat} {f : Nat → Int} (h : Row W g n f) : g < W.heap.size := by
  obtain ⟨cur, h1, _⟩ := h
  exact blk_lt h1
theorem row_str {W : World} {g n G : Nat} {f : Nat → Int} (h : ∀ i, i < n → W.cell? ⟨g, i, none⟩ = some (.int .u8 (f i))) : (convert 30 9 (.slice (some ⟨g, 0, none⟩) n G)).run Try.prog W = .ok (.string (strOfNums ((List.range n).map f))) W := by
  refine run_convert_bytes_arg W _ _ Try.underlying30 Try.underlying5 g 0 n G _ (by simp) (fun i hi => ?_) _ Try.underlying9
  rw [Nat.zero_add, h i hi]
  simp [List.getD, hi]
theorem row_made (W : World) (n : Nat) : Row (W.alloc (.cells (madeCells #[.int .u8 0] n) 5)) W.heap.size n (fun _ => 0) := ⟨_, blk_new W _, by simp [madeCells], fun i hi => made_get n i hi⟩
theorem row_frozen {W : World} {g n : Nat} {f : Nat → Int} (h : Row W g n f) (i : Nat) : W.frozen? ⟨g, i, none⟩ = false := by
  obtain ⟨cur, h1, _⟩ := h
  exact blk_frozen h1 i
theorem Row.of_fresh {W w' : World} {v : Value} {n : Nat} {f : Nat → Int} (h : Fresh W w' v n f) (hn : 0 < n) : ∃ g G, v = .slice (some ⟨g, 0, none⟩) n G ∧ n ≤ G ∧ W.heap.size ≤ g ∧ g < w'.heap.size ∧ ∀ i, i < n → w'.cell? ⟨g, i, none⟩ = some (.int .u8 (f i)) := by
  obtain ⟨g, G, cur, e, hG, hg, h1, h2⟩ := fresh_row h hn
  exact ⟨g, G, e, hG, hg, blk_lt h1, fun i hi => (blk_cell h1 i).trans (h2 i hi)⟩
end Go.Proofs.Ytojpmihgpjmobaa.X
