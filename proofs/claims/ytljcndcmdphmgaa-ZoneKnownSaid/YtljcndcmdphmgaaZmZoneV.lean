import Derived.Test.YtljcndcmdphmgaaZm11
/-
  Zones, in plain Lean: which pages are out. No condition.
-/
namespace Go.Proofs.Ytljcndcmdphmgaa
open Go.RowKit
/-- does the block that begins at x.1 have page k? -/
def inBlk (x : Int × Int) (k : Int) : Prop := x.1 ≤ k ∧ k < x.1 + 2 ^ x.2.toNat
def covers (l : List (Int × Int)) (k : Int) : Prop := ∃ x ∈ l, inBlk x k
def marksL (p : Nat → Bool) : List Int := (List.range 1024).map fun k => if p k then 1 else 0
theorem marksL_len (p : Nat → Bool) : (marksL p).length = 1024 := by simp [marksL]
theorem marksL_get (p : Nat → Bool) {k : Nat} (hk : k < 1024) : (marksL p)[k]? = some (if p k then 1 else 0) := by
  unfold marksL
  rw [List.getElem?_map, List.getElem?_range hk]
  rfl
theorem marksL_set (p : Nat → Bool) {k : Nat} (hk : k < 1024) : (marksL p).set k 1 = marksL fun q => p q || q == k := by
  apply List.ext_getElem?
  intro q
  rw [List.getElem?_set]
  by_cases hq : q < 1024
  · rw [marksL_get (fun q => p q || q == k) hq]
    by_cases he : k = q
    · subst he
      rw [if_pos rfl, if_pos (by rw [marksL_len]; exact hk)]
      simp
    · rw [if_neg he, marksL_get p hq]
      have : (q == k) = false := beq_eq_false_iff_ne.2 (by omega)
      rw [this, Bool.or_false]
  · rw [List.getElem?_eq_none (l := marksL fun q => p q || q == k) (by rw [marksL_len]; omega)]
    rw [List.getElem?_eq_none (l := marksL p) (by rw [marksL_len]; omega)]
    rw [if_neg (by omega)]
theorem range_const (n : Nat) : ((List.range n).map fun _ => (0 : Int)) = List.replicate n 0 := by
  rw [List.map_const', List.length_range]
theorem marksL_zero : marksL (fun _ => false) = List.replicate 1024 0 := range_const 1024
section
variable {L : List Pg} {X : List (List Int)} {f : Int → Option Int} {out : List (Int × Int)} {N : Nat}
theorem zout_blk (h : ZInv L X f out N) {x : Int × Int} (hx : x ∈ out) : 0 ≤ x.1 ∧ 0 ≤ x.2 ∧ x.2 ≤ 10 ∧ x.1 + 2 ^ x.2.toNat ≤ N ∧ ∃ c, ∀ k : Nat, inBlk x k → BlkOf L k x.1.toNat (2, x.2, c) := by
  obtain ⟨h0, ho, c, hc⟩ := h.c.at_ x (List.mem_append_left _ hx)
  obtain ⟨bs, hT⟩ := bInv_tab h.c.b
  have hal := (tab_align hT hc (by simp)).2.1
  have hsz : pgSize ((2 : Int), x.2, c) = 2 ^ x.2.toNat := rfl
  rw [hsz, h.c.len] at hal
  have hpw := pow_cast x.2.toNat
  obtain ⟨b1, b2, hb, -⟩ := tab_block hT hc (by simp)
  rw [hb] at hT
  have ho10 := pgHead_order ((row_append b1 _ 0).1 hT.2).2.1
  simp only at ho10
  refine ⟨h0, ho, ho10.2, by omega, c, fun k hk => ⟨hc, by simp, ?_, ?_⟩⟩
  · have := hk.1
    omega
  · have := hk.2
    rw [hsz]
    omega
theorem zout_apart (h : ZInv L X f out N) {i j : Nat} {x y : Int × Int} (hx : out[i]? = some x) (hy : out[j]? = some y) {k : Nat} (hk : inBlk x k) (hk' : inBlk y k) : i = j := by
  obtain ⟨x0, -, -, -, c, hc⟩ := zout_blk h (List.mem_of_getElem? hx)
  obtain ⟨y0, -, -, -, d, hd⟩ := zout_blk h (List.mem_of_getElem? hy)
  obtain ⟨bs, hT⟩ := bInv_tab h.c.b
  obtain ⟨he, -⟩ := blkOf_one hT (hc k hk) (hd k hk')
  have he2 : x.1 = y.1 := by omega
  have hnd := binv_nodup h.c.b
  rw [List.map_append, List.nodup_append] at hnd
  have hnd := hnd.1
  obtain ⟨hi, rfl⟩ := List.getElem?_eq_some_iff.1 hx
  obtain ⟨hj, rfl⟩ := List.getElem?_eq_some_iff.1 hy
  unfold List.Nodup at hnd
  rw [List.pairwise_map, List.pairwise_iff_getElem] at hnd
  apply Classical.byContradiction
  intro hne
  rcases Nat.lt_or_gt_of_ne hne with hlt | hlt
  · exact hnd i j hi hj hlt he2
  · exact hnd j i hj hi hlt he2.symm
/-- is a page told just if it is out? -/
theorem ztold_iff (h : ZInv L X f out N) {k : Int} {t : Option (Int × Int × Int)} (ht : ZTagIs L X f k t) : t.isSome = true ↔ covers out k := by
  constructor
  · intro hs
    cases t with
    | none => cases hs
    | some v =>
      obtain ⟨a, o, c⟩ := v
      obtain ⟨h1, h2, h3⟩ := zinv_told h ht
      exact ⟨_, h1, h2, h3⟩
  · rintro ⟨x, hx, h1, h2⟩
    obtain ⟨c, -, rfl⟩ := zinv_tag h hx h1 h2 ht
    rfl
/-- what is left, and the pages of the first blocks -/
def sumTo (F : Int) (out : List (Int × Int)) (i : Nat) : Int := F + ((out.take i).map fun x => (2 : Int) ^ x.2.toNat).sum
theorem sumTo_step (F : Int) {i : Nat} {x : Int × Int} (hx : out[i]? = some x) : sumTo F out (i + 1) = sumTo F out i + 2 ^ x.2.toNat := by
  obtain ⟨hi, rfl⟩ := List.getElem?_eq_some_iff.1 hx
  unfold sumTo
  rw [List.take_succ_eq_append_getElem hi, List.map_append, List.sum_append]
  simp
  omega
theorem sumTo_bd (h : ZInv L X f out N) (i : Nat) : 0 ≤ sumTo (zLeftOf L X) out i ∧ sumTo (zLeftOf L X) out i ≤ N := by
  have h1 := zleft_sum h
  have h2 := pow_sum_nn (out.take i)
  have h3 := pow_sum_nn (out.drop i)
  have h4 := (zleft_bd h).1
  have h5 : (out.map fun x => (2 : Int) ^ x.2.toNat).sum = ((out.take i).map fun x => (2 : Int) ^ x.2.toNat).sum + ((out.drop i).map fun x => (2 : Int) ^ x.2.toNat).sum := by
    rw [← List.sum_append, ← List.map_append, List.take_append_drop]
  unfold sumTo
  omega
theorem sumTo_all (h : ZInv L X f out N) : sumTo (zLeftOf L X) out out.length = N := by
  unfold sumTo
  rw [List.take_length]
  exact zleft_sum h
theorem sumTo_zero (F : Int) (out : List (Int × Int)) : sumTo F out 0 = F := by simp [sumTo]
/-- the marks, when i blocks are marked -/
def MarkO (p : Nat → Bool) (out : List (Int × Int)) (i : Nat) : Prop := ∀ k : Nat, p k = true ↔ covers (out.take i) k
/-- .. and of the next one what lies ahead of j -/
def MarkI (p : Nat → Bool) (out : List (Int × Int)) (i : Nat) (a : Int) (j : Int) : Prop := ∀ k : Nat, p k = true ↔ covers (out.take i) k ∨ (a ≤ k ∧ (k : Int) < j)
theorem markO_zero (out : List (Int × Int)) : MarkO (fun _ => false) out 0 := fun k => by simp [covers]
theorem markI_start {p : Nat → Bool} {i : Nat} (a : Int) (h : MarkO p out i) : MarkI p out i a a := fun k => by
  rw [h k]
  constructor
  · exact .inl
  · rintro (h | h)
    · exact h
    · omega
theorem markI_step {p : Nat → Bool} {i : Nat} {a : Int} {j : Nat} (h : MarkI p out i a j) (ha : a ≤ j) : MarkI (fun q => p q || q == j) out i a ((j : Int) + 1) := fun k => by
  rw [Bool.or_eq_true, h k, beq_iff_eq]
  constructor
  · rintro ((h | h) | rfl)
    · exact .inl h
    · exact .inr ⟨h.1, by omega⟩
    · exact .inr ⟨ha, by omega⟩
  · rintro (h | ⟨h1, h2⟩)
    · exact .inl (.inl h)
    · by_cases he : k = j
      · exact .inr he
      · exact .inl (.inr ⟨h1, by omega⟩)
theorem markI_end {p : Nat → Bool} {i : Nat} {x : Int × Int} (hx : out[i]? = some x) (h : MarkI p out i x.1 (x.1 + 2 ^ x.2.toNat)) : MarkO p out (i + 1) := fun k => by
  obtain ⟨hi, rfl⟩ := List.getElem?_eq_some_iff.1 hx
  rw [h k, List.take_succ_eq_append_getElem hi]
  unfold covers
  constructor
  · rintro (⟨y, hy, h1⟩ | h1)
    · exact ⟨y, List.mem_append_left _ hy, h1⟩
    · exact ⟨_, List.mem_append_right _ (List.mem_singleton.2 rfl), h1⟩
  · rintro ⟨y, hy, h1⟩
    rcases List.mem_append.1 hy with hy | hy
    · exact .inl ⟨y, hy, h1⟩
    · rw [List.mem_singleton.1 hy] at h1
      exact .inr h1
theorem markI_free (hI : ZInv L X f out N) {p : Nat → Bool} {i : Nat} {x : Int × Int} (hx : out[i]? = some x) {j : Nat} (h : MarkI p out i x.1 j) (h2 : inBlk x j) : p j = false := by
  cases hp : p j with
  | false => rfl
  | true =>
    exfalso
    rcases (h j).1 hp with ⟨y, hy, h1⟩ | h1
    · obtain ⟨q, hq⟩ := List.mem_iff_getElem?.1 hy
      rw [List.getElem?_take] at hq
      split at hq
      · have := zout_apart hI hx hq h2 h1
        omega
      · cases hq
    · omega
end
end Go.Proofs.Ytljcndcmdphmgaa
