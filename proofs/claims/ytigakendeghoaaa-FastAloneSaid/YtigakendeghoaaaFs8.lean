/-
  Texts of this claim, joined. No condition.
-/
import Derived.Test.YtigakendeghoaaaFs7
import Derived.Test.YtigakendeghoaaaFs6
import Derived.Test.YtigakendeghoaaaFs5
import Derived.RegionTactic
import Derived.Test.YtigakendeghoaaaFs4
import Derived.Maps.OwnSet
import Derived.Maps.OwnOps
/-
  Contracts: link.Fresh, count.Pack. No condition.
-/
namespace Go.Proofs.Ytigakendeghoaaa.Fast
open Go Mem See
open Go.RowKit
attribute [local go_sem ↓] Go.wp_at_zero Go.wp_at_succ
/-- links that rise: the first i of n -/
def freshL (n key : Nat) : List Nat := (List.range n).map fun i => if i + 1 = n then hideW (-1) key i else hideW ((i : Int) + 1) key i
/-- .. as the loop lays them: the first i -/
def freshI (n key i : Nat) : List Nat := (List.range n).map fun j => if j < i then hideW ((j : Int) + 1) key j else 0
section
variable {W w : World} {m : List (Nat × Obj)} {n key : Nat}
theorem freshI_zero : freshI n key 0 = List.replicate n 0 := by
  apply List.ext_getElem? 
  intro j
  simp [freshI, List.getElem?_replicate]
  by_cases h : j < n <;> simp [h]
theorem freshI_len (i : Nat) : (freshI n key i).length = n := by simp [freshI]
theorem freshI_set {i : Nat} (hi : i < n) : (freshI n key i).set i (hideW ((i : Int) + 1) key i) = freshI n key (i + 1) := by
  apply List.ext_getElem?
  intro j
  rw [List.getElem?_set]
  by_cases hij : i = j
  · subst hij
    simp [freshI, hi]
  · rw [if_neg hij]
    by_cases hj : j < n
    · simp only [freshI, List.getElem?_map, List.getElem?_range hj, Option.map_some]
      by_cases h1 : j < i
      · rw [if_pos h1, if_pos (by omega)]
      · rw [if_neg h1, if_neg (by omega)]
    · rw [List.getElem?_eq_none (by simp [freshI]; omega), List.getElem?_eq_none (by simp [freshI]; omega)]
theorem fresh_last (h : 0 < n) : (freshI n key n).set (n - 1) (hideW (-1) key (n - 1)) = freshL n key := by
  apply List.ext_getElem?
  intro j
  rw [List.getElem?_set]
  by_cases hij : n - 1 = j
  · subst hij
    have h1 : n - 1 < n := by omega
    have h2 : n - 1 + 1 = n := by omega
    simp [freshL, h1, h2, freshI]
  · rw [if_neg hij]
    by_cases hj : j < n
    · simp only [freshI, freshL, List.getElem?_map, List.getElem?_range hj, Option.map_some]
      rw [if_pos hj, if_neg (by omega)]
    · rw [List.getElem?_eq_none (by simp [freshI]; omega), List.getElem?_eq_none (by simp [freshL]; omega)]
theorem turned_eq (key i : Nat) : turned key i = hideW (-1) key i := by
  unfold hideW
  simp
set_option maxRecDepth 100000 in
set_option maxHeartbeats 2000000 in
theorem fresh_spec (h : Own W m w) (h1 : 1 ≤ n) (h2 : n ≤ 16) (hk : key < 18446744073709551616) :
    Calls Try.prog 72 #[.int .i64 n, .int .u64 key] w fun e w' => ∃ b, e = .returned (.tuple #[.slice (some ⟨b, 0, none⟩) n n, .int .i64 0]) ∧ Own W (wB b (freshL n key) :: m) w' := by
  obtain ⟨i, hi, hzz, hs, hby⟩ := info_get word_info
  have hmk := fun W => run_make_rowN (P := Try.prog) 35 22 i _ Try.underlying35 hi hzz .i64 .i64 n n (Nat.le_refl _) (by rw [hby]; omega) (by omega) W
  rw [hs, Nat.mul_one, madeCells_const _ (.int .u64 0) _ (by simp [Value.cells]) (by intro j hj; obtain rfl : j = 0 := (by simp [Value.cells] at hj; omega); rfl), row_zero, ← freshI_zero (key := key)] at hmk
  clear hi hzz hs hby
  have h3 : Own W (wB w.heap.size (freshI n key 0) :: m) _ := h.new (.cells (wRow (freshI n key 0)) 22)
  obtain ⟨b, hb⟩ : ∃ b, w.heap.size = b := ⟨_, rfl⟩
  rw [hb] at h3
  have H3 := Lib.hid h3
  have HK := Lib.hid hk
  have hi1 : (1 : Int) ≤ n := by omega
  have hi2 : (n : Int) ≤ 16 := by omega
  clear h h3 hk
  go_enter Try.func72, Try.ntmps72
  go_wp2_with fail
  try rw [hb]
  obtain ⟨wa, hwa⟩ : ∃ wa, w.alloc (.cells (wRow (freshI n key 0)) 22) = wa := ⟨_, rfl⟩
  have H4 := H3.out
  rw [hwa] at H4 ⊢
  clear hwa hmk H3
  have H5 := Lib.hid H4
  clear H4
  go_loopw [18] (fun iv wr => ∃ i : Nat, iv = .int .i64 i ∧ i ≤ n ∧ Own W (wB b (freshI n key i) :: m) wr) (fun iv _ => n - (intOf iv).toNat)
  case atStart => exact ⟨0, rfl, by omega, H5.out⟩
  case round =>
    clear H5
    obtain ⟨i, rfl, hi, hr⟩ := hrel
    by_cases hlt : i < n
    · have hlti : (i : Int) < n := by omega
      have hi0 : (0 : Int) ≤ i := by omega
      have ht := fun w => turned_spec key i HK.out (by omega) w
      have hb1 := u64_xor_nat (i + 2) (turned key i) (by omega) (turned_lt key i)
      have hw2 : hideW ((i : Int) + 1) key i = (i + 2) ^^^ turned key i := by unfold hideW; congr 1
      obtain ⟨T, hT⟩ : ∃ T, turned key i = T := ⟨_, rfl⟩
      obtain ⟨X, hX⟩ : ∃ X, (i + 2) ^^^ T = X := ⟨_, rfl⟩
      rw [hT] at ht hb1 hw2
      rw [hX] at hb1 hw2
      have hb2 : bits .xor .u64 ((i : Int) + 2) (T : Int) = (X : Int) := hb1
      have HT := Lib.hid ht
      have hx1 : (freshI n key i)[i]? = some 0 := by simp [freshI, hlt]
      obtain ⟨c0, f0⟩ := cell_w hr hx1
      have h5 := set_w hr i X
      rw [← hw2, freshI_set hlt] at h5
      rw [hw2] at h5
      have H6 := Lib.hid h5
      clear ht hb1 hT hX hw2 hx1 h5 hr
      go_wp2_with (go_at_call 89; refine (HT.out _).mono ?_; rintro e w' ⟨rfl, rfl⟩)
      exact ⟨⟨i + 1, by go_num, by omega, H6.out⟩, by simp [intOf]; omega⟩
    · obtain rfl : i = n := by omega
      have hlti : ¬ (i : Int) < i := by omega
      have ht := fun w => turned_spec key (i - 1) HK.out (by omega) w
      rw [show ((i - 1 : Nat) : Int) = (i : Int) - 1 from by omega] at ht
      rw [turned_eq] at ht
      obtain ⟨T, hT⟩ : ∃ T, hideW (-1) key (i - 1) = T := ⟨_, rfl⟩
      rw [hT] at ht
      have HT := Lib.hid ht
      obtain ⟨x1, hx1⟩ : ∃ x, (freshI i key i)[i - 1]? = some x := ⟨_, List.getElem?_eq_getElem (by rw [freshI_len]; omega)⟩
      obtain ⟨q, hq⟩ : ∃ q : Nat, i - 1 = q := ⟨_, rfl⟩
      have hqi : (i : Int) - 1 = (q : Int) := by omega
      have hq1 : (q : Int) < (i : Int) := by omega
      have h5 := set_w hr (i - 1) T
      rw [← hT, fresh_last (by omega)] at h5
      rw [hT] at h5
      rw [hq] at hx1 h5
      rw [hqi] at HT
      obtain ⟨c0, f0⟩ := cell_w hr hx1
      have H6 := Lib.hid h5
      clear ht hT hx1 h5 hr
      go_wp2_with (go_at_call 89; refine (HT.out _).mono ?_; rintro e w' ⟨rfl, rfl⟩)
      go_ret2
      exact ⟨b, rfl, H6.out⟩
end
end Go.Proofs.Ytigakendeghoaaa.Fast

/-
  Contract: count.Pack. No condition.
-/
namespace Go.Proofs.Ytigakendeghoaaa.See
open Go.RowKit
attribute [local go_sem ↓] Go.wp_at_zero Go.wp_at_succ
section
variable {W w : World} {m : List (Nat × Obj)}
theorem flag_spec (f : Bool) (x : Nat) (w : World) : Calls Try.prog 92 #[.bool f, .int .u64 x] w fun e w' => e = .returned (.int .u64 ((if f then x else 0 : Nat) : Int)) ∧ w = w' := by
  cases f
  all_goals
    go_enter Try.func92, Try.ntmps92
    go_wp2_with fail
    go_ret
    exact ⟨rfl, rfl⟩
theorem flag_y (x : Nat) (w : World) : Calls Try.prog 92 #[.bool true, .int .u64 x] w fun e w' => e = .returned (.int .u64 (x : Int)) ∧ w = w' := flag_spec true x w
theorem flag_n (x : Nat) (w : World) : Calls Try.prog 92 #[.bool false, .int .u64 x] w fun e w' => e = .returned (.int .u64 0) ∧ w = w' := flag_spec false x w
theorem or_low (b a i : Nat) (h : a < 2 ^ i) : a ||| 2 ^ i * b = 2 ^ i * b + a := by
  rw [Nat.or_comm]
  exact (Nat.two_pow_add_eq_or_of_lt h b).symm
theorem pack_bits (A B F L : Nat) (ha : A ≤ 255) (hb : B ≤ 255) (hf : F = 0 ∨ F = 65536) (hl : L = 0 ∨ L = 131072) :
    bits .or .u64 (bits .or .u64 (bits .or .u64 (IntKind.u64.wrap (A : Int)) (IntKind.u64.wrap (IntKind.u64.wrap (B : Int) * 256))) (F : Int)) (L : Int) = (A : Int) + 256 * (B : Int) + (F : Int) + (L : Int) := by
  have e1 : IntKind.u64.wrap (A : Int) = (A : Int) := by rw [IntKind.wrap_u64]; omega
  have e2 : IntKind.u64.wrap (IntKind.u64.wrap (B : Int) * 256) = ((256 * B : Nat) : Int) := by rw [IntKind.wrap_u64, IntKind.wrap_u64]; omega
  rw [e1, e2, u64_or_nat A (256 * B) (by omega) (by omega)]
  have h1 := or_low B A 8 (by omega)
  rw [show (2 : Nat) ^ 8 = 256 from rfl] at h1
  rw [h1, u64_or_nat (256 * B + A) F (by omega) (by omega)]
  have h2 : (256 * B + A) ||| F = 256 * B + A + F := by
    rcases hf with rfl | rfl
    · simp
    · have := or_low 1 (256 * B + A) 16 (by omega)
      simp only [Nat.mul_one] at this
      rw [show (2 : Nat) ^ 16 = 65536 from rfl] at this
      omega
  rw [h2, u64_or_nat (256 * B + A + F) L (by omega) (by omega)]
  have h3 : (256 * B + A + F) ||| L = 256 * B + A + F + L := by
    rcases hl with rfl | rfl
    · simp
    · have := or_low 1 (256 * B + A + F) 17 (by omega)
      simp only [Nat.mul_one] at this
      rw [show (2 : Nat) ^ 17 = 131072 from rfl] at this
      omega
  rw [h3]
  omega
/-- the word of counts -/
def packN (A B : Nat) (f l : Bool) : Nat := A + 256 * B + (if f then 65536 else 0) + (if l then 131072 else 0)
theorem nB_box {b : Nat} {a o : Int} {f l : Bool} (h : Own W ((b, .cells #[.int .i64 a, .int .i64 o, .bool f, .bool l] 80) :: m) w) : w.cell? ⟨b, 0, none⟩ = some (.int .i64 a) ∧ w.cell? ⟨b, 1, none⟩ = some (.int .i64 o) ∧ w.cell? ⟨b, 2, none⟩ = some (.bool f) ∧ w.cell? ⟨b, 3, none⟩ = some (.bool l) :=
  ⟨h.cell List.mem_cons_self 0, h.cell List.mem_cons_self 1, h.cell List.mem_cons_self 2, h.cell List.mem_cons_self 3⟩
set_option maxRecDepth 100000 in
set_option maxHeartbeats 2000000 in
theorem pack_ok (h : Own W m w) (A B : Nat) (ha : A ≤ 255) (hb : B ≤ 255) (f l : Bool) (hm : mayB A B f l = true) : Calls Try.prog 74 #[.agg #[.int .i64 A, .int .i64 B, .bool f, .bool l]] w fun e w' => e = .returned (.tuple #[.int .u64 (packN A B f l : Nat), .int .i64 0]) ∧ Own W m w' := by
  have h1 := h.new (.cells #[.int .i64 A, .int .i64 B, .bool f, .bool l] 80)
  obtain ⟨g, hg⟩ : ∃ g, w.heap.size = g := ⟨_, rfl⟩
  rw [hg] at h1
  have hmm := fun ws (hs : Own W ((g, Obj.cells #[.int .i64 A, .int .i64 B, .bool f, .bool l] 80) :: m) ws) => may_spec hs A B f l
  rw [hm] at hmm
  have HM := Lib.hid hmm
  have H1 := Lib.hid h1
  obtain ⟨y0, y1, y2, y3⟩ := nB_box h1
  clear hmm h1 h hm
  cases f <;> cases l
  · go_enter Try.func74, Try.ntmps74
    go_wp2_with fail
    refine (HM.out _ H1.out).mono ?_
    rintro e w2 ⟨rfl, h2⟩
    clear y0 y1 y2 y3
    obtain ⟨y0, y1, y2, y3⟩ := nB_box h2
    go_wp2_with fail
    go_region_held3 (fun w' => w'.cell? ⟨g, 0, none⟩ = some (.int .i64 A) ∧ w'.cell? ⟨g, 1, none⟩ = some (.int .i64 B) ∧ w'.cell? ⟨g, 2, none⟩ = some (.bool false) ∧ w'.cell? ⟨g, 3, none⟩ = some (.bool false)) (first | (refine ⟨?_, ?_, ?_, ?_⟩ <;> assumption) | go_keep)
      (first | (go_at_call 92; first | (refine (flag_n 65536 _).mono ?_; rintro e w' ⟨rfl, rfl⟩) | (refine (flag_n 131072 _).mono ?_; rintro e w' ⟨rfl, rfl⟩)))
    go_wp2_with fail
    go_ret2
    refine ⟨?_, h2.drew.skip⟩
    have hpb := pack_bits A B 0 0 ha hb (by simp) (by simp)
    simp [packN] at hpb ⊢
    omega
  · go_enter Try.func74, Try.ntmps74
    go_wp2_with fail
    refine (HM.out _ H1.out).mono ?_
    rintro e w2 ⟨rfl, h2⟩
    clear y0 y1 y2 y3
    obtain ⟨y0, y1, y2, y3⟩ := nB_box h2
    go_wp2_with fail
    go_region_held3 (fun w' => w'.cell? ⟨g, 0, none⟩ = some (.int .i64 A) ∧ w'.cell? ⟨g, 1, none⟩ = some (.int .i64 B) ∧ w'.cell? ⟨g, 2, none⟩ = some (.bool false) ∧ w'.cell? ⟨g, 3, none⟩ = some (.bool true)) (first | (refine ⟨?_, ?_, ?_, ?_⟩ <;> assumption) | go_keep)
      (first | (go_at_call 92; first | (refine (flag_n 65536 _).mono ?_; rintro e w' ⟨rfl, rfl⟩) | (refine (flag_y 131072 _).mono ?_; rintro e w' ⟨rfl, rfl⟩)))
    go_wp2_with fail
    go_ret2
    refine ⟨?_, h2.drew.skip⟩
    have hpb := pack_bits A B 0 131072 ha hb (by simp) (by simp)
    simp [packN] at hpb ⊢
    omega
  · go_enter Try.func74, Try.ntmps74
    go_wp2_with fail
    refine (HM.out _ H1.out).mono ?_
    rintro e w2 ⟨rfl, h2⟩
    clear y0 y1 y2 y3
    obtain ⟨y0, y1, y2, y3⟩ := nB_box h2
    go_wp2_with fail
    go_region_held3 (fun w' => w'.cell? ⟨g, 0, none⟩ = some (.int .i64 A) ∧ w'.cell? ⟨g, 1, none⟩ = some (.int .i64 B) ∧ w'.cell? ⟨g, 2, none⟩ = some (.bool true) ∧ w'.cell? ⟨g, 3, none⟩ = some (.bool false)) (first | (refine ⟨?_, ?_, ?_, ?_⟩ <;> assumption) | go_keep)
      (first | (go_at_call 92; first | (refine (flag_y 65536 _).mono ?_; rintro e w' ⟨rfl, rfl⟩) | (refine (flag_n 131072 _).mono ?_; rintro e w' ⟨rfl, rfl⟩)))
    go_wp2_with fail
    go_ret2
    refine ⟨?_, h2.drew.skip⟩
    have hpb := pack_bits A B 65536 0 ha hb (by simp) (by simp)
    simp [packN] at hpb ⊢
    omega
  · go_enter Try.func74, Try.ntmps74
    go_wp2_with fail
    refine (HM.out _ H1.out).mono ?_
    rintro e w2 ⟨rfl, h2⟩
    clear y0 y1 y2 y3
    obtain ⟨y0, y1, y2, y3⟩ := nB_box h2
    go_wp2_with fail
    go_region_held3 (fun w' => w'.cell? ⟨g, 0, none⟩ = some (.int .i64 A) ∧ w'.cell? ⟨g, 1, none⟩ = some (.int .i64 B) ∧ w'.cell? ⟨g, 2, none⟩ = some (.bool true) ∧ w'.cell? ⟨g, 3, none⟩ = some (.bool true)) (first | (refine ⟨?_, ?_, ?_, ?_⟩ <;> assumption) | go_keep)
      (first | (go_at_call 92; first | (refine (flag_y 65536 _).mono ?_; rintro e w' ⟨rfl, rfl⟩) | (refine (flag_y 131072 _).mono ?_; rintro e w' ⟨rfl, rfl⟩)))
    go_wp2_with fail
    go_ret2
    refine ⟨?_, h2.drew.skip⟩
    have hpb := pack_bits A B 65536 131072 ha hb (by simp) (by simp)
    simp [packN] at hpb ⊢
    omega
set_option maxRecDepth 100000 in
theorem pack_bad (h : Own W m w) (a b : Int) (f l : Bool) (hm : mayB a b f l = false) : Calls Try.prog 74 #[.agg #[.int .i64 a, .int .i64 b, .bool f, .bool l]] w fun e w' => e = .returned (.tuple #[.int .u64 0, .int .i64 2]) ∧ Own W m w' := by
  have h1 := h.new (.cells #[.int .i64 a, .int .i64 b, .bool f, .bool l] 80)
  obtain ⟨g, hg⟩ : ∃ g, w.heap.size = g := ⟨_, rfl⟩
  rw [hg] at h1
  have hmm := fun ws (hs : Own W ((g, Obj.cells #[.int .i64 a, .int .i64 b, .bool f, .bool l] 80) :: m) ws) => may_spec hs a b f l
  rw [hm] at hmm
  have HM := Lib.hid hmm
  have H1 := Lib.hid h1
  obtain ⟨y0, y1, y2, y3⟩ := nB_box h1
  clear hmm h1 h hm
  go_enter Try.func74, Try.ntmps74
  go_wp2_with fail
  refine (HM.out _ H1.out).mono ?_
  rintro e w2 ⟨rfl, h2⟩
  go_wp2_with fail
  go_ret2
  exact ⟨rfl, h2.skip⟩
end
end Go.Proofs.Ytigakendeghoaaa.See

/-
  Contract: wainscotlaw22.stocked. No condition.
-/
namespace Go.Proofs.Ytigakendeghoaaa.Fast
open Go Mem See Step
open Go.RowKit
open Apart (chV chB box6 ChAt)
open chartPlaces (Ok)
attribute [local go_sem ↓] Go.wp_at_zero Go.wp_at_succ
theorem ch_size : Ex.sizeT Try.prog 24 = some 6 := by kernel_rfl
/-- the words of a core of one processor and one slab: so many links are laid -/
def stL (n key objs i : Nat) : List Nat := List.replicate 12 0 ++ ((List.range objs).map fun j => if j < i then (freshL (max n 1) key).getD j 0 else 0)
/-- .. and the head, its turn, the counts -/
def stG (n key objs turn : Nat) : List Nat := (((stL n (See.keyOf key 0) objs n).set 0 (if n = 0 then 64 else 65)).set 1 turn).set 9 (packN objs objs true true)
theorem stL_len (n key objs i : Nat) : (stL n key objs i).length = 12 + objs := by
  simp only [stL, List.length_append, List.length_replicate, List.length_map, List.length_range]
theorem stL_zero (n key objs : Nat) : stL n key objs 0 = List.replicate (12 + objs) 0 := by
  unfold stL
  rw [← List.replicate_append_replicate]
  congr 1
  apply List.ext_getElem?
  intro j
  by_cases h : j < objs
  · simp [h]
  · rw [List.getElem?_eq_none (by simp; omega), List.getElem?_eq_none (by simp; omega)]
theorem stL_set {n key objs i : Nat} (hi : i < objs) : (stL n key objs i).set (12 + i) ((freshL (max n 1) key).getD i 0) = stL n key objs (i + 1) := by
  unfold stL
  rw [List.set_append, if_neg (by simp), List.length_replicate, Nat.add_sub_cancel_left]
  congr 1
  apply List.ext_getElem?
  intro j
  rw [List.getElem?_set]
  by_cases hij : i = j
  · subst hij
    simp [hi]
  · rw [if_neg hij]
    by_cases hj : j < objs
    · simp only [List.getElem?_map, List.getElem?_range hj, Option.map_some]
      by_cases h1 : j < i
      · rw [if_pos h1, if_pos (by omega)]
      · rw [if_neg h1, if_neg (by omega)]
    · rw [List.getElem?_eq_none (by simp; omega), List.getElem?_eq_none (by simp; omega)]
section
variable {W w : World} {m : List (Nat × Obj)} {n objs key turn : Nat}
theorem st_p {α : Type} (l c r x y : α) (q : List α) : (l :: x :: y :: c :: r :: q).Perm (x :: y :: l :: c :: r :: q) := by
  classical
  rw [List.perm_iff_count]
  intro a
  simp only [List.count_cons]
  omega
set_option maxRecDepth 100000 in
set_option maxHeartbeats 40000000 in
theorem stocked_spec (h : Own W m w) (hn : n ≤ objs) (h1 : 1 ≤ objs) (h2 : objs ≤ 16) (hk : key < 18446744073709551616) :
    Calls Try.prog 44 #[.int .i64 n, .int .i64 objs, .int .u64 key, .int .u64 turn] w fun e w' => ∃ b0 b1 k, k ≤ 100 ∧ e = .returned (.tuple #[.pointer (some ⟨b0, 0, none⟩), cV ⟨1, 1, objs, key⟩ 0 0]) ∧ Own W (mB b0 b1 (12 + objs) k :: wB b1 (stG n key objs turn) :: m) w' := by
  have hok : Ok (1 : Int) 1 objs 0 0 := by unfold chartPlaces.Ok; omega
  have hO1 := (h.new (.cells #[.int .i64 0, .int .i64 0, .int .i64 0, .int .i64 0, .int .i64 0, .int .u64 0] 24)).new (.cells #[.int .i64 1, .int .i64 1, .int .i64 objs, .int .i64 0, .int .i64 0, .int .u64 key] 24)
  obtain ⟨b, hb⟩ : ∃ b, w.heap.size = b := ⟨_, rfl⟩
  simp only [World.size_alloc] at hO1
  rw [hb] at hO1
  have hO1 : Own W (chB (b + 1) 1 1 objs 0 0 key :: chB b 0 0 0 0 0 0 :: m) _ := hO1
  obtain ⟨y0, y1, y2, y3, y4, y5⟩ := box6 hO1
  have H1 := Lib.hid hO1
  have HOK := Lib.hid hok
  have HK := Lib.hid hk
  obtain ⟨N, hN⟩ : ∃ N : Nat, 12 + objs = N := ⟨_, rfl⟩
  have hNi : 4 * (1 : Int) + 4 + 4 * 1 + 1 * (objs : Int) = (N : Int) := by omega
  have HNI := Lib.hid hNi
  have HNN := Lib.hid hN
  have hN1 : (1 : Int) ≤ (N : Int) := by omega
  have hno0 : ((N : Int) ≤ 1) = False ∨ True := .inr trivial
  clear h hO1 hok hk hNi hno0
  by_cases hn0 : n = 0
  · subst hn0
    go_enter Try.func44, Try.ntmps44
    go_wp2_with fail
    refine (Apart.words_ok (key := (key : Int)) HOK.out H1.out).mono ?_
    rintro r w2 ⟨rfl, h3⟩
    rw [HNI.out]
    clear y0 y1 y2 y3 y4 y5
    go_wp2_with fail
    refine (new_spec (N := N) h3 (by omega) (by omega)).mono ?_
    rintro r w3 ⟨b0, b1, rfl, h4⟩
    obtain ⟨y0, y1, y2, y3, y4, y5⟩ := box6 h4.skip.skip
    go_wp2_with fail
    refine (key_spec (c := ⟨1, 1, objs, key⟩) (d := 0) (e := 0) 0 (by omega) h4).mono ?_
    rintro r w4 ⟨rfl, h5⟩
    clear y0 y1 y2 y3 y4 y5 h3 h4
    obtain ⟨kk, hkk⟩ : ∃ kk, See.keyOf key 0 = kk := ⟨_, rfl⟩
    have hkk2 : kk < 18446744073709551616 := by rw [← hkk]; exact keyOf_lt _ _
    have HKK := Lib.hid hkk
    simp only [hkk]
    go_wp2_with fail
    refine (fresh_spec (n := 1) (key := kk) h5 (by omega) (by omega) hkk2).mono ?_
    rintro r w5 ⟨lb, rfl, h6⟩
    have h7 := h6.perm (st_p _ _ _ _ _ _)
    have hz : List.replicate N 0 = stL 0 kk objs 0 := by rw [← hN, stL_zero]
    rw [hz] at h7
    clear h5 h6 hkk
    go_wp2_with fail
    have H7 := Lib.hid h7
    clear h7
    go_loopw [15] (fun iv wr => iv = .int .i64 0 ∧ Own W (mB b0 b1 N 0 :: wB b1 (stL 0 kk objs 0) :: wB lb (freshL 1 kk) :: chB (b + 1) 1 1 objs 0 0 key :: chB b 0 0 0 0 0 0 :: m) wr) (fun iv _ => 0)
    case atStart => exact ⟨rfl, H7.out⟩
    case round =>
      clear H7
      obtain ⟨rfl, hr⟩ := hrel
      have HR := Lib.hid hr
      clear hr
      obtain ⟨y0, y1, y2, y3, y4, y5⟩ := box6 HR.out.skip.skip.skip
      have hNb : N ≤ 4096 := by omega
      have hNc : 13 ≤ N := by omega
      clear hN
      obtain ⟨gl, hgl⟩ : ∃ gl, stL 0 kk objs 0 = gl := ⟨_, rfl⟩
      have hlen : gl.length = N := by rw [← hgl, stL_len]; exact HNN.out
      have HLEN := Lib.hid hlen
      have HGL := Lib.hid hgl
      have HR2 := HR.out
      rw [hgl] at HR2
      have HR3 := Lib.hid HR2
      clear hgl hlen HR2
      go_wp2_with fail
      refine (head_ok 0 (-1) (by unfold headOk; omega) _).mono ?_
      rintro r w10 ⟨rfl, rfl⟩
      have hhw : headW 0 (-1) = 64 := rfl
      rw [hhw]
      go_wp2_with fail
      refine (pack_ok HR3.out objs objs (by omega) (by omega) true true (by simp [mayB]; omega)).mono ?_
      rintro r w11 ⟨rfl, h11⟩
      obtain ⟨pw, hpw⟩ : ∃ pw, packN objs objs true true = pw := ⟨_, rfl⟩
      have HPW := Lib.hid hpw
      rw [hpw]
      clear y0 y1 y2 y3 y4 y5 hpw hhw
      obtain ⟨y0, y1, y2, y3, y4, y5⟩ := box6 h11.skip.skip.skip
      go_wp2_with fail
      refine (Apart.head_ok (i := 0) HOK.out (by omega) h11).mono ?_
      rintro r w12 ⟨rfl, h12⟩
      clear y0 y1 y2 y3 y4 y5 h11
      obtain ⟨y0, y1, y2, y3, y4, y5⟩ := box6 h12.skip.skip.skip
      go_wp2_with fail
      refine (store_in (i := 0) (x := at_ gl 0) 64 h12 (at_some (by have := HLEN.out; omega)) HLEN.out (by omega) (by omega)).mono ?_
      rintro r w13 ⟨rfl, h13⟩
      clear y0 y1 y2 y3 y4 y5 h12
      obtain ⟨y0, y1, y2, y3, y4, y5⟩ := box6 h13.skip.skip.skip
      go_wp2_with fail
      refine (Apart.head_ok (i := 0) HOK.out (by omega) h13).mono ?_
      rintro r w14 ⟨rfl, h14⟩
      clear y0 y1 y2 y3 y4 y5 h13
      obtain ⟨y0, y1, y2, y3, y4, y5⟩ := box6 h14.skip.skip.skip
      go_wp2_with fail
      refine (store_in (i := 1) (x := at_ (gl.set 0 64) 1) turn h14 (at_some (by rw [List.length_set]; have := HLEN.out; omega)) (by rw [List.length_set]; exact HLEN.out) (by omega) (by omega)).mono ?_
      rintro r w15 ⟨rfl, h15⟩
      clear y0 y1 y2 y3 y4 y5 h14
      obtain ⟨y0, y1, y2, y3, y4, y5⟩ := box6 h15.skip.skip.skip
      go_wp2_with fail
      refine (Apart.first_ok (i := 0) HOK.out (by omega) h15).mono ?_
      rintro r w16 ⟨rfl, h16⟩
      clear y0 y1 y2 y3 y4 y5 h15
      obtain ⟨y0, y1, y2, y3, y4, y5⟩ := box6 h16.skip.skip.skip
      go_wp2_with fail
      refine (store_in (i := 9) (x := at_ ((gl.set 0 64).set 1 turn) 9) pw h16 (at_some (by rw [List.length_set, List.length_set]; have := HLEN.out; omega)) (by rw [List.length_set, List.length_set]; exact HLEN.out) (by omega) (by omega)).mono ?_
      rintro r w17 ⟨rfl, h17⟩
      clear y0 y1 y2 y3 y4 y5 h16
      obtain ⟨y0, y1, y2, y3, y4, y5⟩ := box6 h17.skip.skip.skip
      have H17 := Lib.hid h17
      clear h17
      obtain ⟨v0, v1, v2, v3, v4, v5⟩ := box6 H17.out.skip.skip.skip.skip
      have vf := fun i => H17.out.skip.skip.skip.skip.frozen List.mem_cons_self i
      have vf0 := vf 0
      have vf1 := vf 1
      have vf2 := vf 2
      have vf3 := vf 3
      have vf4 := vf 4
      have vf5 := vf 5
      have k1 : b ≠ b + 1 := by omega
      have k2 : b + 1 ≠ b := by omega
      clear vf
      go_wp2_with fail
      go_region
      have h18 := (((((((H17.out.perm (up4 _ _ _ _ _ _)).set 0 (.int .i64 1)).set 1 (.int .i64 1)).set 2 (.int .i64 objs)).set 3 (.int .i64 0)).set 4 (.int .i64 0)).set 5 (.int .u64 (key : Int))).drew
      have h18 : Own W (chB b 1 1 objs 0 0 key :: _) _ := h18
      obtain ⟨q0, q1, q2, q3, q4, q5⟩ := box6 h18
      have hg9 : stG 0 key objs turn = ((gl.set 0 64).set 1 turn).set 9 pw := by
        unfold stG
        rw [HKK.out, HGL.out, HPW.out, if_pos rfl]
      have hfin := h18.skip.sub ((((List.sublist_cons_self _ _).trans (List.sublist_cons_self _ _)).cons_cons _).cons_cons _)
      rw [← hg9] at hfin
      have HNN2 := HNN.out
      go_wp2_with fail
      exact bodyPost_ret (v := .tuple #[.pointer (some ⟨b0, 0, none⟩), .agg #[.int .i64 1, .int .i64 1, .int .i64 objs, .int .i64 0, .int .i64 0, .int .u64 (key : Int)]]) (by simp [results, Try.f44, go_sem, q0, q1, q2, q3, q4, q5]) rfl ⟨b0, b1, 0 + 1 + 1 + 1, by omega, rfl, by rw [HNN2]; exact hfin⟩
  · have hn1 : (1 : Int) ≤ (n : Int) := by omega
    have hne : ((n : Int) == 0) = false := by simpa using hn0
    have hmax : max n 1 = n := by omega
    go_enter Try.func44, Try.ntmps44
    go_wp2_with fail
    refine (Apart.words_ok (key := (key : Int)) HOK.out H1.out).mono ?_
    rintro r w2 ⟨rfl, h3⟩
    rw [HNI.out]
    clear y0 y1 y2 y3 y4 y5
    go_wp2_with fail
    refine (new_spec (N := N) h3 (by omega) (by omega)).mono ?_
    rintro r w3 ⟨b0, b1, rfl, h4⟩
    obtain ⟨y0, y1, y2, y3, y4, y5⟩ := box6 h4.skip.skip
    go_wp2_with fail
    refine (key_spec (c := ⟨1, 1, objs, key⟩) (d := 0) (e := 0) 0 (by omega) h4).mono ?_
    rintro r w4 ⟨rfl, h5⟩
    clear y0 y1 y2 y3 y4 y5 h3 h4
    obtain ⟨kk, hkk⟩ : ∃ kk, See.keyOf key 0 = kk := ⟨_, rfl⟩
    have hkk2 : kk < 18446744073709551616 := by rw [← hkk]; exact keyOf_lt _ _
    have HKK := Lib.hid hkk
    simp only [hkk]
    go_wp2_with fail
    refine (fresh_spec (n := n) (key := kk) h5 (by omega) (by omega) hkk2).mono ?_
    rintro r w5 ⟨lb, rfl, h6⟩
    have h7 := h6.perm (st_p _ _ _ _ _ _)
    have hz : List.replicate N 0 = stL n kk objs 0 := by rw [← hN, stL_zero]
    rw [hz] at h7
    clear h5 h6 hkk
    go_wp2_with fail
    have H7 := Lib.hid h7
    clear h7
    go_loopw [15] (fun iv wr => ∃ i : Nat, iv = .int .i64 i ∧ i ≤ n ∧ Own W (mB b0 b1 N i :: wB b1 (stL n kk objs i) :: wB lb (freshL n kk) :: chB (b + 1) 1 1 objs 0 0 key :: chB b 0 0 0 0 0 0 :: m) wr) (fun iv _ => n - (intOf iv).toNat)
    case atStart => exact ⟨0, rfl, by omega, H7.out⟩
    case round =>
      clear H7
      obtain ⟨i, rfl, hi, hr⟩ := hrel
      by_cases hlt : i < n
      · have hlti : (i : Int) < (n : Int) := by omega
        have hi0 : (0 : Int) ≤ (i : Int) := by omega
        obtain ⟨y0, y1, y2, y3, y4, y5⟩ := box6 hr.skip.skip.skip
        obtain ⟨x, hx⟩ : ∃ x, (freshL n kk)[i]? = some x := ⟨_, List.getElem?_eq_getElem (by simp [freshL]; omega)⟩
        obtain ⟨c0, -⟩ := cell_w hr.skip.skip hx
        have hx2 : (freshL (max n 1) kk).getD i 0 = x := by rw [hmax, List.getD_eq_getElem?_getD, hx]; rfl
        have hset := stL_set (n := n) (key := kk) (objs := objs) (i := i) (by omega)
        rw [hx2] at hset
        obtain ⟨old, hold⟩ : ∃ o, (stL n kk objs i)[12 + i]? = some o := ⟨_, List.getElem?_eq_getElem (by rw [stL_len]; omega)⟩
        have hpl : 4 * (1 : Int) + 4 + 4 * 1 + 0 * (objs : Int) + (i : Int) = ((12 + i : Nat) : Int) := by omega
        have HPL := Lib.hid hpl
        have HOLD := Lib.hid hold
        have HX := Lib.hid hx
        have HSET := Lib.hid hset
        have HR := Lib.hid hr
        clear hx hx2 hset hold hpl hr
        go_wp2_with fail
        go_region_held3 (fun w' => w'.cell? ⟨b + 1, 0, none⟩ = some (.int .i64 1) ∧ w'.cell? ⟨b + 1, 1, none⟩ = some (.int .i64 1) ∧ w'.cell? ⟨b + 1, 2, none⟩ = some (.int .i64 objs) ∧ w'.cell? ⟨b + 1, 3, none⟩ = some (.int .i64 0) ∧ w'.cell? ⟨b + 1, 4, none⟩ = some (.int .i64 0) ∧ w'.cell? ⟨b + 1, 5, none⟩ = some (.int .u64 (key : Int)) ∧ w'.cell? ⟨lb, i, none⟩ = some (.int .u64 (x : Int))) (first | (refine ⟨?_, ?_, ?_, ?_, ?_, ?_, ?_⟩ <;> assumption) | go_keep)
          (first | (go_at_call 20; refine (Apart.link_ok (i := 0) (k := (i : Int)) HOK.out (by omega) (by omega) HR.out.drew).mono ?_; rintro r w7 ⟨rfl, h8⟩; rw [HPL.out]; obtain ⟨y0, y1, y2, y3, y4, y5⟩ := box6 h8.skip.skip.skip; obtain ⟨c0, -⟩ := cell_w h8.skip.skip HX.out) |
            (go_at_call 49; refine (store_in x h8 HOLD.out (by rw [stL_len]; exact hN) (by omega) (by omega)).mono ?_; rintro r w8 ⟨rfl, h9⟩; obtain ⟨y0, y1, y2, y3, y4, y5⟩ := box6 h9.skip.skip.skip; obtain ⟨c0, -⟩ := cell_w h9.skip.skip HX.out))
        rw [HSET.out] at h9
        go_wp2_with fail
        exact ⟨⟨i + 1, by go_num, by omega, h9⟩, by simp [intOf]; omega⟩
      · obtain rfl : i = n := by omega
        have hlti : ¬ (i : Int) < (i : Int) := by omega
        have HR := Lib.hid hr
        clear hr
        obtain ⟨y0, y1, y2, y3, y4, y5⟩ := box6 HR.out.skip.skip.skip
        have hNb : N ≤ 4096 := by omega
        have hNc : 13 ≤ N := by omega
        clear hN
        obtain ⟨gl, hgl⟩ : ∃ gl, stL i kk objs i = gl := ⟨_, rfl⟩
        have hlen : gl.length = N := by rw [← hgl, stL_len]; exact HNN.out
        have HLEN := Lib.hid hlen
        have HGL := Lib.hid hgl
        have HR2 := HR.out
        rw [hgl] at HR2
        have HR3 := Lib.hid HR2
        clear hgl hlen HR2
        go_wp2_with fail
        refine (head_ok 0 0 (by unfold headOk; omega) _).mono ?_
        rintro r w10 ⟨rfl, rfl⟩
        have hhw : headW 0 0 = 65 := rfl
        rw [hhw]
        go_wp2_with fail
        refine (pack_ok HR3.out objs objs (by omega) (by omega) true true (by simp [mayB]; omega)).mono ?_
        rintro r w11 ⟨rfl, h11⟩
        obtain ⟨pw, hpw⟩ : ∃ pw, packN objs objs true true = pw := ⟨_, rfl⟩
        have HPW := Lib.hid hpw
        rw [hpw]
        clear y0 y1 y2 y3 y4 y5 hpw hhw
        obtain ⟨y0, y1, y2, y3, y4, y5⟩ := box6 h11.skip.skip.skip
        go_wp2_with fail
        refine (Apart.head_ok (i := 0) HOK.out (by omega) h11).mono ?_
        rintro r w12 ⟨rfl, h12⟩
        clear y0 y1 y2 y3 y4 y5 h11
        obtain ⟨y0, y1, y2, y3, y4, y5⟩ := box6 h12.skip.skip.skip
        go_wp2_with fail
        refine (store_in (i := 0) (x := at_ gl 0) 65 h12 (at_some (by have := HLEN.out; omega)) HLEN.out (by omega) (by omega)).mono ?_
        rintro r w13 ⟨rfl, h13⟩
        clear y0 y1 y2 y3 y4 y5 h12
        obtain ⟨y0, y1, y2, y3, y4, y5⟩ := box6 h13.skip.skip.skip
        go_wp2_with fail
        refine (Apart.head_ok (i := 0) HOK.out (by omega) h13).mono ?_
        rintro r w14 ⟨rfl, h14⟩
        clear y0 y1 y2 y3 y4 y5 h13
        obtain ⟨y0, y1, y2, y3, y4, y5⟩ := box6 h14.skip.skip.skip
        go_wp2_with fail
        refine (store_in (i := 1) (x := at_ (gl.set 0 65) 1) turn h14 (at_some (by rw [List.length_set]; have := HLEN.out; omega)) (by rw [List.length_set]; exact HLEN.out) (by omega) (by omega)).mono ?_
        rintro r w15 ⟨rfl, h15⟩
        clear y0 y1 y2 y3 y4 y5 h14
        obtain ⟨y0, y1, y2, y3, y4, y5⟩ := box6 h15.skip.skip.skip
        go_wp2_with fail
        refine (Apart.first_ok (i := 0) HOK.out (by omega) h15).mono ?_
        rintro r w16 ⟨rfl, h16⟩
        clear y0 y1 y2 y3 y4 y5 h15
        obtain ⟨y0, y1, y2, y3, y4, y5⟩ := box6 h16.skip.skip.skip
        go_wp2_with fail
        refine (store_in (i := 9) (x := at_ ((gl.set 0 65).set 1 turn) 9) pw h16 (at_some (by rw [List.length_set, List.length_set]; have := HLEN.out; omega)) (by rw [List.length_set, List.length_set]; exact HLEN.out) (by omega) (by omega)).mono ?_
        rintro r w17 ⟨rfl, h17⟩
        clear y0 y1 y2 y3 y4 y5 h16
        obtain ⟨y0, y1, y2, y3, y4, y5⟩ := box6 h17.skip.skip.skip
        have H17 := Lib.hid h17
        clear h17
        obtain ⟨v0, v1, v2, v3, v4, v5⟩ := box6 H17.out.skip.skip.skip.skip
        have vf := fun i => H17.out.skip.skip.skip.skip.frozen List.mem_cons_self i
        have vf0 := vf 0
        have vf1 := vf 1
        have vf2 := vf 2
        have vf3 := vf 3
        have vf4 := vf 4
        have vf5 := vf 5
        have k1 : b ≠ b + 1 := by omega
        have k2 : b + 1 ≠ b := by omega
        clear vf
        go_wp2_with fail
        go_region
        have h18 := (((((((H17.out.perm (up4 _ _ _ _ _ _)).set 0 (.int .i64 1)).set 1 (.int .i64 1)).set 2 (.int .i64 objs)).set 3 (.int .i64 0)).set 4 (.int .i64 0)).set 5 (.int .u64 (key : Int))).drew
        have h18 : Own W (chB b 1 1 objs 0 0 key :: _) _ := h18
        obtain ⟨q0, q1, q2, q3, q4, q5⟩ := box6 h18
        have hg9 : stG i key objs turn = ((gl.set 0 65).set 1 turn).set 9 pw := by
          unfold stG
          rw [HKK.out, HGL.out, HPW.out, if_neg hn0]
        have hfin := h18.skip.sub ((((List.sublist_cons_self _ _).trans (List.sublist_cons_self _ _)).cons_cons _).cons_cons _)
        rw [← hg9] at hfin
        have HNN2 := HNN.out
        go_wp2_with fail
        exact bodyPost_ret (v := .tuple #[.pointer (some ⟨b0, 0, none⟩), .agg #[.int .i64 1, .int .i64 1, .int .i64 objs, .int .i64 0, .int .i64 0, .int .u64 (key : Int)]]) (by simp [results, Try.f44, go_sem, q0, q1, q2, q3, q4, q5]) rfl ⟨b0, b1, i + 1 + 1 + 1, by omega, rfl, by rw [HNN2]; exact hfin⟩
end
end Go.Proofs.Ytigakendeghoaaa.Fast

/-
  One processor, one slab: words that have a list at the head; what a step makes of them. Plain. No condition.
-/
namespace Go.Proofs.Ytigakendeghoaaa.Fast
open See Step
/-- a list's first one, -1 if there is none -/
def fst (L : List Int) : Int := L.headD (-1)
/-- each object's word shows the next one -/
def Lk (g : List Nat) (key : Nat) : List Int → Prop
  | [] => True
  | x :: L => showOf (at_ g (12 + x.toNat)) (See.keyOf key 0) x.toNat = some (fst L) ∧ Lk g key L
/-- a core of one processor and one slab whose head has a list, and its turn -/
structure Good (O key : Nat) (g : List Nat) (L : List Int) (T : Nat) : Prop where
  len : g.length = 12 + O
  w64 : W64 g
  h0 : at_ g 0 = headW 0 (fst L)
  h1 : at_ g 1 = T
  h2 : at_ g 2 = 0
  h5 : at_ g 5 = 0
  h8 : at_ g 8 = 0
  h9 : at_ g 9 = packN O O true true
  nd : L.Nodup
  bd : ∀ x ∈ L, 0 ≤ x ∧ x < O
  lk : Lk g key L
section
variable {O key T T' : Nat} {g : List Nat} {L : List Int} {x o : Int}
abbrev ch (O key : Nat) : Ch := ⟨1, 1, O, key⟩
theorem fst_in (h : ∀ x ∈ L, 0 ≤ x ∧ x < (O : Int)) : -1 ≤ fst L ∧ fst L < O := by
  cases L with
  | nil => exact ⟨by decide, by show (-1 : Int) < O; omega⟩
  | cons x L =>
    have := h x List.mem_cons_self
    exact ⟨by show (-1 : Int) ≤ x; omega, by show x < (O : Int); omega⟩
theorem headOf_W (h0 : -1 ≤ o) (h1 : o < 16) : headOf (headW 0 o) = some (0, o) := by
  unfold headOf headW
  rw [if_neg (by omega), if_pos (by omega)]
  congr 1
  rw [Prod.mk.injEq]
  omega
theorem headW_lt (h1 : o < 16) : headW 0 o < 18446744073709551616 := by unfold headW; omega
theorem at_set_self {g : List Nat} {i w : Nat} (h : i < g.length) : at_ (g.set i w) i = w := by
  unfold at_
  rw [List.getD_eq_getElem?_getD, List.getElem?_set_self h]
  rfl
theorem at_set_ne {g : List Nat} {i j w : Nat} (h : i ≠ j) : at_ (g.set i w) j = at_ g j := by
  unfold at_
  rw [List.getD_eq_getElem?_getD, List.getD_eq_getElem?_getD, List.getElem?_set_ne h]
theorem w64_set {g : List Nat} {i w : Nat} (h : W64 g) (hw : w < 18446744073709551616) : W64 (g.set i w) := fun x hx => by
  rcases List.mem_or_eq_of_mem_set hx with hx | rfl
  · exact h x hx
  · exact hw
theorem Lk.far {g' : List Nat} (h : Lk g key L) (hd : ∀ x ∈ L, at_ g' (12 + x.toNat) = at_ g (12 + x.toNat)) : Lk g' key L := by
  induction L with
  | nil => trivial
  | cons x L ih =>
    refine ⟨?_, ih h.2 fun y hy => hd y (List.mem_cons_of_mem _ hy)⟩
    rw [hd x List.mem_cons_self]
    exact h.1
theorem Good.first (h : Good O key g L T) : -1 ≤ fst L ∧ fst L < O := fst_in h.bd
/-- another head, another turn -/
theorem Good.turn_ {L' : List Int} (h : Good O key g L T) (hO : O ≤ 16) (hT : T' < 18446744073709551616) (nd : L'.Nodup) (bd : ∀ x ∈ L', 0 ≤ x ∧ x < O) (lk : Lk g key L') :
    Good O key ((g.set 0 (headW 0 (fst L'))).set 1 T') L' T' := by
  have hl := h.len
  have hf := fst_in bd
  refine ⟨by simp [hl], w64_set (w64_set h.w64 (headW_lt (by omega))) hT, ?_, ?_, ?_, ?_, ?_, ?_, nd, bd, lk.far fun x hx => ?_⟩
  · rw [at_set_ne (by omega), at_set_self (by omega)]
  · rw [at_set_self (by rw [List.length_set]; omega)]
  · rw [at_set_ne (by omega), at_set_ne (by omega), h.h2]
  · rw [at_set_ne (by omega), at_set_ne (by omega), h.h5]
  · rw [at_set_ne (by omega), at_set_ne (by omega), h.h8]
  · rw [at_set_ne (by omega), at_set_ne (by omega), h.h9]
  · rw [at_set_ne (by omega), at_set_ne (by omega)]
/-- the word of an object that is not in the list -/
theorem Good.tie {w : Nat} (h : Good O key g L T) (ho : 0 ≤ o) (hn : o ∉ L) (hw : w < 18446744073709551616) : Good O key (g.set (12 + o.toNat) w) L T := by
  refine ⟨by simp [h.len], w64_set h.w64 hw, ?_, ?_, ?_, ?_, ?_, ?_, h.nd, h.bd, h.lk.far fun x hx => ?_⟩
  · rw [at_set_ne (by omega), h.h0]
  · rw [at_set_ne (by omega), h.h1]
  · rw [at_set_ne (by omega), h.h2]
  · rw [at_set_ne (by omega), h.h5]
  · rw [at_set_ne (by omega), h.h8]
  · rw [at_set_ne (by omega), h.h9]
  · rw [at_set_ne]
    have h1 := (h.bd x hx).1
    have : o ≠ x := fun he => hn (he ▸ hx)
    omega
theorem walk_list (hb : ∀ x ∈ L, 0 ≤ x ∧ x < (O : Int)) (hlk : Lk g key L) (hg : g.length = 12 + O) : ∀ (n : Nat) (out : List Int), (out ++ L).Nodup → L.length < n →
    See.walk (fun w o => showOf w (See.keyOf key 0) o.toNat) (See.links (ch O key) g 0) n out (fst L) = some (out ++ L) := by
  have hlinks : See.links (ch O key) g 0 = g.drop 12 := by
    unfold See.links
    simp only [Nat.zero_mul, Nat.add_zero, Nat.mul_one]
    rw [List.take_of_length_le (by rw [List.length_drop]; omega)]
  rw [hlinks]
  induction L with
  | nil =>
    intro n out _ hn
    cases n with
    | zero => simp at hn
    | succ n => simp [See.walk, fst]
  | cons x L ih =>
    intro n out hnd hn
    have hx := hb x List.mem_cons_self
    cases n with
    | zero => simp at hn
    | succ n =>
      have h1 : x ≠ -1 := by omega
      have h2 : x ∉ out := fun hm => by
        rw [List.nodup_append] at hnd
        exact hnd.2.2 x hm x List.mem_cons_self rfl
      have h3 : (g.drop 12).getD x.toNat 0 = at_ g (12 + x.toNat) := by
        unfold at_
        simp [List.getD_eq_getElem?_getD]
      have h4 := fst_in fun y hy => hb y (List.mem_cons_of_mem _ hy)
      rw [show fst (x :: L) = x from rfl]
      unfold See.walk
      rw [if_neg h1, if_neg h2, h3, hlk.1]
      simp only
      rw [if_neg (by rw [List.length_drop, hg]; unfold fst; unfold fst at h4; omega)]
      have h5 := ih (fun y hy => hb y (List.mem_cons_of_mem _ hy)) hlk.2 n (out ++ [x]) (by simpa using hnd) (by simp at hn; omega)
      rw [List.append_assoc] at h5
      exact h5
theorem counts_some : ∀ O : Nat, 1 ≤ O → O ≤ 16 → (countsOf (packN O O true true)).isSome = true := by
  intro O h1 h2
  have : ∀ i : Fin 17, 1 ≤ i.val → (countsOf (packN i.val i.val true true)).isSome = true := by decide
  exact this ⟨O, by omega⟩ h1
/-- what See says of such words -/
theorem good_see (h : Good O key g L T) (h1 : 1 ≤ O) (h2 : O ≤ 16) : ∃ K, seeP (ch O key) g = some K ∧ K.slots = [⟨0, L, T, []⟩] := by
  have hlen := h.len
  have hf := h.first
  have hcard : L.length < (ch O key).O + 1 := by
    have := few h.nd h.bd
    show L.length < O + 1
    omega
  have hl0 : listP (ch O key) g 0 (fst L) = some L := by
    unfold listP
    rw [if_pos (by refine ⟨by omega, by show (0 : Int) < ((1 : Nat) : Int); omega, hf.1, hf.2⟩)]
    exact walk_list h.bd h.lk hlen _ [] (by simpa using h.nd) hcard
  have hl1 : listP (ch O key) g 0 (-1) = some [] := by
    unfold listP
    rw [if_pos (by refine ⟨by omega, by show (0 : Int) < ((1 : Nat) : Int); omega, by omega, by show (-1 : Int) < ((O : Nat) : Int); omega⟩)]
    exact walk_list (L := []) (key := key) (by simp) trivial hlen _ [] (by simp) (by show 0 < O + 1; omega)
  have hslot : slotP (ch O key) g 0 = some ⟨0, L, T, []⟩ := by
    unfold slotP
    rw [show 4 * 0 = 0 from rfl, h.h0, headOf_W hf.1 (by omega)]
    simp only
    rw [if_neg (by decide), hl0]
    simp only
    rw [show partsP (ch O key) g (at_ g (0 + 2)) = some [] from by
      rw [show 0 + 2 = 2 from rfl, h.h2]
      rfl]
    simp only
    rw [show 0 + 1 = 1 from rfl, h.h1]
  have hshelf : shelfP (ch O key) g = some [] := by
    unfold shelfP
    rw [show 4 * (ch O key).C + 1 = 5 from rfl, h.h5]
    rfl
  obtain ⟨n, hn⟩ := Option.isSome_iff_exists.1 (counts_some O h1 h2)
  have hslab : slabP (ch O key) g 0 = some ⟨n, []⟩ := by
    unfold slabP
    rw [show 4 * (ch O key).C + 4 + 4 * 0 + 1 = 9 from rfl, show 4 * (ch O key).C + 4 + 4 * 0 = 8 from rfl, h.h9, hn, h.h8]
    simp only
    rw [if_neg (by omega)]
    rw [show ((0 : Nat) : Int) - 1 = -1 from rfl, show ((0 : Nat) : Int) = 0 from rfl, hl1]
  refine ⟨⟨[⟨0, L, T, []⟩], [], decide (at_ g (4 * (ch O key).C) ≠ 0), [⟨n, []⟩]⟩, ?_, rfl⟩
  unfold seeP
  rw [show (ch O key).C = 0 + 1 from rfl, show (ch O key).S = 0 + 1 from rfl]
  unfold upto upto
  rw [hslot, hslab]
  simp only
  rw [hshelf]
  rfl
end
end Go.Proofs.Ytigakendeghoaaa.Fast

/-
  The steps at such words. Plain. No condition.
-/
namespace Go.Proofs.Ytigakendeghoaaa.Fast
open See Step
section
variable {O key T : Nat} {g : List Nat} {L : List Int} {x o : Int} {t : TaskP}
theorem key0 : keyG key 0 = See.keyOf key 0 := keyG_of 0
theorem link0 : linkN (ch O key) 0 o = 12 + o.toNat := by
  unfold linkN
  simp
theorem cpu0 (h : t.cpu = 0) : cpuOk (ch O key) t.cpu := by rw [h]; exact ⟨by omega, by show (0 : Int) < ((1 : Nat) : Int); omega⟩
theorem st_turn (h : Good O key g L T) (hc : t.cpu = 0) (hp : t.pc = 0 ∨ t.pc = 10) : stepP (ch O key) g t = ({ t with t := T, pc := t.pc + 1 }, g) := by
  unfold stepP
  rw [if_pos hp]
  unfold pTurn
  rw [if_pos (cpu0 hc), hc]
  rw [show headN 0 + 1 = 1 from rfl, h.h1]
theorem head0 (h : Good O key g L T) (hO : O ≤ 16) : headC (ch O key) (at_ g (headN 0)) = some (0, fst L) ∧ at_ g (headN 0) = headW 0 (fst L) := by
  have hf := h.first
  rw [show headN 0 = 0 from rfl, h.h0]
  refine ⟨?_, rfl⟩
  unfold headC
  rw [headOf_W hf.1 (by omega)]
  simp only
  rw [if_pos ⟨by show (0 : Int) < ((1 : Nat) : Int); omega, hf.2⟩]
theorem st_look0 (h : Good O key g [] T) (hO : O ≤ 16) (hc : t.cpu = 0) (hp : t.pc = 1) : stepP (ch O key) g t = ({ t with h := headW 0 (-1), slab := 0, obj := -1, pc := 20 }, g) := by
  unfold stepP
  rw [if_neg (by omega), if_pos hp]
  unfold pLook
  rw [if_pos (cpu0 hc), hc]
  obtain ⟨h1, h2⟩ := head0 h hO
  rw [h1, h2]
  rfl
theorem st_look1 (h : Good O key g (x :: L) T) (hO : O ≤ 16) (hc : t.cpu = 0) (hp : t.pc = 1) : stepP (ch O key) g t = ({ t with h := headW 0 x, slab := 0, obj := x, pc := 2 }, g) := by
  have hx := h.bd x List.mem_cons_self
  unfold stepP
  rw [if_neg (by omega), if_pos hp]
  unfold pLook
  rw [if_pos (cpu0 hc), hc]
  obtain ⟨h1, h2⟩ := head0 h hO
  rw [h1, h2]
  have hx0 : ¬ x < 0 := by omega
  simp only [fst, List.headD_cons, hx0, if_false]
  rfl
theorem linkOk0 (ho : 0 ≤ o ∧ o < O) : linkOk (ch O key) 0 o := ⟨⟨by omega, by show (0 : Int) < ((1 : Nat) : Int); omega⟩, ho⟩
theorem st_next {n : Int} (hs : t.slab = 0) (ho : 0 ≤ t.obj ∧ t.obj < O) (hp : t.pc = 2) (hn : n < O) (hsh : showOf (at_ g (12 + t.obj.toNat)) (See.keyOf key 0) t.obj.toNat = some n) :
    stepP (ch O key) g t = ({ t with last := n, pc := 3 }, g) := by
  unfold stepP
  rw [if_neg (by omega), if_neg (by omega), if_pos hp]
  unfold pNext
  rw [hs, if_pos (linkOk0 ho), link0, key0, hsh]
  simp only
  rw [if_pos hn]
/-- .. whatever the word shows -/
theorem st_next_any (hs : t.slab = 0) (ho : 0 ≤ t.obj ∧ t.obj < O) (hp : t.pc = 2) : stepP (ch O key) g t = ({ t with pc := 0 }, g) ∨ ∃ n, n < (O : Int) ∧ showOf (at_ g (12 + t.obj.toNat)) (See.keyOf key 0) t.obj.toNat = some n ∧ stepP (ch O key) g t = ({ t with last := n, pc := 3 }, g) := by
  cases hsh : showOf (at_ g (12 + t.obj.toNat)) (See.keyOf key 0) t.obj.toNat with
  | none =>
    refine .inl ?_
    unfold stepP
    rw [if_neg (by omega), if_neg (by omega), if_pos hp]
    unfold pNext
    rw [hs, if_pos (linkOk0 ho), link0, key0, hsh]
  | some n =>
    by_cases hn : n < (O : Int)
    · exact .inr ⟨n, hn, rfl, st_next hs ho hp hn hsh⟩
    · refine .inl ?_
      unfold stepP
      rw [if_neg (by omega), if_neg (by omega), if_pos hp]
      unfold pNext
      rw [hs, if_pos (linkOk0 ho), link0, key0, hsh]
      simp only
      rw [if_neg hn]
theorem headR0 (h0 : -1 ≤ o) (h1 : o < 16) : headR 0 o = (0, headW 0 o) := by
  unfold headR
  rw [if_pos]
  unfold headOk
  omega
theorem sw_any (op : TaskP → Int) (again : Int) (h : Good O key g L T) (hO : O ≤ 16) (hc : t.cpu = 0) (hs : t.slab = 0) (ho : -1 ≤ op t ∧ op t < O) :
    pSwap op again (ch O key) g t = if headW 0 (fst L) = t.h ∧ T = t.t then ({ t with end_ := 1 }, (g.set 0 (headW 0 (op t))).set 1 (up64 t.t)) else ({ t with pc := again }, g) := by
  unfold pSwap
  rw [hs, headR0 ho.1 (by omega), if_pos ⟨rfl, cpu0 hc⟩]
  have : isHead g t ↔ headW 0 (fst L) = t.h ∧ T = t.t := by
    unfold isHead
    rw [hc, show headN 0 = 0 from rfl, h.h0, show 0 + 1 = 1 from rfl, h.h1]
  by_cases hh : isHead g t
  · rw [if_pos hh, if_pos (this.1 hh), hc]
    rfl
  · rw [if_neg hh, if_neg fun h2 => hh (this.2 h2)]
theorem st_swap (h : Good O key g L T) (hO : O ≤ 16) (hc : t.cpu = 0) (hs : t.slab = 0) (hp : t.pc = 3) (ho : -1 ≤ t.last ∧ t.last < O) :
    stepP (ch O key) g t = if headW 0 (fst L) = t.h ∧ T = t.t then ({ t with end_ := 1 }, (g.set 0 (headW 0 t.last)).set 1 (up64 t.t)) else ({ t with pc := 0 }, g) := by
  unfold stepP
  rw [if_neg (by omega), if_neg (by omega), if_neg (by omega), if_pos hp]
  exact sw_any (·.last) 0 h hO hc hs ho
theorem st_swap13 (h : Good O key g L T) (hO : O ≤ 16) (hc : t.cpu = 0) (hs : t.slab = 0) (hp : t.pc = 13) (ho : -1 ≤ t.obj ∧ t.obj < O) :
    stepP (ch O key) g t = if headW 0 (fst L) = t.h ∧ T = t.t then ({ t with end_ := 1 }, (g.set 0 (headW 0 t.obj)).set 1 (up64 t.t)) else ({ t with pc := 10 }, g) := by
  unfold stepP
  rw [if_neg (by omega), if_neg (by omega), if_neg (by omega), if_neg (by omega), if_neg (by omega), if_neg (by omega)]
  exact sw_any (·.obj) 10 h hO hc hs ho
theorem st_mine (h : Good O key g L T) (hO : O ≤ 16) (hc : t.cpu = 0) (hs : t.slab = 0) (hp : t.pc = 11) :
    stepP (ch O key) g t = ({ t with h := headW 0 (fst L), last := fst L, pc := 12 }, g) := by
  unfold stepP
  rw [if_neg (by omega), if_neg (by omega), if_neg (by omega), if_neg (by omega), if_pos hp]
  unfold pMine
  rw [if_pos (cpu0 hc), hc]
  obtain ⟨h1, h2⟩ := head0 h hO
  rw [h1, h2]
  simp only
  rw [if_pos hs.symm]
theorem st_tie (hO : O ≤ 16) (hs : t.slab = 0) (hp : t.pc = 12) (ho : 0 ≤ t.obj ∧ t.obj < O) (hl : -1 ≤ t.last ∧ t.last < O) :
    stepP (ch O key) g t = ({ t with pc := 13 }, g.set (12 + t.obj.toNat) (hideW t.last (See.keyOf key 0) t.obj.toNat)) := by
  unfold stepP
  rw [if_neg (by omega), if_neg (by omega), if_neg (by omega), if_neg (by omega), if_neg (by omega), if_pos hp]
  unfold pTie
  rw [hs, key0, show hideR t.last (See.keyOf (ch O key).key 0) t.obj = (0, hideW t.last (See.keyOf key 0) t.obj.toNat) from if_pos (by omega), if_pos ⟨rfl, linkOk0 ho⟩, link0]
end
/-! the words that stocked lays -/
/-- the numbers from one up to below another -/
def upL (k i : Nat) : List Int := (List.range' i (k - i)).map fun (n : Nat) => (n : Int)
theorem upL_cons {k i : Nat} (h : i < k) : upL k i = (i : Int) :: upL k (i + 1) := by
  unfold upL
  rw [show k - i = (k - (i + 1)) + 1 from by omega, List.range'_succ]
  rfl
theorem upL_nil {k i : Nat} (h : k ≤ i) : upL k i = [] := by
  unfold upL
  rw [show k - i = 0 from by omega]
  rfl
theorem upL_len (k i : Nat) : (upL k i).length = k - i := by simp [upL]
theorem mem_upL {k i : Nat} {x : Int} : x ∈ upL k i ↔ (i : Int) ≤ x ∧ x < k := by
  unfold upL
  rw [List.mem_map]
  constructor
  · rintro ⟨n, hn, rfl⟩
    rw [List.mem_range'_1] at hn
    omega
  · intro h
    exact ⟨x.toNat, by rw [List.mem_range'_1]; omega, by omega⟩
theorem fst_upL {k i : Nat} : fst (upL k i) = if i < k then (i : Int) else -1 := by
  by_cases h : i < k
  · rw [upL_cons h, if_pos h]; rfl
  · rw [upL_nil (by omega), if_neg h]; rfl
theorem upL_nodup (k i : Nat) : (upL k i).Nodup := by
  unfold upL
  refine List.Pairwise.map _ (fun a b h => ?_) (List.nodup_range' (s := i) (n := k - i) (step := 1))
  intro he
  exact h (by omega)
section
variable {n objs key turn : Nat}
theorem at_pre {l : List Nat} {i : Nat} (h : i < 12) (hl : l.length = 12) (r : List Nat) : at_ (l ++ r) i = at_ l i := by
  unfold at_
  rw [List.getD_eq_getElem?_getD, List.getD_eq_getElem?_getD, List.getElem?_append_left (by omega)]
theorem stL_low {k : Nat} {i : Nat} (h : i < 12) : at_ (stL n k objs n) i = 0 := by
  unfold stL
  rw [at_pre h (by simp)]
  unfold at_
  rw [List.getD_eq_getElem?_getD, List.getElem?_replicate, if_pos h]
  rfl
theorem stL_high {k : Nat} {i : Nat} (h : i < n) (hn : n ≤ objs) : at_ (stL n k objs n) (12 + i) = if i + 1 = n then hideW (-1) k i else hideW ((i : Int) + 1) k i := by
  unfold stL at_
  rw [List.getD_eq_getElem?_getD, List.getElem?_append_right (by simp), List.length_replicate, Nat.add_sub_cancel_left, List.getElem?_map, List.getElem?_range (by omega)]
  simp only [Option.map_some, Option.getD_some]
  rw [if_pos h, show max n 1 = n from by omega]
  unfold freshL
  rw [List.getD_eq_getElem?_getD, List.getElem?_map, List.getElem?_range h]
  rfl
theorem w64_stL {k : Nat} (hn : n ≤ objs) (ho : objs ≤ 16) : W64 (stL n k objs n) := by
  intro x hx
  unfold stL at hx
  rcases List.mem_append.1 hx with hx | hx
  · rw [List.eq_of_mem_replicate hx]; omega
  · obtain ⟨j, hj, rfl⟩ := List.mem_map.1 hx
    by_cases hjn : j < n
    · rw [if_pos hjn]
      unfold freshL
      rw [List.getD_eq_getElem?_getD, List.getElem?_map]
      cases hr : (List.range (max n 1))[j]? with
      | none => show 0 < _; omega
      | some y =>
        have hy : y < max n 1 := List.mem_range.1 (List.mem_of_getElem? hr)
        simp only [Option.map_some, Option.getD_some]
        split
        · exact hide_lt (by omega)
        · exact hide_lt (by omega)
    · rw [if_neg hjn]; omega
theorem packN_lt {O : Nat} (h : O ≤ 16) : packN O O true true < 18446744073709551616 := by
  unfold packN
  simp
  omega
theorem good_lk {g : List Nat} (hn : n ≤ objs) (ho : objs ≤ 16) (hg : ∀ i, i < n → at_ g (12 + i) = if i + 1 = n then hideW (-1) (See.keyOf key 0) i else hideW ((i : Int) + 1) (See.keyOf key 0) i) :
    ∀ d i, n - i = d → Lk g key (upL n i) := by
  intro d
  induction d with
  | zero =>
    intro i hi
    rw [upL_nil (by omega)]
    trivial
  | succ d ih =>
    intro i hi
    rw [upL_cons (by omega)]
    refine ⟨?_, ih (i + 1) (by omega)⟩
    rw [show ((i : Int)).toNat = i from by omega, hg i (by omega), fst_upL]
    by_cases h1 : i + 1 = n
    · rw [if_pos h1, if_neg (by omega)]
      exact show_hide (by omega) (by omega)
    · rw [if_neg h1, if_pos (by omega)]
      exact show_hide (by omega) (by omega)
/-- stocked's words -/
theorem good_stG (hn : n ≤ objs) (h1 : 1 ≤ objs) (h2 : objs ≤ 16) (ht : turn < 18446744073709551616) : Good objs key (stG n key objs turn) (upL n 0) turn := by
  have hlen : (stG n key objs turn).length = 12 + objs := by
    unfold stG
    simp [stL_len]
  have hl := stL_len n (See.keyOf key 0) objs n
  refine ⟨hlen, ?_, ?_, ?_, ?_, ?_, ?_, ?_, upL_nodup _ _, fun x hx => ?_, good_lk hn h2 ?_ n 0 (by omega)⟩
  · refine w64_set (w64_set (w64_set (w64_stL hn h2) ?_) ht) (packN_lt h2)
    split <;> omega
  · unfold stG
    rw [at_set_ne (by omega), at_set_ne (by omega), at_set_self (by omega), fst_upL]
    by_cases h0 : n = 0
    · subst h0; rfl
    · rw [if_neg h0, if_pos (by omega)]; rfl
  · unfold stG
    rw [at_set_ne (by omega), at_set_self (by rw [List.length_set]; omega)]
  · unfold stG
    rw [at_set_ne (by omega), at_set_ne (by omega), at_set_ne (by omega), stL_low (by omega)]
  · unfold stG
    rw [at_set_ne (by omega), at_set_ne (by omega), at_set_ne (by omega), stL_low (by omega)]
  · unfold stG
    rw [at_set_ne (by omega), at_set_ne (by omega), at_set_ne (by omega), stL_low (by omega)]
  · unfold stG
    rw [at_set_self (by rw [List.length_set, List.length_set]; omega)]
  · have := mem_upL.1 hx
    omega
  · intro i hi
    unfold stG
    rw [at_set_ne (by omega), at_set_ne (by omega), at_set_ne (by omega), stL_high hi hn]
end
end Go.Proofs.Ytigakendeghoaaa.Fast

/-
  wainscotlaw22.works answers true: run by the kernel. No condition.
-/
namespace Go.Proofs.Ytigakendeghoaaa.Fast
open Go
theorem yes_works : Ex.yes Try.prog 30 47 = true := by kernel_rfl
theorem works_in {W w : World} {m : List (Nat × Obj)} (h : Own W m w) : Calls Try.prog 47 #[] w fun e w' => e = .returned (.bool true) ∧ Own W m w' := Ex.yes_in yes_works h
end Go.Proofs.Ytigakendeghoaaa.Fast

/-
  Contracts: the document's links (wainscotref16): what one shows. No condition.
-/
namespace Go.Proofs.Ytigakendeghoaaa.See
open Go.RowKit
attribute [local go_sem ↓] Go.wp_at_zero Go.wp_at_succ
theorem rotl_bit {x : Nat} (hx : x < 18446744073709551616) {s i : Nat} (hs : s < 64) (hi : i < 64) : (rotl x s).testBit i = x.testBit ((i + (64 - s)) % 64) := by
  have hx' : x < 2 ^ 64 := hx
  unfold rotl
  have e : (18446744073709551616 : Nat) = 2 ^ 64 := rfl
  rw [e, Nat.testBit_or, Nat.testBit_mod_two_pow, Nat.testBit_shiftLeft, Nat.testBit_shiftRight]
  by_cases h : s ≤ i
  · have h1 : x.testBit (64 - s + i) = false := Nat.testBit_lt_two_pow (Nat.lt_of_lt_of_le hx' (Nat.pow_le_pow_right (by omega) (by omega)))
    rw [h1, show (i + (64 - s)) % 64 = i - s by omega]
    simp [hi, h]
  · rw [show (i + (64 - s)) % 64 = 64 - s + i by omega]
    simp [h]
theorem rotl_step {x s : Nat} (hx : x < 18446744073709551616) (hs : s < 64) : rotl (rotl x s) 1 = rotl x ((s + 1) % 64) := by
  apply Nat.eq_of_testBit_eq
  intro i
  by_cases hi : i < 64
  · rw [rotl_bit (rotl_lt x s hx) (by omega) hi, rotl_bit hx hs (by omega), rotl_bit hx (by omega) hi]
    congr 1
    omega
  · have h1 : rotl (rotl x s) 1 < 2 ^ i := Nat.lt_of_lt_of_le (rotl_lt _ _ (rotl_lt x s hx)) (show 2 ^ 64 ≤ 2 ^ i from Nat.pow_le_pow_right (by omega) (by omega))
    have h2 : rotl x ((s + 1) % 64) < 2 ^ i := Nat.lt_of_lt_of_le (rotl_lt _ _ hx) (show 2 ^ 64 ≤ 2 ^ i from Nat.pow_le_pow_right (by omega) (by omega))
    rw [Nat.testBit_lt_two_pow h1, Nat.testBit_lt_two_pow h2]
theorem rotl_zero {x : Nat} (hx : x < 18446744073709551616) : rotl x 0 = x := by
  unfold rotl
  rw [Nat.shiftLeft_zero, Nat.mod_eq_of_lt hx, Nat.sub_zero, Nat.shiftRight_eq_div_pow, Nat.div_eq_of_lt (show x < 2 ^ 64 from hx), Nat.or_zero]
theorem mod64_step (i : Nat) : (i % 64 + 1) % 64 = (i + 1) % 64 := by omega
def addN (x i : Nat) : Nat := (x + i * 2654435769) % 18446744073709551616
theorem addN_step (x i : Nat) : (addN x i + 2654435769) % 18446744073709551616 = addN x (i + 1) := by
  unfold addN
  omega
set_option maxRecDepth 100000 in
theorem rturned_spec (key n : Nat) (hx : key < 18446744073709551616) (hn : n < 16) (w : World) : Calls Try.prog 127 #[.int .u64 key, .int .i64 n] w fun e w' => e = .returned (.int .u64 (turned key n : Nat)) ∧ w = w' := by
  have H0 := Lib.hid (rotl_zero hx)
  have HX := Lib.hid hx
  have h5 : 5 * n ≤ 75 := by omega
  clear hx
  go_enter Try.func127, Try.ntmps127
  go_wp2_with fail
  go_loopw [5, 6] (fun ov iv wr => ∃ i : Nat, iv = .int .i64 i ∧ i ≤ 5 * n ∧ ov = .int .u64 (rotl key (i % 64) : Nat) ∧ w = wr) (fun _ iv _ => 5 * n - (intOf iv).toNat)
  case atStart => exact ⟨0, rfl, by omega, by rw [Nat.zero_mod, H0.out], rfl⟩
  case round =>
    obtain ⟨i, rfl, hi, rfl, rfl⟩ := hrel
    by_cases hlt : i < 5 * n
    · have hlti : (i : Int) < 5 * (n : Int) := by omega
      have HB := Lib.hid (rot_bits (rotl key (i % 64)) 1 (rotl_lt _ _ HX.out))
      have HS := Lib.hid (rotl_step (s := i % 64) HX.out (Nat.mod_lt _ (by omega)))
      go_wp2_with fail
      refine ⟨⟨i + 1, by go_num, by omega, ?_, trivial⟩, by simp [intOf]; omega⟩
      have hb := HB.out
      rw [HS.out, mod64_step] at hb
      rw [← hb]
      rfl
    · obtain rfl : i = 5 * n := by omega
      have hlti : ¬ (5 * (n : Int)) < 5 * (n : Int) := by omega
      have hcast : ((5 * n : Nat) : Int) = 5 * (n : Int) := by omega
      obtain ⟨R, hR⟩ : ∃ R, rotl key (5 * n % 64) = R := ⟨_, rfl⟩
      have HR := Lib.hid hR
      have HRL := Lib.hid (hR ▸ rotl_lt key (5 * n % 64) HX.out)
      rw [hR, hcast]
      clear hR
      go_wp2_with fail
      go_loopw [5, 7] (fun ov iv wr => ∃ i : Nat, iv = .int .i64 i ∧ i ≤ n ∧ ov = .int .u64 (addN R i : Nat) ∧ w = wr) (fun _ iv _ => n - (intOf iv).toNat)
      case atStart => exact ⟨0, rfl, by omega, by unfold addN; rw [Nat.zero_mul, Nat.add_zero, Nat.mod_eq_of_lt HRL.out], rfl⟩
      case round =>
        obtain ⟨j, rfl, hj, rfl, rfl⟩ := hrel
        by_cases hjl : j < n
        · have hjli : (j : Int) < (n : Int) := by omega
          have HA := Lib.hid (addN_step R j)
          go_wp2_with fail
          refine ⟨⟨j + 1, by go_num, by omega, ?_, trivial⟩, by simp [intOf]; omega⟩
          rw [← HA.out]
          rw [IntKind.wrap_u64, Int.natCast_emod, Int.natCast_add]
          rfl
        · obtain rfl : j = n := by omega
          have hjli : ¬ (j : Int) < (j : Int) := by omega
          go_wp2_with fail
          go_ret
          exact ⟨by rw [turned_eq, HR.out]; rfl, rfl⟩
set_option maxRecDepth 100000 in
theorem rshow_ok (x key n : Nat) (hx : x < 18446744073709551616) (hk : key < 18446744073709551616) (hn : n < 16) (w : World) : Calls Try.prog 121 #[.int .u64 x, .int .u64 key, .int .i64 n] w fun e w' => e = .returned (showV x key n) ∧ w = w' := by
  have ht := fun w => rturned_spec key n hk hn w
  have hb := u64_xor_nat x (turned key n) hx (turned_lt key n)
  unfold showV showOf
  obtain ⟨T, hT⟩ : ∃ T, turned key n = T := ⟨_, rfl⟩
  obtain ⟨X, hX⟩ : ∃ X, x ^^^ T = X := ⟨_, rfl⟩
  rw [hT] at ht hb ⊢
  rw [hX] at hb ⊢
  have HT := Lib.hid ht
  have hn0 : (0 : Int) ≤ n := by omega
  have hn1 : (n : Int) < 16 := by omega
  clear ht hT hX hx hk
  by_cases hc : X ≤ 16
  · have hci : decide ((16 : Int) < X) = false := decide_eq_false (by omega)
    rw [if_pos hc]
    go_enter Try.func121, Try.ntmps121
    go_wp2_with (go_at_call 127; refine (HT.out _).mono ?_; rintro e w' ⟨rfl, rfl⟩)
    go_ret2
    exact ⟨rfl, rfl⟩
  · have hci : decide ((16 : Int) < X) = true := decide_eq_true (by omega)
    rw [if_neg hc]
    go_enter Try.func121, Try.ntmps121
    go_wp2_with (go_at_call 127; refine (HT.out _).mono ?_; rintro e w' ⟨rfl, rfl⟩)
    go_ret2
    exact ⟨rfl, rfl⟩
end Go.Proofs.Ytigakendeghoaaa.See

/-
  Contract: the document's list of objects (wainscotref16.List). No condition.
-/
namespace Go.Proofs.Ytigakendeghoaaa.See
open Go.RowKit
attribute [local go_sem ↓] Go.wp_at_zero Go.wp_at_succ
section
variable {W w : World} {m : List (Nat × Obj)} {B o c : Nat} {g : List Nat}
set_option maxRecDepth 100000 in
set_option maxHeartbeats 4000000 in
theorem rlist16_spec (h : Own W m w) (hr : Rd W m B o g) {n : Nat} (hn : g.length = n) (hg : n ≤ 16) (hw : W64 g) (hnc : n ≤ c) (hcm : c ≤ maxLen) (key : Nat) (hk : key < 18446744073709551616) (first : Int) (h0 : -1 ≤ first) (h1 : first < n) :
    Calls Try.prog 106 #[.slice (some ⟨B, o, none⟩) n c, .int .u64 key, .int .i64 first] w (ListPost W m (walk (shW key) g (n + 1) [] first)) := by
  obtain ⟨R, hR⟩ : ∃ R, walk (shW key) g (n + 1) [] first = R := ⟨_, rfl⟩
  have HR := Lib.hid hR
  have HRD := Lib.hid hr
  have HN := Lib.hid hn
  have HW := Lib.hid hw
  have HK := Lib.hid hk
  rw [hR]
  have hgi : (n : Int) ≤ 16 := by omega
  have hb1 : decide ((16 : Int) < (n : Int)) = false := decide_eq_false (by omega)
  have hb2 : decide (first < -1) = false := decide_eq_false (by omega)
  have hb3 : decide ((n : Int) ≤ first) = false := decide_eq_false (by omega)
  clear hr hn hw hk hcm hR
  go_enter Try.func106, Try.ntmps106
  go_wp2_with fail
  have H1 := Lib.hid h
  clear hb1 hb2 hb3
  go_loopw [2, 8] (fun iv ov wr => ∃ (i : Int) (out : List Int) (bs : List (Nat × Obj)), iv = .int .i64 i ∧ -1 ≤ i ∧ i < n ∧ Hid (out.Nodup ∧ ∀ x ∈ out, 0 ≤ x ∧ x < n) ∧ Hid (walk (shW key) g (n + 1 - out.length) out i = R) ∧ Hid (IntsOwn true ov out bs) ∧ Own W (bs ++ m) wr) (fun _ ov _ => 17 - slLen ov)
  case atStart => exact ⟨first, [], [], rfl, h0, h1, ⟨List.nodup_nil, fun x hx => (by simp at hx)⟩, HR, SlO.nil _ _ _, H1.out⟩
  case round =>
    clear H1 HR h0 h1 h
    obtain ⟨i, out, bs, rfl, i0, i1, HND, HWK, HO, hr⟩ := hrel
    obtain ⟨A8, c8, hv, -, -⟩ := HO.out.slice
    subst hv
    have hfew := few HND.out.1 HND.out.2
    obtain ⟨z, hz⟩ : ∃ z, out.length = z := ⟨_, rfl⟩
    have HZ := Lib.hid hz
    rw [hz] at hfew ⊢
    have HO2 : Hid (IntsOwn true (.slice A8 z c8) out bs) := by have := HO.out; rw [hz] at this; exact this
    by_cases him : i = -1
    · subst him
      have hk := HWK.out
      rw [hz, show n + 1 - z = (n - z) + 1 by omega] at hk
      simp only [walk, if_true] at hk
      have HK2 := Lib.hid hk
      clear hz hk
      go_wp2_with fail
      go_ret2
      rw [← HK2.out]
      exact ⟨_, bs, rfl, HO2, hr⟩
    · obtain ⟨j, rfl⟩ : ∃ j : Nat, i = j := ⟨i.toNat, by omega⟩
      have hj16 : j < 16 := by omega
      have hji0 : (0 : Int) ≤ (j : Int) := by omega
      have hji1 : (j : Int) < 16 := by omega
      have HRR := Lib.hid hr
      clear hz hr
      go_wp2_with fail
      obtain ⟨w0, hw0⟩ : ∃ w0 : World, w0 = wr := ⟨_, rfl⟩
      subst hw0
      go_loopw [9] (fun kv wr => ∃ k : Nat, kv = .int .i64 k ∧ k ≤ z ∧ Hid (∀ q, q < k → out[q]? ≠ some (j : Int)) ∧ Own W (bs ++ m) wr) (fun kv _ => z - (intOf kv).toNat)
      case atStart => exact ⟨0, rfl, by omega, (fun q hq => absurd hq (by omega)), HRR.out⟩
      case round =>
        clear HRR
        obtain ⟨k, rfl, hk, HNO, hr⟩ := hrel
        by_cases hlt : k < z
        · have hlti : (k : Int) < z := by omega
          have hk0 : (0 : Int) ≤ k := by omega
          obtain ⟨y, hy⟩ : ∃ y, out[k]? = some y := ⟨_, List.getElem?_eq_getElem (by rw [HZ.out]; exact hlt)⟩
          obtain ⟨g8, cp8, cur8, hv8, -⟩ := HO2.out.form (by rw [HZ.out]; omega)
          rw [HZ.out] at hv8
          simp only [Value.slice.injEq, true_and] at hv8
          obtain ⟨rfl, rfl⟩ := hv8
          have cy := SlO.cell HO2.out hr (by rw [HZ.out]) (ints_get hy)
          by_cases hyj : y = (j : Int)
          · subst hyj
            have hin : (j : Int) ∈ out := List.mem_of_getElem? hy
            have hkk := HWK.out
            rw [HZ.out, show n + 1 - z = (n - z) + 1 by omega] at hkk
            simp only [walk, him, hin, if_false, if_true] at hkk
            have HK2 := Lib.hid hkk
            clear hkk hy
            go_wp2_with fail
            go_ret2
            rw [← HK2.out]
            exact ⟨rfl, hr.dropL⟩
          · have hyb : (y == (j : Int)) = false := beq_eq_false_iff_ne.2 hyj
            have HNO2 : Hid (∀ q, q < k + 1 → out[q]? ≠ some (j : Int)) := fun q hq => by
              by_cases he : q = k
              · subst he
                rw [hy]
                intro hh
                exact hyj (by simpa using hh)
              · exact HNO.out q (by omega)
            clear hy
            go_wp2_with fail
            exact ⟨⟨k + 1, by go_num, by omega, HNO2, hr⟩, by simp [intOf]; omega⟩
        · obtain rfl : k = z := by omega
          have hlti : ¬ (k : Int) < k := by omega
          have hin : (j : Int) ∉ out := fun hm => by
            obtain ⟨q, hq, he⟩ := List.getElem_of_mem hm
            exact HNO.out q (by rw [← HZ.out]; exact hq) (by rw [List.getElem?_eq_getElem hq, he])
          obtain ⟨x, hx⟩ : ∃ x, g[j]? = some x := ⟨_, List.getElem?_eq_getElem (by have := HN.out; omega)⟩
          have hxw := HW.out x (List.mem_of_getElem? hx)
          have hgd : g.getD j 0 = x := by rw [List.getD_eq_getElem?_getD, hx]; rfl
          have hltz := few_lt HND.out.1 HND.out.2 hji0 i1 hin
          rw [HZ.out] at hltz
          have hsh := fun w => rshow_ok x key j hxw HK.out hj16 w
          have hkk := HWK.out
          rw [HZ.out, show n + 1 - k = (n - k) + 1 by omega] at hkk
          simp only [walk, him, hin, if_false, Int.toNat_natCast, hgd, shW, HN.out] at hkk
          have H4 := Lib.hid (hr.alloc (.cells #[.int .i64 (j : Int)] 3))
          have HSRC := Lib.hid (src_one wr (j : Int))
          have hnd : (out ++ [(j : Int)]).Nodup ∧ ∀ x ∈ out ++ [(j : Int)], 0 ≤ x ∧ x < n := by
            refine ⟨List.nodup_append.2 ⟨HND.out.1, by simp, fun a ha b hb he => ?_⟩, fun x hx => ?_⟩
            · simp at hb
              subst hb
              subst he
              exact hin ha
            · rcases List.mem_append.1 hx with hx | hx
              · exact HND.out.2 x hx
              · simp at hx
                subst hx
                exact ⟨hji0, i1⟩
          have HND2 := Lib.hid hnd
          have HX := Lib.hid hx
          have hlen : out.length + [(j : Int)].length ≤ 60000 := by rw [HZ.out]; simp; omega
          have HLEN := Lib.hid hlen
          unfold showV at hsh
          clear hx hnd hgd hxw hlen hr
          cases hso : showOf x key j with
          | none =>
            rw [hso] at hsh hkk
            simp only at hsh hkk
            have HS := Lib.hid hsh
            have HK2 := Lib.hid hkk
            clear hsh hkk hso
            go_wp2_with (first | (at_builtin; refine wpList_app_ints rfl _ _ rfl rfl rfl HO2.out H4.out HSRC.out HLEN.out ?_; intro v' w' bs' k1 k2 k3; have K1 := Lib.hid k1; have cx := HRD.out _ k2.dropL j x HX.out; clear k1 k3) | (go_at_call 121; refine (HS.out _).mono ?_; rintro e w5 ⟨rfl, rfl⟩))
            go_ret2
            rw [← HK2.out]
            exact ⟨rfl, k2.dropL⟩
          | some y =>
            rw [hso] at hsh hkk
            simp only at hsh hkk
            obtain ⟨y0, y1⟩ := showOf_ge hso
            have HS := Lib.hid hsh
            clear hsh hso
            by_cases hny : (n : Int) ≤ y
            · rw [if_pos hny] at hkk
              have HK2 := Lib.hid hkk
              clear hkk
              go_wp2_with (first | (at_builtin; refine wpList_app_ints rfl _ _ rfl rfl rfl HO2.out H4.out HSRC.out HLEN.out ?_; intro v' w' bs' k1 k2 k3; have K1 := Lib.hid k1; have cx := HRD.out _ k2.dropL j x HX.out; clear k1 k3) | (go_at_call 121; refine (HS.out _).mono ?_; rintro e w5 ⟨rfl, rfl⟩))
              go_ret2
              rw [← HK2.out]
              exact ⟨rfl, k2.dropL⟩
            · rw [if_neg hny] at hkk
              have HK2 : Hid (walk (shW key) g (n + 1 - (out ++ [(j : Int)]).length) (out ++ [(j : Int)]) y = R) := by
                show _ = _
                rw [List.length_append, HZ.out, List.length_singleton, show n + 1 - (k + 1) = n - k by omega]
                exact hkk
              clear hkk
              have hnyi : y < n := by omega
              go_wp2_with (first | (at_builtin; refine wpList_app_ints rfl _ _ rfl rfl rfl HO2.out H4.out HSRC.out HLEN.out ?_; intro v' w' bs' k1 k2 k3; have K1 := Lib.hid k1; have cx := HRD.out _ k2.dropL j x HX.out; clear k1 k3) | (go_at_call 121; refine (HS.out _).mono ?_; rintro e w5 ⟨rfl, rfl⟩))
              obtain ⟨A9, c9, hv9, -, -⟩ := K1.out.slice
              rw [List.length_append, HZ.out, List.length_singleton] at hv9
              refine ⟨⟨y, _, bs', rfl, y0, hnyi, HND2, HK2, K1, k2⟩, ?_⟩
              rw [hv9]
              simp [slLen]
              omega
end
end Go.Proofs.Ytigakendeghoaaa.See

/-
  The places of a chart, the document's: contracts out of the trees. No condition.
-/
namespace Go.Proofs.Ytigakendeghoaaa.Apart
open Go Ex chartPlaces
section
variable {C S O d e key i k : Int} {W w : World} {m : List (Nat × Obj)}
theorem check_all (hO : Own W m w) : Calls Try.prog 11 #[chV C S O d e key] w fun r w' => r = .returned (.int .i64 (if Ok C S O d e then 0 else 2)) ∧ Own W m w' := by
  refine (tree_ends (σ := s0 C S O d e key 0 0) mixed ov_nil (args := [chart]) rfl tChk [] (by simp) r_cCheck (no_bad rfl) w tabs_nil).mono ?_
  rintro _ _ ⟨⟨x, rfl, hx⟩, h2⟩
  refine ⟨?_, hO.then_below h2⟩
  rw [ends_of hx, chk_is]
theorem rcheck_all (h1 : I64 C) (hS : I64 S) (h3 : I64 O) (hO : Own W m w) : Calls Try.prog 21 #[chV C S O d e key] w fun r w' => r = .returned (.int .i64 (if Ok C S O d e then 0 else 2)) ∧ Own W m w' := by
  refine (tree_ends (σ := s0 C S O d e key 0 0) mixed ov_nil (args := [chart]) rfl tChkR [] (by simp) r_rCheck (no_bad rfl) w tabs_nil).mono ?_
  rintro _ _ ⟨⟨x, rfl, hx⟩, h2⟩
  refine ⟨?_, hO.then_below h2⟩
  rw [ends_of hx, chkR_is C S O d e key 0 0 h1 hS h3]
theorem rwords_ok (h : Ok C S O d e) (hO : Own W m w) : Calls Try.prog 22 #[chV C S O d e key] w fun r w' => r = .returned (.int .i64 (4 * C + 4 + 4 * S + S * O)) ∧ Own W m w' := by
  refine (place (key := key) (i := 0) (k := 0) h r_rWords rfl (bad_words _ _ _ _ _ _ _ _) hO).mono ?_
  rintro _ _ ⟨rfl, h2⟩
  refine ⟨?_, h2⟩
  have hm := mul_ok h
  have h8 := s1_8 (key := key) (i := 0) (k := 0) h
  have e0 : s1 C S O d e key 0 0 0 = C := rfl
  have e1 : s1 C S O d e key 0 0 1 = S := rfl
  have e2 : s1 C S O d e key 0 0 2 = O := rfl
  unfold Ok at h
  simp only [tWords, chain, endOf, Cnd.ev, okQ, v, l, SE.ev, is, num, h8, e0, e1, e2, Ex.valOf, add, mul, links, slabs, base, decide_eq_true_eq, beq_self_eq_true, if_true]
  rw [if_neg (by omega), if_neg (by omega), if_neg (by omega), if_neg (by omega), if_neg (by omega), if_neg (by omega)]
  rw [wrap_id (n := 4 * C) (by omega), wrap_id (n := 4 * C + 4) (by omega), wrap_id (n := 4 * S) (by omega), wrap_id (n := 4 * C + 4 + 4 * S) (by omega), wrap_id (n := S * O) (by omega), wrap_id (n := 4 * C + 4 + 4 * S + S * O) (by omega)]
theorem rlock_ok (h : Ok C S O d e) (hO : Own W m w) : Calls Try.prog 25 #[chV C S O d e key] w fun r w' => r = .returned (.int .i64 (4 * C)) ∧ Own W m w' := by
  refine (place (key := key) (i := 0) (k := 0) h r_rLock rfl (no_bad rfl) hO).mono ?_
  rintro _ _ ⟨rfl, h2⟩
  refine ⟨?_, h2⟩
  have h8 := s1_8 (key := key) (i := 0) (k := 0) h
  have e0 : s1 C S O d e key 0 0 0 = C := rfl
  have e1 : s1 C S O d e key 0 0 1 = S := rfl
  have e2 : s1 C S O d e key 0 0 2 = O := rfl
  have e6 : s1 C S O d e key 0 0 6 = 0 := rfl
  have e7 : s1 C S O d e key 0 0 7 = 0 := rfl
  unfold Ok at h
  simp only [tLock, t0, t1, endOf, Cnd.ev, okQ, v, l, SE.ev, is, no, num, h8, e0, e1, e2, e6, e7, Ex.valOf, add, mul, links, slabs, base, decide_eq_true_eq, beq_self_eq_true, if_true]
  rw [wrap_id (n := 4 * C) (by omega)]
theorem rshelf_ok (h : Ok C S O d e) (hO : Own W m w) : Calls Try.prog 26 #[chV C S O d e key] w fun r w' => r = .returned (.int .i64 (4 * C + 1)) ∧ Own W m w' := by
  refine (place (key := key) (i := 0) (k := 0) h r_rShelf rfl (no_bad rfl) hO).mono ?_
  rintro _ _ ⟨rfl, h2⟩
  refine ⟨?_, h2⟩
  have h8 := s1_8 (key := key) (i := 0) (k := 0) h
  have e0 : s1 C S O d e key 0 0 0 = C := rfl
  have e1 : s1 C S O d e key 0 0 1 = S := rfl
  have e2 : s1 C S O d e key 0 0 2 = O := rfl
  have e6 : s1 C S O d e key 0 0 6 = 0 := rfl
  have e7 : s1 C S O d e key 0 0 7 = 0 := rfl
  unfold Ok at h
  simp only [tShelf, t0, t1, endOf, Cnd.ev, okQ, v, l, SE.ev, is, no, num, h8, e0, e1, e2, e6, e7, Ex.valOf, add, mul, links, slabs, base, decide_eq_true_eq, beq_self_eq_true, if_true]
  rw [wrap_id (n := 4 * C) (by omega), wrap_id (n := 4 * C + 1) (by omega)]
theorem rheld_ok (h : Ok C S O d e) (hO : Own W m w) : Calls Try.prog 27 #[chV C S O d e key] w fun r w' => r = .returned (.int .i64 (4 * C + 2)) ∧ Own W m w' := by
  refine (place (key := key) (i := 0) (k := 0) h r_rHeld rfl (no_bad rfl) hO).mono ?_
  rintro _ _ ⟨rfl, h2⟩
  refine ⟨?_, h2⟩
  have h8 := s1_8 (key := key) (i := 0) (k := 0) h
  have e0 : s1 C S O d e key 0 0 0 = C := rfl
  have e1 : s1 C S O d e key 0 0 1 = S := rfl
  have e2 : s1 C S O d e key 0 0 2 = O := rfl
  have e6 : s1 C S O d e key 0 0 6 = 0 := rfl
  have e7 : s1 C S O d e key 0 0 7 = 0 := rfl
  unfold Ok at h
  simp only [tHeld, t0, t1, endOf, Cnd.ev, okQ, v, l, SE.ev, is, no, num, h8, e0, e1, e2, e6, e7, Ex.valOf, add, mul, links, slabs, base, decide_eq_true_eq, beq_self_eq_true, if_true]
  rw [wrap_id (n := 4 * C) (by omega), wrap_id (n := 4 * C + 2) (by omega)]
theorem rhead_ok (h : Ok C S O d e) (hi : 0 ≤ i ∧ i < C) (hO : Own W m w) : Calls Try.prog 23 #[chV C S O d e key, .int .i64 i] w fun r w' => r = .returned (.int .i64 (4 * i)) ∧ Own W m w' := by
  refine (place (key := key) (i := i) (k := 0) h r_rHead rfl (no_bad rfl) hO).mono ?_
  rintro _ _ ⟨rfl, h2⟩
  refine ⟨?_, h2⟩
  have h8 := s1_8 (key := key) (i := i) (k := 0) h
  have e0 : s1 C S O d e key i 0 0 = C := rfl
  have e1 : s1 C S O d e key i 0 1 = S := rfl
  have e2 : s1 C S O d e key i 0 2 = O := rfl
  have e6 : s1 C S O d e key i 0 6 = i := rfl
  have e7 : s1 C S O d e key i 0 7 = 0 := rfl
  unfold Ok at h
  simp only [tHead, t0, t1, endOf, Cnd.ev, okQ, v, l, SE.ev, is, no, num, h8, e0, e1, e2, e6, e7, Ex.valOf, add, mul, links, slabs, base, decide_eq_true_eq, beq_self_eq_true, if_true]
  rw [if_neg (by omega), if_pos (by omega)]
  rw [wrap_id (n := 4 * i) (by omega)]
theorem rpart_ok (h : Ok C S O d e) (hi : 0 ≤ i ∧ i < C) (hO : Own W m w) : Calls Try.prog 24 #[chV C S O d e key, .int .i64 i] w fun r w' => r = .returned (.int .i64 (4 * i + 2)) ∧ Own W m w' := by
  refine (place (key := key) (i := i) (k := 0) h r_rPart rfl (no_bad rfl) hO).mono ?_
  rintro _ _ ⟨rfl, h2⟩
  refine ⟨?_, h2⟩
  have h8 := s1_8 (key := key) (i := i) (k := 0) h
  have e0 : s1 C S O d e key i 0 0 = C := rfl
  have e1 : s1 C S O d e key i 0 1 = S := rfl
  have e2 : s1 C S O d e key i 0 2 = O := rfl
  have e6 : s1 C S O d e key i 0 6 = i := rfl
  have e7 : s1 C S O d e key i 0 7 = 0 := rfl
  unfold Ok at h
  simp only [tPart, t0, t1, endOf, Cnd.ev, okQ, v, l, SE.ev, is, no, num, h8, e0, e1, e2, e6, e7, Ex.valOf, add, mul, links, slabs, base, decide_eq_true_eq, beq_self_eq_true, if_true]
  rw [if_neg (by omega), if_pos (by omega)]
  rw [wrap_id (n := 4 * i) (by omega), wrap_id (n := 4 * i + 2) (by omega)]
theorem rfirst_ok (h : Ok C S O d e) (hi : 0 ≤ i ∧ i < S) (hO : Own W m w) : Calls Try.prog 28 #[chV C S O d e key, .int .i64 i] w fun r w' => r = .returned (.int .i64 (4 * C + 4 + 4 * i)) ∧ Own W m w' := by
  refine (place (key := key) (i := i) (k := 0) h r_rFirst rfl (no_bad rfl) hO).mono ?_
  rintro _ _ ⟨rfl, h2⟩
  refine ⟨?_, h2⟩
  have h8 := s1_8 (key := key) (i := i) (k := 0) h
  have e0 : s1 C S O d e key i 0 0 = C := rfl
  have e1 : s1 C S O d e key i 0 1 = S := rfl
  have e2 : s1 C S O d e key i 0 2 = O := rfl
  have e6 : s1 C S O d e key i 0 6 = i := rfl
  have e7 : s1 C S O d e key i 0 7 = 0 := rfl
  unfold Ok at h
  simp only [tFirst, t0, t1, endOf, Cnd.ev, okQ, v, l, SE.ev, is, no, num, h8, e0, e1, e2, e6, e7, Ex.valOf, add, mul, links, slabs, base, decide_eq_true_eq, beq_self_eq_true, if_true]
  rw [if_neg (by omega), if_pos (by omega)]
  rw [wrap_id (n := 4 * C) (by omega), wrap_id (n := 4 * C + 4) (by omega), wrap_id (n := 4 * i) (by omega), wrap_id (n := 4 * C + 4 + 4 * i) (by omega)]
theorem rnext_ok (h : Ok C S O d e) (hi : 0 ≤ i ∧ i < S) (hO : Own W m w) : Calls Try.prog 29 #[chV C S O d e key, .int .i64 i] w fun r w' => r = .returned (.int .i64 (4 * C + 4 + 4 * i + 2)) ∧ Own W m w' := by
  refine (place (key := key) (i := i) (k := 0) h r_rNext rfl (no_bad rfl) hO).mono ?_
  rintro _ _ ⟨rfl, h2⟩
  refine ⟨?_, h2⟩
  have h8 := s1_8 (key := key) (i := i) (k := 0) h
  have e0 : s1 C S O d e key i 0 0 = C := rfl
  have e1 : s1 C S O d e key i 0 1 = S := rfl
  have e2 : s1 C S O d e key i 0 2 = O := rfl
  have e6 : s1 C S O d e key i 0 6 = i := rfl
  have e7 : s1 C S O d e key i 0 7 = 0 := rfl
  unfold Ok at h
  simp only [tNext, t0, t1, endOf, Cnd.ev, okQ, v, l, SE.ev, is, no, num, h8, e0, e1, e2, e6, e7, Ex.valOf, add, mul, links, slabs, base, decide_eq_true_eq, beq_self_eq_true, if_true]
  rw [if_neg (by omega), if_pos (by omega)]
  rw [wrap_id (n := 4 * C) (by omega), wrap_id (n := 4 * C + 4) (by omega), wrap_id (n := 4 * i) (by omega), wrap_id (n := 4 * C + 4 + 4 * i) (by omega), wrap_id (n := 4 * C + 4 + 4 * i + 2) (by omega)]
theorem rlink_ok (h : Ok C S O d e) (hi : 0 ≤ i ∧ i < S) (hk : 0 ≤ k ∧ k < O) (hO : Own W m w) : Calls Try.prog 30 #[chV C S O d e key, .int .i64 i, .int .i64 k] w fun r w' => r = .returned (.int .i64 (4 * C + 4 + 4 * S + i * O + k)) ∧ Own W m w' := by
  refine (place (key := key) (i := i) (k := k) h r_rLink rfl (no_bad rfl) hO).mono ?_
  rintro _ _ ⟨rfl, h2⟩
  refine ⟨?_, h2⟩
  have hm : 0 ≤ i * O ∧ i * O ≤ 32 * O := ⟨Int.mul_nonneg (by omega) (by omega), Int.mul_le_mul_of_nonneg_right (by unfold Ok at h; omega) (by omega)⟩
  have h8 := s1_8 (key := key) (i := i) (k := k) h
  have e0 : s1 C S O d e key i k 0 = C := rfl
  have e1 : s1 C S O d e key i k 1 = S := rfl
  have e2 : s1 C S O d e key i k 2 = O := rfl
  have e6 : s1 C S O d e key i k 6 = i := rfl
  have e7 : s1 C S O d e key i k 7 = k := rfl
  unfold Ok at h
  simp only [tLink, t0, t1, endOf, Cnd.ev, okQ, v, l, SE.ev, is, no, num, h8, e0, e1, e2, e6, e7, Ex.valOf, add, mul, links, slabs, base, decide_eq_true_eq, beq_self_eq_true, if_true]
  rw [if_neg (by omega), if_pos (by omega), if_neg (by omega), if_pos (by omega)]
  rw [wrap_id (n := 4 * C) (by omega), wrap_id (n := 4 * C + 4) (by omega), wrap_id (n := 4 * S) (by omega), wrap_id (n := 4 * C + 4 + 4 * S) (by omega), wrap_id (n := i * O) (by omega), wrap_id (n := 4 * C + 4 + 4 * S + i * O) (by omega), wrap_id (n := 4 * C + 4 + 4 * S + i * O + k) (by omega)]
end
end Go.Proofs.Ytigakendeghoaaa.Apart

/-
  Contracts: the document's Key, list (wainscotref21). No condition.
-/
namespace Go.Proofs.Ytigakendeghoaaa.See
open Go.RowKit
open Apart (chV chB ChAt box6 box6')
open chartPlaces (Ok)
attribute [local go_sem ↓] Go.wp_at_zero Go.wp_at_succ
section
variable {W w : World} {m : List (Nat × Obj)} {B o N k : Nat} {g : List Nat} {c : Ch} {d e : Int}
set_option maxRecDepth 100000 in
theorem r1key_spec (s : Nat) (hs : s < 32) (h : Own W m w) : Calls Try.prog 33 #[cV c d e, .int .i64 s] w fun r w' => r = .returned (.int .u64 (keyOf c.key s : Nat)) ∧ Own W m w' := by
  have h1 := h.alloc (.cells #[.int .i64 c.C, .int .i64 c.S, .int .i64 c.O, .int .i64 d, .int .i64 e, .int .u64 c.key] 24)
  have hv : IntKind.u64.wrap ((c.key : Int) + IntKind.u64.wrap ((s : Int) * 11400714819323198485)) = ((keyOf c.key s : Nat) : Int) := by
    unfold keyOf
    rw [IntKind.wrap_u64, IntKind.wrap_u64]
    omega
  have HV := Lib.hid hv
  clear hv
  unfold cV chV
  go_enter Try.func33, Try.ntmps33
  go_wp2_with fail
  go_ret
  exact ⟨by rw [← HV.out]; rfl, h1⟩
set_option maxRecDepth 100000 in
set_option maxHeartbeats 2000000 in
theorem r1list_spec (h : Own W m w) (hc : COk c d e) (hw : WOk W m B o N k g c) (s : Nat) (hs : s < c.S) (i : Int) (hi : -1 ≤ i) :
    Calls Try.prog 85 #[.slice (some ⟨B, o, none⟩) N k, cV c d e, .int .i64 s, .int .i64 i] w (ListPost W m (listP c g s i)) := by
  obtain ⟨n1, n2, n3, n4, n5, n6⟩ := hc.nums
  have h1 := h.new (.cells #[.int .i64 c.C, .int .i64 c.S, .int .i64 c.O, .int .i64 d, .int .i64 e, .int .u64 c.key] 24)
  obtain ⟨b, hb⟩ : ∃ b, w.heap.size = b := ⟨_, rfl⟩
  rw [hb] at h1
  have h1 : Own W (chB b c.C c.S c.O d e c.key :: m) _ := h1
  obtain ⟨y0, y1, y2, y3, y4, y5⟩ := box6 h1
  by_cases hio : i < c.O
  · have hnio : ¬ (c.O : Int) ≤ i := by omega
    have hsi : 0 ≤ (s : Int) ∧ (s : Int) < (c.S : Int) := by omega
    have hm := mul_in hs
    have hN := hw.n
    unfold Ch.words at hN
    have hle : 4 * c.C + 4 + 4 * c.S + s * c.O + c.O ≤ N := by omega
    have hnk := hw.nk
    have hkm := hw.km
    have hls := fun ws (hws : Own W (chB b c.C c.S c.O d e c.key :: m) ws) => rlist16_spec (c := k - (4 * c.C + 4 + 4 * c.S + s * c.O)) hws ((rd_links hw hs).more (m' := [chB b c.C c.S c.O d e c.key])) (n := c.O) (links_len (hw.len.trans hw.n) hs) n6 (w64_links hw s) (by omega) (by omega) (keyOf c.key s) (keyOf_lt _ _) i hi hio
    rw [← listP_in hs hi hio] at hls
    clear hN hm hkm
    have HC := Lib.hid hc
    have HS := Lib.hid hsi
    have HM := Lib.hid hw.rd
    obtain ⟨p, hp⟩ : ∃ p : Nat, 4 * c.C + 4 + 4 * c.S + s * c.O = p := ⟨_, rfl⟩
    have hpi : 4 * (c.C : Int) + 4 + 4 * (c.S : Int) + (s : Int) * (c.O : Int) + 0 = (p : Int) := by rw [← hp]; push_cast; omega
    have HPI := Lib.hid hpi
    rw [hp] at hle hls
    have hs32 : s < 32 := by omega
    have hp0 : (0 : Int) ≤ (p : Int) := by omega
    have hpN : p ≤ 700 := by
      have := Nat.mul_le_mul (show s ≤ 32 by omega) n6
      omega
    have hw1 : IntKind.i64.wrap ((p : Int) + (c.O : Int)) = (p : Int) + (c.O : Int) := by rw [IntWalk.i64_in] <;> omega
    have hp1 : (p : Int) ≤ (p : Int) + (c.O : Int) := by omega
    have hp2 : (p : Int) + (c.O : Int) ≤ (N : Int) := by omega
    have hp3 : (p : Int) + (c.O : Int) ≤ (k : Int) := by omega
    have HLN : Hid (((p : Int) + (c.O : Int)).toNat - p = c.O) := by
      show _ = _
      omega
    clear hp hpi hw hc
    obtain ⟨R, hR⟩ : ∃ R, listP c g s i = R := ⟨_, rfl⟩
    rw [hR] at hls ⊢
    clear hR
    unfold cV chV
    cases R with
    | none =>
      have HL := Lib.hid hls
      clear hls
      go_enter Try.func85, Try.ntmps85
      go_wp2_with fail
      refine (Apart.rlink_ok HC.out.ok HS.out (k := 0) (by omega) h1).mono ?_
      rintro r w2 ⟨rfl, h2⟩
      rw [HPI.out]
      clear y0 y1 y2 y3 y4 y5
      obtain ⟨y0, y1, y2, y3, y4, y5⟩ := box6 h2
      have H2 := Lib.hid h2
      clear h1 h2
      go_wp2_with fail
      go_region_held3 (fun w' => w'.cell? ⟨b, 0, none⟩ = some (.int .i64 c.C) ∧ w'.cell? ⟨b, 1, none⟩ = some (.int .i64 c.S) ∧ w'.cell? ⟨b, 2, none⟩ = some (.int .i64 c.O) ∧ w'.cell? ⟨b, 3, none⟩ = some (.int .i64 d) ∧ w'.cell? ⟨b, 4, none⟩ = some (.int .i64 e) ∧ w'.cell? ⟨b, 5, none⟩ = some (.int .u64 c.key)) (first | (refine ⟨?_, ?_, ?_, ?_, ?_, ?_⟩ <;> assumption) | go_keep)
        (first | (go_at_call 33; refine (r1key_spec s hs32 H2.out.drew).mono ?_; rintro r w3 ⟨rfl, h3⟩; obtain ⟨y0, y1, y2, y3, y4, y5⟩ := box6 h3) |
          (go_at_call 106; rw [HLN.out]; refine (HL.out _ h3).mono ?_; rintro r w4 ⟨rfl, h4⟩; obtain ⟨y0, y1, y2, y3, y4, y5⟩ := box6 h4))
      go_wp2_with fail
      go_ret2
      exact ⟨rfl, h4.skip⟩
    | some l =>
      have HL := Lib.hid hls
      clear hls
      go_enter Try.func85, Try.ntmps85
      go_wp2_with fail
      refine (Apart.rlink_ok HC.out.ok HS.out (k := 0) (by omega) h1).mono ?_
      rintro r w2 ⟨rfl, h2⟩
      rw [HPI.out]
      clear y0 y1 y2 y3 y4 y5
      obtain ⟨y0, y1, y2, y3, y4, y5⟩ := box6 h2
      have H2 := Lib.hid h2
      clear h1 h2
      go_wp2_with fail
      go_region_held3 (fun w' => w'.cell? ⟨b, 0, none⟩ = some (.int .i64 c.C) ∧ w'.cell? ⟨b, 1, none⟩ = some (.int .i64 c.S) ∧ w'.cell? ⟨b, 2, none⟩ = some (.int .i64 c.O) ∧ w'.cell? ⟨b, 3, none⟩ = some (.int .i64 d) ∧ w'.cell? ⟨b, 4, none⟩ = some (.int .i64 e) ∧ w'.cell? ⟨b, 5, none⟩ = some (.int .u64 c.key)) (first | (refine ⟨?_, ?_, ?_, ?_, ?_, ?_⟩ <;> assumption) | go_keep)
        (first | (go_at_call 33; refine (r1key_spec s hs32 H2.out.drew).mono ?_; rintro r w3 ⟨rfl, h3⟩; obtain ⟨y0, y1, y2, y3, y4, y5⟩ := box6 h3) |
          (go_at_call 106; rw [HLN.out]; refine (HL.out _ h3).mono ?_; rintro r w4 ⟨v4, bs4, rfl, K4, h4⟩; obtain ⟨y0, y1, y2, y3, y4, y5⟩ := box6 (h4.perm List.perm_middle)))
      go_wp2_with fail
      go_ret2
      exact ⟨v4, bs4, rfl, K4, h4.drop1⟩
  · have hnio : (c.O : Int) ≤ i := by omega
    rw [listP_out hnio]
    unfold cV chV
    go_enter Try.func85, Try.ntmps85
    go_wp2_with fail
    go_ret2
    exact ⟨rfl, h1.skip⟩
end
end Go.Proofs.Ytigakendeghoaaa.See

/-
  A map from numbers to numbers that the call owns: look-up, store, delete. No condition but the number of entries.
-/
namespace Go.Proofs.Ytigakendeghoaaa
open Go.RowKit
open Go.Maps (Keyed)
open Go.ChangeMaps (setBlock modify_eq_set)
/-- entries that are a function on numbers -/
structure IM (es : Array MapEntry) (n : Nat) (f : Int → Option Int) : Prop where
  size : es.size ≤ n
  ints : ∀ x ∈ es.toList, ∃ k c, x.key = .int .i64 k ∧ x.val = .int .i64 c ∧ (Lit.int .i64 k).wf = true
  apart : ∀ (i j : Nat) (x y : MapEntry), es.toList[i]? = some x → es.toList[j]? = some y → x.key = y.key → i = j
  fits : ∀ k c, f k = some c ↔ ∃ x ∈ es.toList, x.key = .int .i64 k ∧ x.val = .int .i64 c
def fPut (f : Int → Option Int) (k c : Int) : Int → Option Int := fun j => if j = k then some c else f j
def fDel (f : Int → Option Int) (k : Int) : Int → Option Int := fun j => if j = k then none else f j
theorem IM.nil : IM #[] 0 (fun _ => none) := ⟨by simp, by simp, by simp, by simp⟩
theorem int_keyed' : Keyed Try.prog 3 := Go.Maps.int_keyed Try.underlying3
theorem keyOf_i64 {k : Int} (hk : (Lit.int .i64 k).wf = true) : keyOf Try.prog 3 (.int .i64 k) = some (.int .i64 k) := Go.Maps.keyOf_int_mk Try.underlying3 hk
theorem zero_i64 (w : World) : (zeroValue 3).run Try.prog w = .ok (.int .i64 0) w := by
  have hi : (Try.prog.info? 3).map (fun i => i.zero) = some (some (.int .i64 0)) := by kernel_rfl
  cases h : Try.prog.info? 3 with
  | none => rw [h] at hi; cases hi
  | some i =>
    rw [h] at hi
    simp at hi
    simp [zeroValue, typeInfo, h, hi]
section
variable {w : World} {es : Array MapEntry} {ck n b : Nat} {f : Int → Option Int}
theorem IM.keysOk (h : IM es n f) : ∀ e ∈ es.toList, ∃ l, keyOf Try.prog 3 e.key = some l := fun e he => by
  obtain ⟨k, c, hk, -, hw⟩ := h.ints e he
  exact ⟨_, by rw [hk]; exact keyOf_i64 hw⟩
theorem IM.none_of (h : IM es n f) {k : Int} (hk : ∀ e ∈ es.toList, e.key ≠ .int .i64 k) : f k = none := by
  cases hf : f k with
  | none => rfl
  | some c =>
    obtain ⟨x, hx, h1, -⟩ := (h.fits k c).1 hf
    exact absurd h1 (hk x hx)
theorem run_mapGet (h : IM es n f) (hb : w.heap[b]? = some (.map es ck)) {k : Int} (hk : (Lit.int .i64 k).wf = true) :
    (Instr.lookup 118 (.map (some b)) (.int .i64 k) true).run Try.prog w = .ok (.tuple #[.int .i64 ((f k).getD 0), .bool (f k).isSome]) w := by
  have hkey := keyOf_i64 hk
  have K := int_keyed'
  rcases K.find w hkey es.toList h.keysOk with ⟨h1, h2⟩ | ⟨j, e0, h1, h2, h3⟩
  · have hf := h.none_of h2
    simp [Instr.lookup, run_underlying Try.underlying118, MapKept.run_getObj_map hb, K.check w _ hkey, h1, Result.andThen, hf]
  · have hm := List.mem_of_getElem? h2
    obtain ⟨k', c, e1, e2, -⟩ := h.ints e0 hm
    have hf : f k = some c := (h.fits k c).2 ⟨e0, hm, h3, e2⟩
    simp [Instr.lookup, run_underlying Try.underlying118, MapKept.run_getObj_map hb, K.check w _ hkey, h1, Result.andThen, hf, e2]
theorem run_mapPut (h : IM es n f) (hb : w.heap[b]? = some (.map es ck)) (_hn : n < maxLen) {k : Int} (hk : (Lit.int .i64 k).wf = true) (c : Int) :
    ∃ es' ck', (Instr.mapUpdate 118 (.map (some b)) (.int .i64 k) (.int .i64 c)).run Try.prog w = .ok () (setBlock w b (.map es' ck')) ∧ IM es' (n + 1) (fPut f k c) := by
  have hkey := keyOf_i64 hk
  have K := int_keyed'
  rcases K.find w hkey es.toList h.keysOk with ⟨h1, h2⟩ | ⟨j, e0, h1, h2, h3⟩
  · refine ⟨es.push ⟨.int .i64 k, .int .i64 c, ck⟩, ck + 1, ?_, ⟨by have := h.size; simp; omega, ?_, ?_, ?_⟩⟩
    · simp [Instr.mapUpdate, run_underlying Try.underlying118, MapKept.run_getObj_map hb, K.check w false hkey, h1, MapKept.run_setObj_map _ hb, Result.andThen, setBlock]
    · intro x hx
      simp only [Array.toList_push, List.mem_append, List.mem_singleton] at hx
      rcases hx with hx | rfl
      · exact h.ints x hx
      · exact ⟨k, c, rfl, rfl, hk⟩
    · intro i j x y hx hy hxy
      rw [Array.toList_push, List.getElem?_append] at hx hy
      split at hx <;> split at hy
      · exact h.apart i j x y hx hy hxy
      · have : y = ⟨.int .i64 k, .int .i64 c, ck⟩ := by
          rw [List.getElem?_singleton] at hy; split at hy <;> simp_all
        subst this
        exact absurd hxy (h2 x (List.mem_of_getElem? hx))
      · have : x = ⟨.int .i64 k, .int .i64 c, ck⟩ := by
          rw [List.getElem?_singleton] at hx; split at hx <;> simp_all
        subst this
        exact absurd hxy.symm (h2 y (List.mem_of_getElem? hy))
      · rw [List.getElem?_singleton] at hx hy
        split at hx <;> split at hy <;> first | omega | simp_all
    · intro q d
      simp only [Array.toList_push, List.mem_append, List.mem_singleton, fPut]
      by_cases hq : q = k
      · subst hq
        rw [if_pos rfl]
        constructor
        · intro hd
          simp only [Option.some.injEq] at hd
          subst hd
          exact ⟨_, .inr rfl, rfl, rfl⟩
        · rintro ⟨x, hx | rfl, e1, e2⟩
          · exact absurd e1 (h2 x hx)
          · simp only [Value.int.injEq, true_and] at e2
            rw [e2]
      · rw [if_neg hq, h.fits q d]
        constructor
        · rintro ⟨x, hx, e1, e2⟩
          exact ⟨x, .inl hx, e1, e2⟩
        · rintro ⟨x, hx | rfl, e1, e2⟩
          · exact ⟨x, hx, e1, e2⟩
          · simp only [Value.int.injEq, true_and] at e1
            exact absurd e1.symm hq
  · have hj : es[j]? = some e0 := by simpa using h2
    have hjl : j < es.toList.length := (List.getElem?_eq_some_iff.1 h2).1
    have hlist : (es.modify j (fun e' => { e' with key := .int .i64 k, val := .int .i64 c })).toList = es.toList.set j { e0 with key := .int .i64 k, val := .int .i64 c } := by rw [Array.toList_modify, modify_eq_set _ _ _ _ h2]
    have hget : ∀ i, (es.toList.set j { e0 with key := .int .i64 k, val := .int .i64 c })[i]? = if i = j then some { e0 with key := .int .i64 k, val := .int .i64 c } else es.toList[i]? := fun i => by
      rw [List.getElem?_set]
      by_cases hij : j = i
      · subst hij; rw [if_pos rfl, if_pos rfl, if_pos hjl]
      · rw [if_neg hij, if_neg (fun e => hij e.symm)]
    have hmem : ∀ x, x ∈ es.toList.set j { e0 with key := .int .i64 k, val := .int .i64 c } ↔ x = { e0 with key := .int .i64 k, val := .int .i64 c } ∨ (x ∈ es.toList ∧ x.key ≠ .int .i64 k) := fun x => by
      constructor
      · intro hx
        obtain ⟨i, hi⟩ := List.getElem?_of_mem hx
        rw [hget] at hi
        split at hi
        · exact .inl (Option.some.inj hi).symm
        · rename_i hij
          exact .inr ⟨List.mem_of_getElem? hi, fun e => hij (h.apart i j x e0 hi h2 (e.trans h3.symm))⟩
      · rintro (rfl | ⟨hx, hne⟩)
        · exact List.mem_iff_getElem?.2 ⟨j, by rw [hget, if_pos rfl]⟩
        · obtain ⟨i, hi⟩ := List.getElem?_of_mem hx
          refine List.mem_iff_getElem?.2 ⟨i, ?_⟩
          rw [hget, if_neg, hi]
          rintro rfl
          rw [h2] at hi
          cases hi
          exact hne h3
    refine ⟨es.modify j (fun e' => { e' with key := .int .i64 k, val := .int .i64 c }), ck, ?_, ⟨by have := h.size; simp; omega, ?_, ?_, ?_⟩⟩
    · simp [Instr.mapUpdate, run_underlying Try.underlying118, MapKept.run_getObj_map hb, K.check w false hkey, h1, hj, h3, K.stays w hkey, MapKept.run_setObj_map _ hb, Result.andThen, setBlock]
    · intro x hx
      rw [hlist] at hx
      rcases (hmem x).1 hx with rfl | ⟨hx, -⟩
      · exact ⟨k, c, rfl, rfl, hk⟩
      · exact h.ints x hx
    · intro i i' x y hx hy hxy
      rw [hlist, hget] at hx hy
      split at hx <;> split at hy
      · omega
      · cases hx
        rename_i h5 h6
        exact absurd (h.apart i' j y e0 hy h2 (hxy.symm.trans h3.symm)) h6
      · cases hy
        rename_i h5 h6
        exact absurd (h.apart i j x e0 hx h2 (hxy.trans h3.symm)) h5
      · exact h.apart i i' x y hx hy hxy
    · intro q d
      rw [hlist]
      simp only [fPut]
      by_cases hq : q = k
      · subst hq
        rw [if_pos rfl]
        constructor
        · intro hd
          simp only [Option.some.injEq] at hd
          subst hd
          exact ⟨_, (hmem _).2 (.inl rfl), rfl, rfl⟩
        · rintro ⟨x, hx, e1, e2⟩
          rcases (hmem x).1 hx with rfl | ⟨-, hne⟩
          · simp only [Value.int.injEq, true_and] at e2
            rw [e2]
          · exact absurd e1 hne
      · rw [if_neg hq, h.fits q d]
        constructor
        · rintro ⟨x, hx, e1, e2⟩
          exact ⟨x, (hmem x).2 (.inr ⟨hx, by rw [e1]; intro he; simp only [Value.int.injEq, true_and] at he; exact hq he⟩), e1, e2⟩
        · rintro ⟨x, hx, e1, e2⟩
          rcases (hmem x).1 hx with rfl | ⟨hx, -⟩
          · simp only [Value.int.injEq, true_and] at e1
            exact absurd e1.symm hq
          · exact ⟨x, hx, e1, e2⟩
theorem run_mapDel (h : IM es n f) (hb : w.heap[b]? = some (.map es ck)) {k : Int} (hk : (Lit.int .i64 k).wf = true) (ty : TypeId) :
    ∃ es', (Builtin.delete_ #[118, 3] ty #[.map (some b), .int .i64 k]).run Try.prog w = .ok (.tuple #[]) (setBlock w b (.map es' ck)) ∧ IM es' n (fDel f k) := by
  have hkey := keyOf_i64 hk
  have K := int_keyed'
  rcases K.find w hkey es.toList h.keysOk with ⟨h1, h2⟩ | ⟨j, e0, h1, h2, h3⟩
  · refine ⟨es, ?_, ⟨h.size, h.ints, h.apart, ?_⟩⟩
    · simp [Builtin.delete_, run_underlying Try.underlying118, MapKept.run_getObj_map hb, K.check w _ hkey, h1, MapKept.run_setObj_map _ hb, Result.andThen, setBlock]
    · intro q d
      simp only [fDel]
      by_cases hq : q = k
      · subst hq
        rw [if_pos rfl]
        constructor
        · intro hd; cases hd
        · rintro ⟨x, hx, e1, -⟩
          exact absurd e1 (h2 x hx)
      · rw [if_neg hq]; exact h.fits q d
  · have hjl : j < es.toList.length := (List.getElem?_eq_some_iff.1 h2).1
    have hjs : j < es.size := by simpa using hjl
    have hsub : (es.eraseIdxIfInBounds j).toList = es.toList.eraseIdx j := by
      unfold Array.eraseIdxIfInBounds
      rw [dif_pos hjs]
      simp
    have hmem : ∀ x, x ∈ es.toList.eraseIdx j ↔ x ∈ es.toList ∧ x.key ≠ .int .i64 k := fun x => by
      rw [List.mem_eraseIdx_iff_getElem?]
      constructor
      · rintro ⟨i, hne, hi⟩
        exact ⟨List.mem_of_getElem? hi, fun e => hne (h.apart i j x e0 hi h2 (e.trans h3.symm))⟩
      · rintro ⟨hx, hne⟩
        obtain ⟨i, hi⟩ := List.getElem?_of_mem hx
        refine ⟨i, ?_, hi⟩
        rintro rfl
        rw [h2] at hi
        cases hi
        exact hne h3
    refine ⟨es.eraseIdxIfInBounds j, ?_, ⟨Nat.le_trans (MapFrom.size_erase es j) h.size, ?_, ?_, ?_⟩⟩
    · simp [Builtin.delete_, run_underlying Try.underlying118, MapKept.run_getObj_map hb, K.check w _ hkey, h1, MapKept.run_setObj_map _ hb, Result.andThen, setBlock]
    · intro x hx
      rw [hsub] at hx
      exact h.ints x ((hmem x).1 hx).1
    · intro i i' x y hx hy hxy
      rw [hsub, List.getElem?_eraseIdx] at hx hy
      split at hx <;> split at hy <;> have := h.apart _ _ x y hx hy hxy <;> omega
    · intro q d
      rw [hsub]
      simp only [fDel]
      by_cases hq : q = k
      · subst hq
        rw [if_pos rfl]
        constructor
        · intro hd; cases hd
        · rintro ⟨x, hx, e1, -⟩
          exact absurd e1 ((hmem x).1 hx).2
      · rw [if_neg hq, h.fits q d]
        constructor
        · rintro ⟨x, hx, e1, e2⟩
          exact ⟨x, (hmem x).2 ⟨hx, by rw [e1]; intro he; simp only [Value.int.injEq, true_and] at he; exact hq he⟩, e1, e2⟩
        · rintro ⟨x, hx, e1, e2⟩
          exact ⟨x, ((hmem x).1 hx).1, e1, e2⟩
end
section
variable {W w : World} {m : List (Nat × Obj)} {b : Nat} {o : Obj} {es : Array MapEntry} {ck : Nat}
theorem Own.setMap (h : Own W ((b, .map es ck) :: m) w) (es' : Array MapEntry) (ck' : Nat) : Own W ((b, .map es' ck') :: m) (setBlock w b (.map es' ck')) := by
  have hg := h.get (List.mem_cons_self)
  have hge := h.ge (List.mem_cons_self)
  have hlt := heap_lt hg
  have hother : ∀ k, k ≠ b → (setBlock w b (.map es' ck')).heap[k]? = w.heap[k]? := fun k hk => by
    simp only [setBlock]
    rw [Array.getElem?_setIfInBounds, if_neg (fun e => hk e.symm)]
  have hb := h.below
  refine ⟨⟨hb.os, hb.tape, hb.output, by simpa [setBlock] using hb.size, fun k hk => ?_⟩, fun p hm => ?_, h.nd⟩
  · rw [hother k (by omega)]; exact hb.block k hk
  · rcases List.mem_cons.1 hm with rfl | hm
    · exact ⟨hge, by simp [setBlock, hlt]⟩
    · exact ⟨(h.at_ p (List.mem_cons_of_mem _ hm)).1, (hother p.1 (Own.ne h (b' := p.1) (o' := p.2) hm)).trans (h.at_ p (List.mem_cons_of_mem _ hm)).2⟩
end
section
variable {W w : World} {M : List (Nat × Obj)} {es : Array MapEntry} {ck n b : Nat} {f : Int → Option Int}
variable {ops : Array Oper} {rest : List Oper} {o : Oper} {a : Act} {Q : Exit → Act → World → Prop}
/-- '(at_lookup; refine wpList_mapGet rfl _ _ rfl rfl rfl hIM hb hk ?_)' -/
theorem wpList_mapGet (hg : o.guard = none) (m x : Operand) (hop : o.op = Op.lookup 118 m x true) {k : Int} (hm : a.eval m = .map (some b)) (hx : a.eval x = .int .i64 k)
    (h : IM es n f) (hb : w.heap[b]? = some (.map es ck)) (hk : (Lit.int .i64 k).wf = true)
    (hK : wpList Try.prog ops Q rest (a.put o.dst (.tuple #[.int .i64 ((f k).getD 0), .bool (f k).isSome])) w) : wpList Try.prog ops Q (o :: rest) a w := by
  refine wpList_plain hg fun K' hK' => ?_
  unfold Oper.wp
  simp [execOp, hop, hm, hx, run_mapGet h hb hk, Result.andThen]
  exact hK' _ _ hK
/-- '(at_mapUpdate; refine wpList_mapPut rfl _ _ _ rfl rfl rfl rfl hIM hO hn hk ?_; intro es' ck' k1 k2)' -/
theorem wpList_mapPut (hg : o.guard = none) (m x v : Operand) (hop : o.op = Op.mapUpdate 118 m x v) {k c : Int} (hm : a.eval m = .map (some b)) (hx : a.eval x = .int .i64 k) (hv : a.eval v = .int .i64 c)
    (h : IM es n f) (hO : Own W ((b, .map es ck) :: M) w) (hn : n < maxLen) (hk : (Lit.int .i64 k).wf = true)
    (hK : ∀ es' ck' w', IM es' (n + 1) (fPut f k c) → Own W ((b, .map es' ck') :: M) w' → wpList Try.prog ops Q rest (a.put o.dst undef) w') : wpList Try.prog ops Q (o :: rest) a w := by
  refine wpList_plain hg fun K' hK' => ?_
  obtain ⟨es', ck', hrun, h1⟩ := run_mapPut h (hO.get List.mem_cons_self) hn hk c
  unfold Oper.wp
  simp [execOp, hop, hm, hx, hv, hrun, Result.andThen]
  exact hK' _ _ (hK es' ck' _ h1 (hO.setMap es' ck'))
/-- '(at_delete; refine wpList_mapDel rfl _ _ rfl rfl rfl hIM hO hk ?_; intro es' w' k1 k2)' -/
theorem wpList_mapDel (hg : o.guard = none) (m x : Operand) (hop : o.op = Op.call { callee := Callee.builtin Builtin.delete, args := #[m, x], argTypes := #[118, 3] }) {k : Int} (hm : a.eval m = .map (some b)) (hx : a.eval x = .int .i64 k)
    (h : IM es n f) (hO : Own W ((b, .map es ck) :: M) w) (hk : (Lit.int .i64 k).wf = true)
    (hK : ∀ es' w', IM es' n (fDel f k) → Own W ((b, .map es' ck) :: M) w' → wpList Try.prog ops Q rest (a.put o.dst (.tuple #[])) w') : wpList Try.prog ops Q (o :: rest) a w := by
  refine wpList_plain hg fun K' hK' => ?_
  obtain ⟨es', hrun, h1⟩ := run_mapDel h (hO.get List.mem_cons_self) hk o.type
  unfold Oper.wp
  simp [execOp, hop, resolve, invoke, builtin, hm, hx, hrun, Result.andThen]
  exact hK' _ _ (hK es' _ h1 (hO.setMap es' ck))
end
end Go.Proofs.Ytigakendeghoaaa
