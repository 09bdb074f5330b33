/-
  wainscotlaw21.ChartApart answers true: the walk. No condition.
-/
import Derived.Test.YtigakendeghoaaaApartPlaces
namespace Go.Proofs.Ytigakendeghoaaa.Apart
open Go.RowKit
open chartPlaces (Ok)
attribute [local go_sem ↓] Go.wp_at_zero Go.wp_at_succ
theorem yes_works : Ex.yes Try.prog 30 34 = true := by kernel_rfl
theorem bool_info : (Try.prog.info? 4).map (fun i => (i.zero, i.size, i.bytes)) = some (some (.bool false), 1, 1) := by kernel_rfl
/-- which places are there already -/
def bRow (n : Nat) (S : List Nat) : Array Value := ((List.range n).map fun i => Value.bool (decide (i ∈ S))).toArray
theorem bRow_get {n i : Nat} (S : List Nat) (h : i < n) : (bRow n S)[i]? = some (.bool (decide (i ∈ S))) := by simp [bRow, h]
theorem bRow_nil (n : Nat) : Array.replicate n (Value.bool false) = bRow n [] := by
  apply Array.ext_getElem?
  intro j
  by_cases hj : j < n
  · rw [bRow_get _ hj]; simp [hj]
  · rw [Array.getElem?_eq_none (by simp; omega), Array.getElem?_eq_none (by simp [bRow]; omega)]
theorem bRow_set {n x : Nat} (S : List Nat) (h : x < n) : (bRow n S).setIfInBounds x (.bool true) = bRow n (S ++ [x]) := by
  apply Array.ext_getElem?
  intro j
  rw [Array.getElem?_setIfInBounds]
  by_cases hj : j < n
  · rw [bRow_get _ hj]
    by_cases hx : x = j
    · subst hx; simp [bRow, h]
    · rw [if_neg hx, bRow_get _ hj]
      have : ¬ j = x := fun e => hx e.symm
      simp [this]
  · rw [if_neg (by omega), Array.getElem?_eq_none (by simp [bRow]; omega), Array.getElem?_eq_none (by simp [bRow]; omega)]
theorem pl_new {C S O i x : Nat} (h : (pl C S O)[i]? = some x) : x ∉ (pl C S O).take i := by
  intro hm
  obtain ⟨j, hj, he⟩ := List.getElem_of_mem hm
  rw [List.length_take] at hj
  obtain ⟨hi, rfl⟩ := List.getElem?_eq_some_iff.1 h
  rw [List.getElem_take] at he
  have := List.pairwise_iff_getElem.1 (nodup_pl C S O) j i (by omega) hi (by omega)
  exact this he
theorem take_succ_get {l : List Nat} {i x : Nat} (h : l[i]? = some x) : l.take (i + 1) = l.take i ++ [x] := by
  obtain ⟨hi, rfl⟩ := List.getElem?_eq_some_iff.1 h
  exact List.take_succ_eq_append_getElem hi
theorem works_in {W w : World} {m : List (Nat × Obj)} (h : Own W m w) : Calls Try.prog 34 #[] w fun e w' => e = .returned (.bool true) ∧ Own W m w' := Ex.yes_in yes_works h
section
variable {W w : World} {m : List (Nat × Obj)}
set_option maxRecDepth 100000 in
set_option maxHeartbeats 4000000 in
theorem law_ok (a b c d0 e0 key : Int) (ha : (Lit.int .i64 a).wf = true) (hb : (Lit.int .i64 b).wf = true) (hc : (Lit.int .i64 c).wf = true) (hd : (Lit.int .i64 d0).wf = true) (he : (Lit.int .i64 e0).wf = true) (hO : Own W m w) :
    Calls Try.prog 5 #[chV a b c d0 e0 key] w fun r w' => r = .returned (.bool true) ∧ Own W m w' := by
  have h0 : Own W (chB w.heap.size a b c d0 e0 key :: m) _ := hO.new (.cells #[.int .i64 a, .int .i64 b, .int .i64 c, .int .i64 d0, .int .i64 e0, .int .u64 key] 24)
  obtain ⟨y0, y1, y2, y3, y4, y5⟩ := box6 h0
  have HA := Lib.hid ha
  have HB := Lib.hid hb
  have HC := Lib.hid hc
  have HD := Lib.hid hd
  have HE := Lib.hid he
  clear ha hb hc hd he
  unfold chV
  go_enter Try.func5, Try.ntmps5
  go_wp2_with fail
  refine (made_ok HA.out HB.out HC.out HD.out HE.out h0).mono ?_
  rintro r w1 ⟨⟨C, S, O, d, e, hOk, rfl⟩, h1⟩
  obtain ⟨C, rfl⟩ : ∃ n : Nat, C = n := ⟨C.toNat, by unfold Ok at hOk; omega⟩
  obtain ⟨S, rfl⟩ : ∃ n : Nat, S = n := ⟨S.toNat, by unfold Ok at hOk; omega⟩
  obtain ⟨O, rfl⟩ : ∃ n : Nat, O = n := ⟨O.toNat, by unfold Ok at hOk; omega⟩
  clear y0 y1 y2 y3 y4 y5
  obtain ⟨y0, y1, y2, y3, y4, y5⟩ := box6 h1
  have f0 := h1.frozen List.mem_cons_self 0
  have f1 := h1.frozen List.mem_cons_self 1
  have f2 := h1.frozen List.mem_cons_self 2
  have f3 := h1.frozen List.mem_cons_self 3
  have f4 := h1.frozen List.mem_cons_self 4
  have f5 := h1.frozen List.mem_cons_self 5
  have h2 : Own W (chB w.heap.size C S O d e key :: m) _ := (((((h1.set 0 (.int .i64 C)).set 1 (.int .i64 S)).set 2 (.int .i64 O)).set 3 (.int .i64 d)).set 4 (.int .i64 e)).set 5 (.int .u64 key)
  have HOK := Lib.hid hOk
  obtain ⟨c1, c2, c3, c4, c5, c6⟩ : 1 ≤ C ∧ C ≤ 8 ∧ 1 ≤ S ∧ S ≤ 32 ∧ 1 ≤ O ∧ O ≤ 16 := by unfold Ok at hOk; omega
  have hmul : S * O ≤ 32 * 16 := Nat.mul_le_mul c4 c6
  obtain ⟨N, hN⟩ : ∃ N : Nat, 4 * C + 4 + 4 * S + S * O = N := ⟨_, rfl⟩
  have hNi : 4 * (C : Int) + 4 + 4 * (S : Int) + (S : Int) * (O : Int) = (N : Int) := by rw [← hN]; push_cast; rfl
  have hN1 : 1 ≤ N := by omega
  have hN2 : N ≤ 4096 := by omega
  have HN := Lib.hid hN
  have HNI := Lib.hid hNi
  clear hOk hmul hN hNi
  go_wp2_with fail
  obtain ⟨wa, hwa⟩ : ∃ wa, (((((w1.setCell ⟨w.heap.size, 0, none⟩ (.int .i64 C)).setCell ⟨w.heap.size, 1, none⟩ (.int .i64 S)).setCell ⟨w.heap.size, 2, none⟩ (.int .i64 O)).setCell ⟨w.heap.size, 3, none⟩ (.int .i64 d)).setCell ⟨w.heap.size, 4, none⟩ (.int .i64 e)).setCell ⟨w.heap.size, 5, none⟩ (.int .u64 key) = wa := ⟨_, rfl⟩
  rw [hwa] at h2 ⊢
  clear hwa y0 y1 y2 y3 y4 y5 f0 f1 f2 f3 f4 f5
  refine (words_ok HOK.out h2).mono ?_
  rintro r w3 ⟨rfl, h3⟩
  rw [HNI.out]
  obtain ⟨y0, y1, y2, y3, y4, y5⟩ := box6 h3
  go_wp2_with fail
  refine (check_ok HOK.out h3).mono ?_
  rintro r w4 ⟨rfl, h4⟩
  clear y0 y1 y2 y3 y4 y5
  obtain ⟨i, hi, hz, hs, hby⟩ := info_get bool_info
  have hmk := fun W => run_make_rowN (P := Try.prog) 47 4 i _ Try.underlying47 hi hz .i64 .i64 N N (Nat.le_refl _) (by rw [hby]; omega) (by omega) W
  rw [hs, Nat.mul_one, madeCells_const _ (.bool false) _ (by simp [Value.cells]) (by intro j hj; obtain rfl : j = 0 := (by simp [Value.cells] at hj; omega); rfl), bRow_nil] at hmk
  clear hi hz hs hby
  have h5 := h4.new1 (m1 := [chB w.heap.size C S O d e key]) (.cells (bRow N []) 4)
  have h5 : Own W (chB w.heap.size C S O d e key :: (w4.heap.size, .cells (bRow N []) 4) :: m) _ := h5
  obtain ⟨y0, y1, y2, y3, y4, y5⟩ := box6 h5
  go_wp2_with fail
  clear hmk y0 y1 y2 y3 y4 y5
  refine (places_ok HOK.out h5).mono ?_
  rintro r w6 ⟨v6, bs6, rfl, o6, h6⟩
  have hlen : 0 < (castN (pl C S O)).length := by rw [castN_len, pl_eq, plB_len]; omega
  obtain ⟨g, cap6, cur6, rfl, -, -⟩ := o6.form hlen
  have O6 := Lib.hid o6
  have h6 : Own W (bs6 ++ (w4.heap.size, .cells (bRow N []) 4) :: m) _ := (h6.perm List.perm_middle).skip
  clear o6 hlen
  obtain ⟨Z, hZ⟩ : ∃ Z, (castN (pl C S O)).length = Z := ⟨_, rfl⟩
  have HZ := Lib.hid hZ
  rw [hZ]
  have hZ7 : Z ≤ 700 := by
    have h1 := plB_len C S O S
    have h2 : S * (3 + O) ≤ 32 * 19 := Nat.mul_le_mul c4 (by omega)
    rw [← hZ, castN_len, pl_eq]
    omega
  clear hZ
  go_wp2_with fail
  go_loopw [6] (fun i wr => ∃ j : Nat, j ≤ Z ∧ i = .int .i64 j ∧ Own W (bs6 ++ (w4.heap.size, .cells (bRow N ((pl C S O).take j)) 4) :: m) wr) (fun i _ => Z - (intOf i).toNat)
  case atStart => exact ⟨0, by omega, rfl, by simpa using h6⟩
  case round =>
    clear h6
    obtain ⟨j, hj, rfl, hr⟩ := hrel
    by_cases hlt : j < Z
    · have hlti : (j : Int) < Z := by omega
      obtain ⟨x, hx⟩ : ∃ x, (pl C S O)[j]? = some x := ⟨_, List.getElem?_eq_getElem (by have := HZ.out; rw [castN_len] at this; omega)⟩
      have hxi : (castN (pl C S O))[j]? = some (x : Int) := by simp [castN, hx]
      have hxN : x < N := by rw [← HN.out]; exact mem_pl (List.mem_of_getElem? hx)
      have hnew := pl_new hx
      have cx := SlO.cell O6.out hr rfl (ints_get hxi)
      have cb := hr.dropL.cell List.mem_cons_self x
      rw [bRow_get _ hxN, decide_eq_false hnew] at cb
      have fb := hr.dropL.frozen List.mem_cons_self x
      have h7 := hr.setIn x (.bool true)
      rw [bRow_set _ hxN, ← take_succ_get hx] at h7
      have hxi0 : (0 : Int) ≤ (x : Int) := by omega
      have hxi1 : (x : Int) < N := by omega
      clear hxi hnew hx
      go_wp2_with fail
      exact ⟨⟨j + 1, by omega, by go_num, h7⟩, by simp [intOf]; omega⟩
    · have hlti : ¬ (j : Int) < Z := by omega
      go_wp2_with fail
      refine (works_in hr.dropL.skip).mono ?_
      rintro r w7 ⟨rfl, h7⟩
      go_wp2_with fail
      go_ret
      exact ⟨rfl, h7⟩
end
end Go.Proofs.Ytigakendeghoaaa.Apart
