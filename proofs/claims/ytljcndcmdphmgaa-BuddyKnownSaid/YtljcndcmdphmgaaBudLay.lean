/-
  Contract: (*Buddy).lay describes a block.
-/
import Derived.Test.YtljcndcmdphmgaaBud
namespace Go.Proofs.Ytljcndcmdphmgaa
open Go.RowKit
attribute [local go_sem ↓] Go.wp_at_zero Go.wp_at_succ
section
variable {W w : World} {m bl : List (Nat × Obj)} {pb : Nat} {L : List Pg}
set_option maxRecDepth 100000 in
set_option maxHeartbeats 4000000 in
theorem lay_spec (h : Own W (bl ++ m) w) (hb : BdO pb L bl) (a s : Nat) (hs : s ≤ 10) (ha : a + 2 ^ s ≤ L.length) (hL : L.length ≤ 1024) (k o c : Int) :
    Calls Try.prog 58 #[.pointer (some ⟨pb, 0, none⟩), .agg #[.int .i64 a, .int .i64 s], .agg #[.int .i64 k, .int .i64 o, .int .i64 c]] w
      fun e w' => ∃ bl', e = .returned (.tuple #[]) ∧ BdO pb (pgPut L a (k, (s : Int), c)) bl' ∧ Own W (bl' ++ m) w' := by
  obtain ⟨v, bs, ho, rfl⟩ := hb
  obtain ⟨M, hM, hMi, hM1, hM2⟩ := pow_nat hs
  rw [hM] at ha
  have hszx : pgSize (k, ((s : Nat) : Int), c) = M := by simp [pgSize, hM]
  have hput := pgPutK_put (L := L) (p := a) (x := (k, ((s : Nat) : Int), c)) (by rw [hszx]; exact ha)
  rw [hszx] at hput
  have HP := Lib.hid hput
  have HLen := Lib.hid (pgPutK_len L a (k, ((s : Nat) : Int), c))
  have hplen : (pgPut L a (k, ((s : Nat) : Int), c)).length = L.length := pgPut_len (by rw [hszx]; exact ha)
  have HPL := Lib.hid hplen
  obtain ⟨g, cap, cur, rfl, -, -⟩ := ho.form (by omega)
  have h1 := ((bd_own h).new1 (.cells #[.int .i64 a, .int .i64 s] 102)).new1 (.cells #[.int .i64 k, .int .i64 o, .int .i64 c] 24)
  rw [World.size_alloc] at h1
  have h2 := h1.setIn 1 (.int .i64 s)
  obtain ⟨w1, hw1⟩ : ∃ w1, (w.alloc (.cells #[.int .i64 a, .int .i64 s] 102)).alloc (.cells #[.int .i64 k, .int .i64 o, .int .i64 c] 24) = w1 := ⟨_, rfl⟩
  rw [hw1] at h1 h2
  obtain ⟨z, hz⟩ : ∃ z, L[a]? = some z := ⟨_, List.getElem?_eq_getElem (by omega)⟩
  obtain ⟨N, hN⟩ : ∃ N, L.length = N := ⟨_, rfl⟩
  have HN := Lib.hid hN
  rw [hN] at ha hL ho h1 h2
  have xf := h1.dropL.frozen List.mem_cons_self 1
  have x1 := h1.dropL.cell List.mem_cons_self 1
  have y1 := h1.dropL.skip.cell List.mem_cons_self 1
  obtain ⟨w2, hw2⟩ : ∃ w2, w1.setCell ⟨w.heap.size + 1, 1, none⟩ (.int .i64 s) = w2 := ⟨_, rfl⟩
  rw [hw2] at h2
  have h2 : Own W (bs ++ ((w.heap.size + 1, .cells #[.int .i64 k, .int .i64 s, .int .i64 c] 24) :: (w.heap.size, .cells #[.int .i64 a, .int .i64 s] 102) :: (pb, .cells #[.slice (some ⟨g, 0, none⟩) N cap] 61) :: m)) w2 := h2
  have FX : Hid (∀ bs w', Own W (bs ++ ((w.heap.size + 1, .cells #[.int .i64 k, .int .i64 s, .int .i64 c] 24) :: (w.heap.size, .cells #[.int .i64 a, .int .i64 s] 102) :: (pb, .cells #[.slice (some ⟨g, 0, none⟩) N cap] 61) :: m)) w' →
      ((w'.cell? ⟨w.heap.size + 1, 0, none⟩ = some (.int .i64 k) ∧ w'.cell? ⟨w.heap.size + 1, 1, none⟩ = some (.int .i64 s) ∧ w'.cell? ⟨w.heap.size + 1, 2, none⟩ = some (.int .i64 c)) ∧
        (w'.cell? ⟨w.heap.size, 0, none⟩ = some (.int .i64 a) ∧ w'.cell? ⟨w.heap.size, 1, none⟩ = some (.int .i64 s)) ∧ w'.cell? ⟨pb, 0, none⟩ = some (.slice (some ⟨g, 0, none⟩) N cap))) := fun bs w' hw => by
    refine ⟨⟨?_, ?_, ?_⟩, ⟨?_, ?_⟩, ?_⟩
    · simpa using hw.dropL.cell List.mem_cons_self 0
    · simpa using hw.dropL.cell List.mem_cons_self 1
    · simpa using hw.dropL.cell List.mem_cons_self 2
    · simpa using hw.dropL.skip.cell List.mem_cons_self 0
    · simpa using hw.dropL.skip.cell List.mem_cons_self 1
    · simpa using hw.dropL.skip.skip.cell List.mem_cons_self 0
  obtain ⟨⟨p0, p1, p2⟩, ⟨p3, p4⟩, p5⟩ := FX.out _ _ h2
  obtain ⟨t0, t1, t2, tf0, tf1, tf2⟩ := pg_cells ho h2 rfl HN.out.symm hz
  obtain ⟨bs3, o3, h3⟩ := pg_store ho h2 rfl HN.out.symm (j := a) (by rw [HN.out]; omega) (k, ((s : Nat) : Int), c)
  simp only at h3
  have h3 := h3.drew
  have O3 := Lib.hid o3
  simp at x1 y1
  have HM := Lib.hid hM
  clear hput hplen hN h hszx hM h1 ho o3 hz
  go_enter Try.func58, Try.ntmps58
  have ha0 : (0 : Int) ≤ (a : Int) := by omega
  have ha1 : (a : Int) < N := by omega
  go_wp2_with fail
  go_region_held3 (fun w' => ((w'.cell? ⟨w.heap.size + 1, 0, none⟩ = some (.int .i64 k) ∧ w'.cell? ⟨w.heap.size + 1, 1, none⟩ = some (.int .i64 s) ∧ w'.cell? ⟨w.heap.size + 1, 2, none⟩ = some (.int .i64 c)) ∧
        (w'.cell? ⟨w.heap.size, 0, none⟩ = some (.int .i64 a) ∧ w'.cell? ⟨w.heap.size, 1, none⟩ = some (.int .i64 s)) ∧ w'.cell? ⟨pb, 0, none⟩ = some (.slice (some ⟨g, 0, none⟩) N cap))) (first | assumption | exact FX.out _ _ h3 | go_keep) (fail)
  obtain ⟨w3, hw3⟩ : ∃ w3, (((w2.setCell ⟨g, a * 3, none⟩ (.int .i64 k)).setCell ⟨g, a * 3 + 1, none⟩ (.int .i64 s)).setCell ⟨g, a * 3 + 2, none⟩ (.int .i64 c)).drew = w3 := ⟨_, rfl⟩
  rw [hw3] at h3 ⊢
  obtain ⟨⟨p0, p1, p2⟩, ⟨p3, p4⟩, p5⟩ := FX.out _ _ h3
  clear hw3 hw1 hw2 x1 y1 xf t0 t1 t2 tf0 tf1 tf2
  go_wp2_with fail
  refine (size_spec h3 a s hs).mono ?_
  rintro e w4 ⟨rfl, h4⟩
  rw [HM.out]
  obtain ⟨⟨p0, p1, p2⟩, ⟨p3, p4⟩, p5⟩ := FX.out _ _ h4
  go_wp2_with fail
  go_loopw [21] (fun j wr => ∃ i : Nat, i ≤ M - 1 ∧ j = .int .i64 i ∧ ∃ bs, Hid (PgO false (.slice (some ⟨g, 0, none⟩) N cap) (pgPutK L a (k, ((s : Nat) : Int), c) i) bs) ∧ Own W (bs ++ ((w.heap.size + 1, .cells #[.int .i64 k, .int .i64 s, .int .i64 c] 24) :: (w.heap.size, .cells #[.int .i64 a, .int .i64 s] 102) :: (pb, .cells #[.slice (some ⟨g, 0, none⟩) N cap] 61) :: m)) wr) (fun j _ => M - (intOf j).toNat)
  case atStart => exact ⟨0, by omega, rfl, bs3, O3, h4⟩
  case round =>
    obtain ⟨i, hi, rfl, bs, O6, h6⟩ := hrel
    by_cases hlt : i < M - 1
    · have hlt' : (i : Int) < M - 1 := by omega
      obtain ⟨z, hz⟩ : ∃ z, (pgPutK L a (k, ((s : Nat) : Int), c) i)[a + 1 + i]? = some z := ⟨_, List.getElem?_eq_getElem (by rw [HLen.out, HN.out]; omega)⟩
      obtain ⟨a0, a1, a2, b0, b1, b2⟩ := pg_cells O6.out h6 rfl (by rw [HLen.out, HN.out]) hz
      obtain ⟨bs7, o7, h7⟩ := pg_store O6.out h6 rfl (by rw [HLen.out, HN.out]) (j := a + 1 + i) (by rw [HLen.out, HN.out]; omega) pgIn
      have O7 := Lib.hid o7
      simp only [pgIn] at h7
      have h7 := h7.drew
      obtain ⟨⟨p0, p1, p2⟩, ⟨p3, p4⟩, p5⟩ := FX.out _ _ h6
      have w1 : IntKind.i64.wrap ((a : Int) + 1) = (a : Int) + 1 := by rw [IntWalk.i64_in] <;> omega
      have w2 : IntKind.i64.wrap ((a : Int) + 1 + i) = (a : Int) + 1 + i := by rw [IntWalk.i64_in] <;> omega
      have w3 : (0 : Int) ≤ (a : Int) + 1 + i := by omega
      have w4 : ((a : Int) + 1 + i).toNat = a + 1 + i := by omega
      have w5 : (a : Int) + 1 + i < N := by omega
      clear hz o7
      go_wp2_with fail
      go_region_held3 (fun w' => ((w'.cell? ⟨w.heap.size + 1, 0, none⟩ = some (.int .i64 k) ∧ w'.cell? ⟨w.heap.size + 1, 1, none⟩ = some (.int .i64 s) ∧ w'.cell? ⟨w.heap.size + 1, 2, none⟩ = some (.int .i64 c)) ∧
        (w'.cell? ⟨w.heap.size, 0, none⟩ = some (.int .i64 a) ∧ w'.cell? ⟨w.heap.size, 1, none⟩ = some (.int .i64 s)) ∧ w'.cell? ⟨pb, 0, none⟩ = some (.slice (some ⟨g, 0, none⟩) N cap))) (first | assumption | exact FX.out _ _ h7 | go_keep) (fail)
      clear w1 w2 w3 w4 w5
      go_wp2_with fail
      exact ⟨⟨i + 1, by omega, by go_num, bs7, O7, h7⟩, by simp [intOf]; omega⟩
    · have hge : ¬ (i : Int) < M - 1 := by omega
      go_wp2_with fail
      go_end0
      obtain rfl : i = M - 1 := by omega
      have o8 := O6.out
      rw [HP.out] at o8
      exact ⟨rfl, _, ⟨_, bs, by rw [HPL.out, HN.out] at *; exact o8, rfl⟩, own_bd h6.drop1.drop1⟩
end
end Go.Proofs.Ytljcndcmdphmgaa
