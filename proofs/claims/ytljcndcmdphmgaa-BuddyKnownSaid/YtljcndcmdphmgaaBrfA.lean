/-
  The reference's buddies: blocks; contracts: free, set. No condition.
-/
import Derived.Test.YtljcndcmdphmgaaBudFrees
namespace Go.Proofs.Ytljcndcmdphmgaa
open Go.RowKit
attribute [local go_sem ↓] Go.wp_at_zero Go.wp_at_succ
/-- a reference's buddy: its blocks -/
def RdO (rb : Nat) (L : List Pg) (bl : List (Nat × Obj)) : Prop := ∃ v bs, PgO false v L bs ∧ bl = (rb, .cells #[v] 57) :: bs
def rfreeB (L : List Pg) (page o : Int) : Bool := decide (0 ≤ page ∧ L[page.toNat]? = some (0, o, 0))
section
variable {W w : World} {m bl : List (Nat × Obj)} {rb : Nat} {L : List Pg}
theorem rd_cell {v : Value} {bs : List (Nat × Obj)} (h : Own W (((rb, .cells #[v] 57) :: bs) ++ m) w) : w.cell? ⟨rb, 0, none⟩ = some v := by
  have h1 : Own W ((rb, .cells #[v] 57) :: (bs ++ m)) w := h
  simpa using h1.cell List.mem_cons_self 0
theorem rd_frozen {v : Value} {bs : List (Nat × Obj)} (h : Own W (((rb, .cells #[v] 57) :: bs) ++ m) w) : w.frozen? ⟨rb, 0, none⟩ = false := by
  have h1 : Own W ((rb, .cells #[v] 57) :: (bs ++ m)) w := h
  exact h1.frozen List.mem_cons_self 0
theorem rd_own {v : Value} {bs : List (Nat × Obj)} (h : Own W (((rb, .cells #[v] 57) :: bs) ++ m) w) : Own W (bs ++ ((rb, .cells #[v] 57) :: m)) w :=
  h.perm List.perm_middle.symm
theorem own_rd {v : Value} {bs : List (Nat × Obj)} (h : Own W (bs ++ ((rb, .cells #[v] 57) :: m)) w) : Own W (((rb, .cells #[v] 57) :: bs) ++ m) w :=
  h.perm List.perm_middle
theorem rd_read {v : Value} {bs : List (Nat × Obj)} (hs : PgO false v L bs) (h : Own W (((rb, .cells #[v] 57) :: bs) ++ m) w) : PgS w v L := PgO.read hs (rd_own h)
set_option maxHeartbeats 2000000 in
theorem rfree_spec (h : Own W (bl ++ m) w) (hb : RdO rb L bl) (hL1 : 1 ≤ L.length) (hL : L.length ≤ 60000) (page o : Int) :
    Calls Try.prog 61 #[.pointer (some ⟨rb, 0, none⟩), .int .i64 page, .int .i64 o] w fun e w' => e = .returned (.bool (rfreeB L page o)) ∧ w = w' := by
  obtain ⟨v, bs, hs, rfl⟩ := hb
  obtain ⟨g, cap, cur, rfl, -, -⟩ := hs.form (by omega)
  have hc := rd_cell h
  obtain ⟨N, hN⟩ : ∃ N, L.length = N := ⟨_, rfl⟩
  have HN := Lib.hid hN
  rw [hN] at hc hL1 hL
  by_cases h0 : 0 ≤ page
  · by_cases h1 : page < N
    · obtain ⟨p, rfl⟩ : ∃ p : Nat, page = p := ⟨page.toNat, by omega⟩
      obtain ⟨⟨p0, p1, p2⟩, hp⟩ : ∃ x, L[p]? = some x := ⟨_, List.getElem?_eq_getElem (by omega)⟩
      obtain ⟨a0, a1, a2, -, -, -⟩ := pg_cells hs (rd_own h) rfl rfl hp
      simp only at a0 a1 a2
      have hr : rfreeB L p o = decide (((p0 : Int), (p1 : Int), (p2 : Int)) = (0, o, 0)) := by
        unfold rfreeB
        rw [Int.toNat_natCast, hp]
        simp
      rw [hr]
      have hp0 : (0 : Int) ≤ (p : Int) := h0
      clear hN h hp hr h0
      by_cases e0 : p0 = 0
      · subst e0
        by_cases e1 : p1 = o
        · subst e1
          by_cases e2 : p2 = 0
          · subst e2
            go_enter Try.func61, Try.ntmps61
            go_wp2_with fail
            go_ret
            exact ⟨by simp, rfl⟩
          · have n2 : (p2 == 0) = false := beq_eq_false_iff_ne.2 e2
            go_enter Try.func61, Try.ntmps61
            go_wp2_with fail
            go_ret
            exact ⟨by simp [e2], rfl⟩
        · have n1 : (p1 == o) = false := beq_eq_false_iff_ne.2 e1
          go_enter Try.func61, Try.ntmps61
          go_wp2_with fail
          go_ret
          exact ⟨by simp [e1], rfl⟩
      · have n0 : (p0 == 0) = false := beq_eq_false_iff_ne.2 e0
        go_enter Try.func61, Try.ntmps61
        go_wp2_with fail
        go_ret
        exact ⟨by simp [e0], rfl⟩
    · have hr : rfreeB L page o = false := by
        unfold rfreeB
        apply decide_eq_false
        rintro ⟨-, h2⟩
        have := (List.getElem?_eq_some_iff.1 h2).1
        omega
      rw [hr]
      clear hN hr
      go_enter Try.func61, Try.ntmps61
      go_wp2_with fail
      go_ret
      exact ⟨rfl, rfl⟩
  · have hr : rfreeB L page o = false := by
      unfold rfreeB
      exact decide_eq_false fun h2 => h0 h2.1
    rw [hr]
    clear hN hr
    go_enter Try.func61, Try.ntmps61
    go_wp2_with fail
    go_ret
    exact ⟨rfl, rfl⟩
set_option maxRecDepth 100000 in
set_option maxHeartbeats 4000000 in
theorem rset_spec (h : Own W (bl ++ m) w) (hb : RdO rb L bl) (a s : Nat) (hs : s ≤ 10) (ha : a + 2 ^ s ≤ L.length) (hL : L.length ≤ 1024) (k c : Int) :
    Calls Try.prog 62 #[.pointer (some ⟨rb, 0, none⟩), .int .i64 a, .agg #[.int .i64 k, .int .i64 s, .int .i64 c]] w
      fun e w' => ∃ bl', e = .returned (.tuple #[]) ∧ RdO rb (pgPut L a (k, (s : Int), c)) bl' ∧ Own W (bl' ++ m) w' := by
  obtain ⟨v, bs, ho, rfl⟩ := hb
  obtain ⟨M, hM, hMi, hM1, hM2⟩ := pow_nat hs
  have hmin : min s 64 = s := by omega
  rw [hM] at ha
  have hszx : pgSize (k, ((s : Nat) : Int), c) = M := by simp [pgSize, hM]
  have hput := pgPutK_put (L := L) (p := a) (x := (k, ((s : Nat) : Int), c)) (by rw [hszx]; exact ha)
  rw [hszx] at hput
  have HP := Lib.hid hput
  have HLen := Lib.hid (pgPutK_len L a (k, ((s : Nat) : Int), c))
  have hplen : (pgPut L a (k, ((s : Nat) : Int), c)).length = L.length := pgPut_len (by rw [hszx]; exact ha)
  have HPL := Lib.hid hplen
  obtain ⟨g, cap, cur, rfl, -, -⟩ := ho.form (by omega)
  have h1 := (rd_own h).new1 (.cells #[.int .i64 k, .int .i64 s, .int .i64 c] 24)
  obtain ⟨w1, hw1⟩ : ∃ w1, w.alloc (.cells #[.int .i64 k, .int .i64 s, .int .i64 c] 24) = w1 := ⟨_, rfl⟩
  rw [hw1] at h1
  obtain ⟨z, hz⟩ : ∃ z, L[a]? = some z := ⟨_, List.getElem?_eq_getElem (by omega)⟩
  obtain ⟨N, hN⟩ : ∃ N, L.length = N := ⟨_, rfl⟩
  have HN := Lib.hid hN
  rw [hN] at ha hL ho h1
  have h1 : Own W (bs ++ ((w.heap.size, .cells #[.int .i64 k, .int .i64 s, .int .i64 c] 24) :: (rb, .cells #[.slice (some ⟨g, 0, none⟩) N cap] 57) :: m)) w1 := h1
  have FX : Hid (∀ bs w', Own W (bs ++ ((w.heap.size, .cells #[.int .i64 k, .int .i64 s, .int .i64 c] 24) :: (rb, .cells #[.slice (some ⟨g, 0, none⟩) N cap] 57) :: m)) w' →
      ((w'.cell? ⟨w.heap.size, 0, none⟩ = some (.int .i64 k) ∧ w'.cell? ⟨w.heap.size, 1, none⟩ = some (.int .i64 s) ∧ w'.cell? ⟨w.heap.size, 2, none⟩ = some (.int .i64 c)) ∧
        w'.cell? ⟨rb, 0, none⟩ = some (.slice (some ⟨g, 0, none⟩) N cap))) := fun bs w' hw => by
    refine ⟨⟨?_, ?_, ?_⟩, ?_⟩
    · simpa using hw.dropL.cell List.mem_cons_self 0
    · simpa using hw.dropL.cell List.mem_cons_self 1
    · simpa using hw.dropL.cell List.mem_cons_self 2
    · simpa using hw.dropL.skip.cell List.mem_cons_self 0
  obtain ⟨⟨p0, p1, p2⟩, p5⟩ := FX.out _ _ h1
  obtain ⟨t0, t1, t2, tf0, tf1, tf2⟩ := pg_cells ho h1 rfl HN.out.symm hz
  obtain ⟨bs3, o3, h3⟩ := pg_store ho h1 rfl HN.out.symm (j := a) (by rw [HN.out]; omega) (k, ((s : Nat) : Int), c)
  simp only at h3
  have h3 := h3.drew
  have O3 := Lib.hid o3
  have HM := Lib.hid hM
  clear hput hplen hN h hszx hM ho o3 hz
  go_enter Try.func62, Try.ntmps62
  have ha0 : (0 : Int) ≤ (a : Int) := by omega
  have ha1 : (a : Int) < N := by omega
  go_wp2_with fail
  go_region_held3 (fun w' => ((w'.cell? ⟨w.heap.size, 0, none⟩ = some (.int .i64 k) ∧ w'.cell? ⟨w.heap.size, 1, none⟩ = some (.int .i64 s) ∧ w'.cell? ⟨w.heap.size, 2, none⟩ = some (.int .i64 c)) ∧
        w'.cell? ⟨rb, 0, none⟩ = some (.slice (some ⟨g, 0, none⟩) N cap))) (first | assumption | exact FX.out _ _ h3 | go_keep) (fail)
  obtain ⟨w3, hw3⟩ : ∃ w3, (((w1.setCell ⟨g, a * 3, none⟩ (.int .i64 k)).setCell ⟨g, a * 3 + 1, none⟩ (.int .i64 s)).setCell ⟨g, a * 3 + 2, none⟩ (.int .i64 c)).drew = w3 := ⟨_, rfl⟩
  rw [hw3] at h3 ⊢
  obtain ⟨⟨p0, p1, p2⟩, p5⟩ := FX.out _ _ h3
  have hwM : IntKind.i64.wrap (M : Int) = (M : Int) := by rw [IntWalk.i64_in] <;> omega
  clear hw3 hw1 t0 t1 t2 tf0 tf1 tf2 h1
  go_wp2_with fail
  go_loopw [6] (fun j wr => ∃ i : Nat, i ≤ M - 1 ∧ j = .int .i64 ((i + 1 : Nat) : Int) ∧ ∃ bs, Hid (PgO false (.slice (some ⟨g, 0, none⟩) N cap) (pgPutK L a (k, ((s : Nat) : Int), c) i) bs) ∧ Own W (bs ++ ((w.heap.size, .cells #[.int .i64 k, .int .i64 s, .int .i64 c] 24) :: (rb, .cells #[.slice (some ⟨g, 0, none⟩) N cap] 57) :: m)) wr) (fun j _ => M - (intOf j).toNat)
  case atStart => exact ⟨0, by omega, rfl, bs3, O3, h3⟩
  case round =>
    obtain ⟨i, hi, rfl, bs, O6, h6⟩ := hrel
    obtain ⟨⟨p0, p1, p2⟩, p5⟩ := FX.out _ _ h6
    by_cases hlt : i < M - 1
    · have hlt' : (i : Int) + 1 < M := by omega
      obtain ⟨z, hz⟩ : ∃ z, (pgPutK L a (k, ((s : Nat) : Int), c) i)[a + 1 + i]? = some z := ⟨_, List.getElem?_eq_getElem (by rw [HLen.out, HN.out]; omega)⟩
      obtain ⟨a0, a1, a2, b0, b1, b2⟩ := pg_cells O6.out h6 rfl (by rw [HLen.out, HN.out]) hz
      obtain ⟨bs7, o7, h7⟩ := pg_store O6.out h6 rfl (by rw [HLen.out, HN.out]) (j := a + 1 + i) (by rw [HLen.out, HN.out]; omega) pgIn
      have O7 := Lib.hid o7
      simp only [pgIn] at h7
      rw [show a + 1 + i = a + (i + 1) from by omega] at a0 a1 a2 b0 b1 b2 h7
      have w2 : IntKind.i64.wrap ((a : Int) + ((i + 1 : Nat) : Int)) = (a : Int) + ((i + 1 : Nat) : Int) := by rw [IntWalk.i64_in] <;> omega
      have w3 : (0 : Int) ≤ (a : Int) + ((i + 1 : Nat) : Int) := by omega
      have w4 : ((a : Int) + ((i + 1 : Nat) : Int)).toNat = a + (i + 1) := by omega
      have w5 : (a : Int) + ((i + 1 : Nat) : Int) < N := by omega
      clear hz o7
      go_wp2_with fail
      exact ⟨⟨i + 1, by omega, by go_num, bs7, O7, h7⟩, by simp [intOf]; omega⟩
    · have hge : ¬ (i : Int) + 1 < M := by omega
      go_wp2_with fail
      go_end0
      obtain rfl : i = M - 1 := by omega
      have o8 := O6.out
      rw [HP.out] at o8
      exact ⟨rfl, _, ⟨_, bs, by rw [HPL.out, HN.out] at *; exact o8, rfl⟩, own_rd h6.drop1⟩
end
end Go.Proofs.Ytljcndcmdphmgaa
