import Derived.Test.YtljcndcmdphmgaaZmRzK
import Derived.Test.YtljcndcmdphmgaaZm5
import Derived.Test.YtljcndcmdphmgaaZm3
/-
  wainscotlaw08.step answers true, and both zones stand alike behind it. No condition.
-/
namespace Go.Proofs.Ytljcndcmdphmgaa
open Go.RowKit
attribute [local go_sem ↓] Go.wp_at_zero Go.wp_at_succ
/-- both zones stand alike -/
def St8 (W : World) (m : List (Nat × Obj)) (zb qb N k : Nat) (w : World) : Prop := ∃ (L M : List Pg) (X : List (List Int)) (f : Int → Option Int) (out : List (Int × Int)) (zs qs : List (Nat × Obj)), Hid (ZO zb L X f k zs) ∧ Hid (QO qb M X qs) ∧ Hid (ZJ L M X f out N) ∧ Own W (zs ++ (qs ++ m)) w
section
variable {W w : World} {m zs qs : List (Nat × Obj)} {zb qb N k : Nat}
theorem st8_free {L M : List Pg} {X : List (List Int)} {f : Int → Option Int} {out : List (Int × Int)} (h : Own W (zs ++ (qs ++ m)) w) (hz : Hid (ZO zb L X f k zs)) (hq : Hid (QO qb M X qs)) (hj : Hid (ZJ L M X f out N)) (cpu page : Int) :
    Calls Try.prog 43 #[.pointer (some ⟨zb, 0, none⟩), .int .i64 cpu, .int .i64 page] w fun x w' => ∃ e zs1, x = .returned (.int .i64 e) ∧ Own W (zs1 ++ (qs ++ m)) w' ∧
      Hid (Calls Try.prog 72 #[.pointer (some ⟨qb, 0, none⟩), .int .i64 cpu, .int .i64 page] w' fun x w2 => x = .returned (.int .i64 e) ∧ St8 W m zb qb N (k + 1) w2) := by
  refine (zfree_spec h hz.out cpu page).mono ?_
  rintro x w1 ⟨e, L1, X1, f1, zs1, rfl, HI, HZ, h1⟩
  refine ⟨e, zs1, rfl, h1, ?_⟩
  refine (qfree_spec h1.swap hq.out cpu page).mono ?_
  rintro x w2 ⟨e2, M1, Y1, qs1, rfl, HI2, HQ, h2⟩
  obtain ⟨rfl, rfl, -, out', hj'⟩ := zj_free hj.out HI.out HI2.out
  exact ⟨rfl, L1, M1, _, f1, out', zs1, qs1, HZ.out.up (by omega), HQ, hj', h2.swap⟩
theorem st8_drain {L M : List Pg} {X : List (List Int)} {f : Int → Option Int} {out : List (Int × Int)} (h : Own W (zs ++ (qs ++ m)) w) (hz : Hid (ZO zb L X f k zs)) (hq : Hid (QO qb M X qs)) (hj : Hid (ZJ L M X f out N)) (cpu : Int) :
    Calls Try.prog 45 #[.pointer (some ⟨zb, 0, none⟩), .int .i64 cpu] w fun x w' => ∃ e zs1, x = .returned (.int .i64 e) ∧ Own W (zs1 ++ (qs ++ m)) w' ∧
      Hid (Calls Try.prog 70 #[.pointer (some ⟨qb, 0, none⟩), .int .i64 cpu] w' fun x w2 => x = .returned (.int .i64 e) ∧ St8 W m zb qb N (k + 1) w2) := by
  refine (zdrain_spec h hz.out cpu).mono ?_
  rintro x w1 ⟨e, L1, X1, zs1, rfl, HI, HZ, h1⟩
  refine ⟨e, zs1, rfl, h1, ?_⟩
  refine (qdrain_spec h1.swap hq.out cpu).mono ?_
  rintro x w2 ⟨e2, M1, Y1, qs1, rfl, HI2, HQ, h2⟩
  obtain ⟨rfl, rfl, -, hj'⟩ := zj_drain hj.out HI.out HI2.out
  exact ⟨rfl, L1, M1, _, _, _, zs1, qs1, HZ.out.up (by omega), HQ, hj', h2.swap⟩
theorem st8_alloc {L M : List Pg} {X : List (List Int)} {f : Int → Option Int} {out : List (Int × Int)} (h : Own W (zs ++ (qs ++ m)) w) (hk : k < 1000) (hz : Hid (ZO zb L X f k zs)) (hq : Hid (QO qb M X qs)) (hj : Hid (ZJ L M X f out N)) (cpu order cache : Int) :
    Calls Try.prog 47 #[.pointer (some ⟨zb, 0, none⟩), .int .i64 cpu, .int .i64 order, .int .i64 cache] w fun x w' => ∃ p e zs1, x = .returned (.tuple #[.int .i64 p, .int .i64 e]) ∧ Own W (zs1 ++ (qs ++ m)) w' ∧
      Hid (Calls Try.prog 69 #[.pointer (some ⟨qb, 0, none⟩), .int .i64 cpu, .int .i64 order, .int .i64 cache] w' fun x w2 => x = .returned (.tuple #[.int .i64 p, .int .i64 e]) ∧ St8 W m zb qb N (k + 1) w2) := by
  refine (zalloc_spec h hz.out (by omega) cpu order cache).mono ?_
  rintro x w1 ⟨p, e, L1, X1, f1, zs1, rfl, HI, HZ, h1⟩
  refine ⟨p, e, zs1, rfl, h1, ?_⟩
  refine (qalloc_spec h1.swap hq.out (zj_near hj.out) cpu order cache).mono ?_
  rintro x w2 ⟨p2, e2, M1, Y1, qs1, rfl, HI2, HQ, h2⟩
  obtain ⟨rfl, rfl, rfl, -, out', hj'⟩ := zj_alloc hj.out HI.out HI2.out
  exact ⟨rfl, L1, M1, _, f1, out', zs1, qs1, HZ, HQ, hj', h2.swap⟩
theorem St8.drop1 {x : Nat × Obj} (h : St8 W (x :: m) zb qb N k w) : St8 W m zb qb N k w := by
  obtain ⟨L, M, X, f, out, zs, qs, h1, h2, h3, h4⟩ := h
  exact ⟨L, M, X, f, out, zs, qs, h1, h2, h3, h4.drop2⟩
theorem St8.at1 {B : Nat} {a b c d : Int} (h : St8 W ((B, .cells #[.int .i64 a, .int .i64 b, .int .i64 c, .int .i64 d] 71) :: m) zb qb N k w) : w.cell? ⟨B, 1, none⟩ = some (.int .i64 b) := by
  obtain ⟨L, M, X, f, out, zs, qs, h1, h2, h3, h4⟩ := h
  exact (h4.dropL.dropL).cell List.mem_cons_self 1
set_option maxRecDepth 100000 in
set_option maxHeartbeats 4000000 in
theorem step8_spec (h : St8 W m zb qb N k w) (hk : k < 1000) (x0 x1 x2 x3 : Int) (xf0 : (Lit.int .i64 x0).wf = true) (xf2 : (Lit.int .i64 x2).wf = true) :
    Calls Try.prog 37 #[.pointer (some ⟨zb, 0, none⟩), .pointer (some ⟨qb, 0, none⟩), .agg #[.int .i64 x0, .int .i64 x1, .int .i64 x2, .int .i64 x3]] w fun e w' => e = .returned (.bool true) ∧ St8 W m zb qb N (k + 1) w' := by
  obtain ⟨L, M, X, f, out, zs, qs, HZ, HQ, HJ, ho⟩ := h
  have b0 := emod_bd x0 4 (by omega)
  obtain ⟨K, hK⟩ : ∃ K, x0 % 4 = K := ⟨_, rfl⟩
  rw [hK] at b0
  have HK := Lib.hid hK
  clear hK
  have hn : Own W (zs ++ (qs ++ ((w.heap.size, .cells #[.int .i64 x0, .int .i64 x1, .int .i64 x2, .int .i64 x3] 71) :: m))) _ := ho.new2 (.cells #[.int .i64 x0, .int .i64 x1, .int .i64 x2, .int .i64 x3] 71)
  generalize hB : w.heap.size = B at hn
  have cells : Hid (∀ (M1 M2 : List (Nat × Obj)) ws, Own W (M1 ++ (M2 ++ ((B, .cells #[.int .i64 x0, .int .i64 x1, .int .i64 x2, .int .i64 x3] 71) :: m))) ws → ws.cell? ⟨B, 0, none⟩ = some (.int .i64 x0) ∧ ws.cell? ⟨B, 1, none⟩ = some (.int .i64 x1) ∧ ws.cell? ⟨B, 2, none⟩ = some (.int .i64 x2) ∧ ws.cell? ⟨B, 3, none⟩ = some (.int .i64 x3)) := fun M1 M2 ws hw => by
    have := hw.dropL.dropL
    exact ⟨this.cell List.mem_cons_self 0, this.cell List.mem_cons_self 1, this.cell List.mem_cons_self 2, this.cell List.mem_cons_self 3⟩
  clear ho
  go_enter Try.func37, Try.ntmps37
  obtain ⟨y0, y1, y2, y3⟩ := cells.out _ _ _ hn
  go_wp2_with fail
  refine (bring_spec x0 4 (by omega) (by omega) xf0 _).mono ?_
  rintro e w3 ⟨rfl, rfl⟩
  rw [HK.out]
  by_cases hK0 : K = 0
  · subst hK0
    go_wp2_with fail
    refine (st8_alloc hn hk HZ HQ HJ x1 x2 x3).mono ?_
    rintro e w4 ⟨p, er, zs1, rfl, h4, HC⟩
    clear y0 y1 y2 y3
    obtain ⟨y0, y1, y2, y3⟩ := cells.out _ _ _ h4
    go_wp2_with fail
    refine HC.out.mono ?_
    rintro e w5 ⟨rfl, h5⟩
    go_wp2_with fail
    go_ret
    exact ⟨rfl, h5.drop1⟩
  · have hK0b : (K == 0) = false := beq_eq_false_iff_ne.2 hK0
    by_cases hK3 : K = 3
    · subst hK3
      have HN := Lib.hid hn
      clear hn
      go_wp2_with fail
      go_region_held3 (fun w' => w'.cell? ⟨B, 1, none⟩ = some (.int .i64 x1)) (first | assumption | go_keep)
        (first | (go_at_call 45; refine (st8_drain HN.out.drew HZ HQ HJ x1).mono ?_; rintro e w4 ⟨er, zs1, rfl, h4, HC⟩; have y1 := (cells.out _ _ _ h4).2.1) |
          (go_at_call 70; refine HC.out.mono ?_; rintro e w5 ⟨rfl, h5⟩; have H5 := Lib.hid h5; have y1 := h5.at1; clear h5))
      all_goals
        go_wp2_with fail
        go_ret
        exact ⟨rfl, H5.out.drop1⟩
    · have hK3b : (K == 3) = false := beq_eq_false_iff_ne.2 hK3
      go_wp2_with fail
      refine (outs8_spec hn.swap HQ.out).mono ?_
      rintro e w6 ⟨v6, b6, l, rfl, O6, hl, h6⟩
      obtain ⟨A6, c6, rfl, -, -⟩ := O6.out.slice
      have h7 : Own W (zs ++ (qs ++ ((B, .cells #[.int .i64 x0, .int .i64 x1, .int .i64 x2, .int .i64 x3] 71) :: m))) w6 := h6.dropL.swap
      clear y0 y1 y2 y3 hn
      obtain ⟨y0, y1, y2, y3⟩ := cells.out _ _ _ h7
      obtain ⟨z, hz⟩ : ∃ z, l.length = z := ⟨_, rfl⟩
      have HZL := Lib.hid hz
      rw [hz] at hl ⊢
      clear hz
      by_cases hK2 : K = 2
      · subst hK2
        by_cases hz0 : 0 < z
        · have hz0i : (0 : Int) < (z : Int) := by omega
          have bz := emod_bd x2 (z : Int) (by omega)
          obtain ⟨k', hk'⟩ : ∃ k' : Nat, x2 % (z : Int) = k' := ⟨(x2 % (z : Int)).toNat, by omega⟩
          rw [hk'] at bz
          have HKK := Lib.hid hk'
          obtain ⟨P, hP⟩ : ∃ P, l[k']? = some P := ⟨_, List.getElem?_eq_getElem (by have := HZL.out; omega)⟩
          obtain ⟨g6, cp6, cur6, hv6, -⟩ := O6.out.form (by have := HZL.out; omega)
          rw [HZL.out] at hv6
          simp only [Value.slice.injEq] at hv6
          obtain ⟨rfl, -, rfl⟩ := hv6
          have cP := SlO.cell O6.out h6 (by rw [HZL.out]) (ints_get hP)
          have hk0 : (0 : Int) ≤ k' := by omega
          have hkz : (k' : Int) < z := by omega
          have H6 := Lib.hid h6
          clear hP hk' h6
          go_wp2_with fail
          refine (bring_spec x0 4 (by omega) (by omega) xf0 _).mono ?_
          rintro e w3 ⟨rfl, rfl⟩
          rw [HK.out]
          go_wp2_with fail
          refine (bring_spec x2 (z : Int) (by omega) (by omega) xf2 _).mono ?_
          rintro e w3 ⟨rfl, rfl⟩
          rw [HKK.out]
          go_wp2_with fail
          have HN := Lib.hid h7
          clear h7 y0 y2 y3
          go_region_held3 (fun w' => w'.cell? ⟨B, 1, none⟩ = some (.int .i64 x1)) (first | assumption | go_keep)
            (first | (go_at_call 43; refine (st8_free HN.out.drew HZ HQ HJ x1 P).mono ?_; rintro e w4 ⟨er, zs1, rfl, h4, HC⟩; have y1 := (cells.out _ _ _ h4).2.1) |
              (go_at_call 72; refine HC.out.mono ?_; rintro e w5 ⟨rfl, h5⟩; have H5 := Lib.hid h5; have y1 := h5.at1; clear h5))
          all_goals
            go_wp2_with fail
            go_ret
            exact ⟨rfl, H5.out.drop1⟩
        · have hz0i : ¬ (0 : Int) < (z : Int) := by omega
          clear h6
          go_wp2_with fail
          refine (bring_spec x0 4 (by omega) (by omega) xf0 _).mono ?_
          rintro e w3 ⟨rfl, rfl⟩
          rw [HK.out]
          go_wp2_with fail
          have HN := Lib.hid h7
          clear h7 y0 y2 y3
          go_region_held3 (fun w' => w'.cell? ⟨B, 1, none⟩ = some (.int .i64 x1)) (first | assumption | go_keep)
            (first | (go_at_call 43; refine (st8_free HN.out.drew HZ HQ HJ x1 x2).mono ?_; rintro e w4 ⟨er, zs1, rfl, h4, HC⟩; have y1 := (cells.out _ _ _ h4).2.1) |
              (go_at_call 72; refine HC.out.mono ?_; rintro e w5 ⟨rfl, h5⟩; have H5 := Lib.hid h5; have y1 := h5.at1; clear h5))
          all_goals
            go_wp2_with fail
            go_ret
            exact ⟨rfl, H5.out.drop1⟩
      · have hK2b : (K == 2) = false := beq_eq_false_iff_ne.2 hK2
        clear h6
        go_wp2_with fail
        refine (bring_spec x0 4 (by omega) (by omega) xf0 _).mono ?_
        rintro e w3 ⟨rfl, rfl⟩
        rw [HK.out]
        go_wp2_with fail
        have HN := Lib.hid h7
        clear h7 y0 y2 y3
        go_region_held3 (fun w' => w'.cell? ⟨B, 1, none⟩ = some (.int .i64 x1)) (first | assumption | go_keep)
          (first | (go_at_call 43; refine (st8_free HN.out.drew HZ HQ HJ x1 x2).mono ?_; rintro e w4 ⟨er, zs1, rfl, h4, HC⟩; have y1 := (cells.out _ _ _ h4).2.1) |
            (go_at_call 72; refine HC.out.mono ?_; rintro e w5 ⟨rfl, h5⟩; have H5 := Lib.hid h5; have y1 := h5.at1; clear h5))
        all_goals
          go_wp2_with fail
          go_ret
          exact ⟨rfl, H5.out.drop1⟩
end
end Go.Proofs.Ytljcndcmdphmgaa
