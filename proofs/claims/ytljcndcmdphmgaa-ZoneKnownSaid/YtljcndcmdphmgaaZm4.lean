/-
  Texts of this claim, joined. No condition.
-/
import Derived.Test.YtljcndcmdphmgaaZm3
import Derived.Deep.RegionWith
import Derived.Test.YtljcndcmdphmgaaZm2
/-
  Contract: (*Buddy).lay describes a block.
-/
namespace Go.Proofs.Ytljcndcmdphmgaa
open Go.RowKit
attribute [local go_sem ↓] Go.wp_at_zero Go.wp_at_succ
section
variable {W w : World} {m bl : List (Nat × Obj)} {pb : Nat} {L : List Pg}
set_option maxRecDepth 100000 in
set_option maxHeartbeats 4000000 in
theorem lay_spec (h : Own W (bl ++ m) w) (hb : BdO pb L bl) (a s : Nat) (hs : s ≤ 10) (ha : a + 2 ^ s ≤ L.length) (hL : L.length ≤ 1024) (k o c : Int) :
    Calls Try.prog 58 #[.pointer (some ⟨pb, 0, none⟩), .agg #[.int .i64 a, .int .i64 s], .agg #[.int .i64 k, .int .i64 o, .int .i64 c]] w
      fun e w' => ∃ bl', e = .returned (.tuple #[]) ∧ BdO pb (pgPut L a (k, (s : Int), c)) bl' ∧ Own W (bl' ++ m) w' := by
  obtain ⟨v, bs, ho, rfl⟩ := hb
  obtain ⟨M, hM, hMi, hM1, hM2⟩ := pow_nat hs
  rw [hM] at ha
  have hszx : pgSize (k, ((s : Nat) : Int), c) = M := by simp [pgSize, hM]
  have hput := pgPutK_put (L := L) (p := a) (x := (k, ((s : Nat) : Int), c)) (by rw [hszx]; exact ha)
  rw [hszx] at hput
  have HP := Lib.hid hput
  have HLen := Lib.hid (pgPutK_len L a (k, ((s : Nat) : Int), c))
  have hplen : (pgPut L a (k, ((s : Nat) : Int), c)).length = L.length := pgPut_len (by rw [hszx]; exact ha)
  have HPL := Lib.hid hplen
  obtain ⟨g, cap, cur, rfl, -, -⟩ := ho.form (by omega)
  have h1 := ((bd_own h).new1 (.cells #[.int .i64 a, .int .i64 s] 102)).new1 (.cells #[.int .i64 k, .int .i64 o, .int .i64 c] 24)
  rw [World.size_alloc] at h1
  have h2 := h1.setIn 1 (.int .i64 s)
  obtain ⟨w1, hw1⟩ : ∃ w1, (w.alloc (.cells #[.int .i64 a, .int .i64 s] 102)).alloc (.cells #[.int .i64 k, .int .i64 o, .int .i64 c] 24) = w1 := ⟨_, rfl⟩
  rw [hw1] at h1 h2
  obtain ⟨z, hz⟩ : ∃ z, L[a]? = some z := ⟨_, List.getElem?_eq_getElem (by omega)⟩
  obtain ⟨N, hN⟩ : ∃ N, L.length = N := ⟨_, rfl⟩
  have HN := Lib.hid hN
  rw [hN] at ha hL ho h1 h2
  have xf := h1.dropL.frozen List.mem_cons_self 1
  have x1 := h1.dropL.cell List.mem_cons_self 1
  have y1 := h1.dropL.skip.cell List.mem_cons_self 1
  obtain ⟨w2, hw2⟩ : ∃ w2, w1.setCell ⟨w.heap.size + 1, 1, none⟩ (.int .i64 s) = w2 := ⟨_, rfl⟩
  rw [hw2] at h2
  have h2 : Own W (bs ++ ((w.heap.size + 1, .cells #[.int .i64 k, .int .i64 s, .int .i64 c] 24) :: (w.heap.size, .cells #[.int .i64 a, .int .i64 s] 102) :: (pb, .cells #[.slice (some ⟨g, 0, none⟩) N cap] 61) :: m)) w2 := h2
  have FX : Hid (∀ bs w', Own W (bs ++ ((w.heap.size + 1, .cells #[.int .i64 k, .int .i64 s, .int .i64 c] 24) :: (w.heap.size, .cells #[.int .i64 a, .int .i64 s] 102) :: (pb, .cells #[.slice (some ⟨g, 0, none⟩) N cap] 61) :: m)) w' →
      ((w'.cell? ⟨w.heap.size + 1, 0, none⟩ = some (.int .i64 k) ∧ w'.cell? ⟨w.heap.size + 1, 1, none⟩ = some (.int .i64 s) ∧ w'.cell? ⟨w.heap.size + 1, 2, none⟩ = some (.int .i64 c)) ∧
        (w'.cell? ⟨w.heap.size, 0, none⟩ = some (.int .i64 a) ∧ w'.cell? ⟨w.heap.size, 1, none⟩ = some (.int .i64 s)) ∧ w'.cell? ⟨pb, 0, none⟩ = some (.slice (some ⟨g, 0, none⟩) N cap))) := fun bs w' hw => by
    refine ⟨⟨?_, ?_, ?_⟩, ⟨?_, ?_⟩, ?_⟩
    · simpa using hw.dropL.cell List.mem_cons_self 0
    · simpa using hw.dropL.cell List.mem_cons_self 1
    · simpa using hw.dropL.cell List.mem_cons_self 2
    · simpa using hw.dropL.skip.cell List.mem_cons_self 0
    · simpa using hw.dropL.skip.cell List.mem_cons_self 1
    · simpa using hw.dropL.skip.skip.cell List.mem_cons_self 0
  obtain ⟨⟨p0, p1, p2⟩, ⟨p3, p4⟩, p5⟩ := FX.out _ _ h2
  obtain ⟨t0, t1, t2, tf0, tf1, tf2⟩ := pg_cells ho h2 rfl HN.out.symm hz
  obtain ⟨bs3, o3, h3⟩ := pg_store ho h2 rfl HN.out.symm (j := a) (by rw [HN.out]; omega) (k, ((s : Nat) : Int), c)
  simp only at h3
  have h3 := h3.drew
  have O3 := Lib.hid o3
  simp at x1 y1
  have HM := Lib.hid hM
  clear hput hplen hN h hszx hM h1 ho o3 hz
  go_enter Try.func58, Try.ntmps58
  have ha0 : (0 : Int) ≤ (a : Int) := by omega
  have ha1 : (a : Int) < N := by omega
  go_wp2_with fail
  go_region_held3 (fun w' => ((w'.cell? ⟨w.heap.size + 1, 0, none⟩ = some (.int .i64 k) ∧ w'.cell? ⟨w.heap.size + 1, 1, none⟩ = some (.int .i64 s) ∧ w'.cell? ⟨w.heap.size + 1, 2, none⟩ = some (.int .i64 c)) ∧
        (w'.cell? ⟨w.heap.size, 0, none⟩ = some (.int .i64 a) ∧ w'.cell? ⟨w.heap.size, 1, none⟩ = some (.int .i64 s)) ∧ w'.cell? ⟨pb, 0, none⟩ = some (.slice (some ⟨g, 0, none⟩) N cap))) (first | assumption | exact FX.out _ _ h3 | go_keep) (fail)
  obtain ⟨w3, hw3⟩ : ∃ w3, (((w2.setCell ⟨g, a * 3, none⟩ (.int .i64 k)).setCell ⟨g, a * 3 + 1, none⟩ (.int .i64 s)).setCell ⟨g, a * 3 + 2, none⟩ (.int .i64 c)).drew = w3 := ⟨_, rfl⟩
  rw [hw3] at h3 ⊢
  obtain ⟨⟨p0, p1, p2⟩, ⟨p3, p4⟩, p5⟩ := FX.out _ _ h3
  clear hw3 hw1 hw2 x1 y1 xf t0 t1 t2 tf0 tf1 tf2
  go_wp2_with fail
  refine (size_spec h3 a s hs).mono ?_
  rintro e w4 ⟨rfl, h4⟩
  rw [HM.out]
  obtain ⟨⟨p0, p1, p2⟩, ⟨p3, p4⟩, p5⟩ := FX.out _ _ h4
  go_wp2_with fail
  go_loopw [21] (fun j wr => ∃ i : Nat, i ≤ M - 1 ∧ j = .int .i64 i ∧ ∃ bs, Hid (PgO false (.slice (some ⟨g, 0, none⟩) N cap) (pgPutK L a (k, ((s : Nat) : Int), c) i) bs) ∧ Own W (bs ++ ((w.heap.size + 1, .cells #[.int .i64 k, .int .i64 s, .int .i64 c] 24) :: (w.heap.size, .cells #[.int .i64 a, .int .i64 s] 102) :: (pb, .cells #[.slice (some ⟨g, 0, none⟩) N cap] 61) :: m)) wr) (fun j _ => M - (intOf j).toNat)
  case atStart => exact ⟨0, by omega, rfl, bs3, O3, h4⟩
  case round =>
    obtain ⟨i, hi, rfl, bs, O6, h6⟩ := hrel
    by_cases hlt : i < M - 1
    · have hlt' : (i : Int) < M - 1 := by omega
      obtain ⟨z, hz⟩ : ∃ z, (pgPutK L a (k, ((s : Nat) : Int), c) i)[a + 1 + i]? = some z := ⟨_, List.getElem?_eq_getElem (by rw [HLen.out, HN.out]; omega)⟩
      obtain ⟨a0, a1, a2, b0, b1, b2⟩ := pg_cells O6.out h6 rfl (by rw [HLen.out, HN.out]) hz
      obtain ⟨bs7, o7, h7⟩ := pg_store O6.out h6 rfl (by rw [HLen.out, HN.out]) (j := a + 1 + i) (by rw [HLen.out, HN.out]; omega) pgIn
      have O7 := Lib.hid o7
      simp only [pgIn] at h7
      have h7 := h7.drew
      obtain ⟨⟨p0, p1, p2⟩, ⟨p3, p4⟩, p5⟩ := FX.out _ _ h6
      have w1 : IntKind.i64.wrap ((a : Int) + 1) = (a : Int) + 1 := by rw [IntWalk.i64_in] <;> omega
      have w2 : IntKind.i64.wrap ((a : Int) + 1 + i) = (a : Int) + 1 + i := by rw [IntWalk.i64_in] <;> omega
      have w3 : (0 : Int) ≤ (a : Int) + 1 + i := by omega
      have w4 : ((a : Int) + 1 + i).toNat = a + 1 + i := by omega
      have w5 : (a : Int) + 1 + i < N := by omega
      clear hz o7
      go_wp2_with fail
      go_region_held3 (fun w' => ((w'.cell? ⟨w.heap.size + 1, 0, none⟩ = some (.int .i64 k) ∧ w'.cell? ⟨w.heap.size + 1, 1, none⟩ = some (.int .i64 s) ∧ w'.cell? ⟨w.heap.size + 1, 2, none⟩ = some (.int .i64 c)) ∧
        (w'.cell? ⟨w.heap.size, 0, none⟩ = some (.int .i64 a) ∧ w'.cell? ⟨w.heap.size, 1, none⟩ = some (.int .i64 s)) ∧ w'.cell? ⟨pb, 0, none⟩ = some (.slice (some ⟨g, 0, none⟩) N cap))) (first | assumption | exact FX.out _ _ h7 | go_keep) (fail)
      clear w1 w2 w3 w4 w5
      go_wp2_with fail
      exact ⟨⟨i + 1, by omega, by go_num, bs7, O7, h7⟩, by simp [intOf]; omega⟩
    · have hge : ¬ (i : Int) < M - 1 := by omega
      go_wp2_with fail
      go_end0
      obtain rfl : i = M - 1 := by omega
      have o8 := O6.out
      rw [HP.out] at o8
      exact ⟨rfl, _, ⟨_, bs, by rw [HPL.out, HN.out] at *; exact o8, rfl⟩, own_bd h6.drop1.drop1⟩
end
end Go.Proofs.Ytljcndcmdphmgaa

/-
  Contract: (*Buddy).least: the first free block of the least order from one on.
-/
namespace Go.Proofs.Ytljcndcmdphmgaa
open Go.RowKit
attribute [local go_sem ↓] Go.wp_at_zero Go.wp_at_succ
theorem tab_align {L bs : List Pg} (h : Tab L bs) {a : Nat} {p : Pg} (hp : L[a]? = some p) (hk : p.1 ≠ 1) : a % pgSize p = 0 ∧ a + pgSize p ≤ L.length ∧ pgHead p = true := by
  obtain ⟨b1, b2, rfl, hb⟩ := tab_block h hp hk
  have hrow := (row_append b1 _ 0).1 h.2
  rw [Nat.zero_add, hb] at hrow
  have hlen := tab_len h
  have hll : (lay (b1 ++ p :: b2)).length = (lay b1).length + (pgSize p + (lay b2).length) := by rw [lay_append, List.length_append, lay_cons_len]
  exact ⟨hrow.2.2.1, by omega, hrow.2.1⟩
/-- no free block of an order -/
def NoOrd (L : List Pg) (o : Nat) : Prop := ∀ a : Nat, L[a]? ≠ some (fb o)
def LeastIs (L : List Pg) (order a o : Nat) : Prop := order ≤ o ∧ o ≤ 10 ∧ L[a]? = some (fb o) ∧ (∀ q, order ≤ q → q < o → NoOrd L q) ∧ ∀ b, b < a → L[b]? ≠ some (fb o)
def NoneIs (L : List Pg) (order : Nat) : Prop := ∀ q, order ≤ q → q ≤ 10 → NoOrd L q
theorem noOrd_of {L bs : List Pg} (h : Tab L bs) {o at_ : Nat} (hat : L.length ≤ at_) (hno : ∀ a, a < at_ → a % 2 ^ o = 0 → L[a]? ≠ some (fb o)) : NoOrd L o := by
  intro a ha
  obtain ⟨h1, -, -⟩ := tab_align h ha (fb_kind o)
  rw [fb_size] at h1
  have := (List.getElem?_eq_some_iff.1 ha).1
  exact hno a (by omega) h1 ha
section
variable {W w : World} {m bl : List (Nat × Obj)} {pb : Nat} {L : List Pg}
def LeastPost (W : World) (M : List (Nat × Obj)) (L : List Pg) (order : Nat) (e : Ending) (w' : World) : Prop :=
  (∃ a o : Nat, e = .returned (.tuple #[.agg #[.int .i64 a, .int .i64 o], .bool true]) ∧ LeastIs L order a o ∧ Own W M w') ∨
  (∃ x y : Int, e = .returned (.tuple #[.agg #[.int .i64 x, .int .i64 y], .bool false]) ∧ NoneIs L order ∧ Own W M w')
set_option maxRecDepth 100000 in
set_option maxHeartbeats 4000000 in
theorem least_spec (h : Own W (bl ++ m) w) (hb : BdO pb L bl) {bs0 : List Pg} (hT : Tab L bs0) (hL1 : 1 ≤ L.length) (hL : L.length ≤ 1024) (order : Nat) :
    Calls Try.prog 59 #[.pointer (some ⟨pb, 0, none⟩), .int .i64 order] w (LeastPost W (bl ++ m) L order) := by
  have HT := Lib.hid hT
  have hb' := hb
  obtain ⟨v, bs, ho, hbl⟩ := hb'
  obtain ⟨g, cap, cur, rfl, -, -⟩ := ho.form (by omega)
  obtain ⟨N, hN⟩ : ∃ N, L.length = N := ⟨_, rfl⟩
  have HN := Lib.hid hN
  rw [hN] at hL hL1 hbl
  have h1 : Own W ((w.heap.size, .cells #[.int .i64 0, .int .i64 0] 102) :: (bl ++ m)) (w.alloc (.cells #[.int .i64 0, .int .i64 0] 102)) := h.new _
  have FX : Hid (∀ (x y : Int) w', Own W ((w.heap.size, .cells #[.int .i64 x, .int .i64 y] 102) :: (bl ++ m)) w' →
      (w'.cell? ⟨w.heap.size, 0, none⟩ = some (.int .i64 x) ∧ w'.cell? ⟨w.heap.size, 1, none⟩ = some (.int .i64 y) ∧ w'.frozen? ⟨w.heap.size, 0, none⟩ = false ∧ w'.frozen? ⟨w.heap.size, 1, none⟩ = false) ∧ w'.cell? ⟨pb, 0, none⟩ = some (.slice (some ⟨g, 0, none⟩) N cap)) := fun x y w' hw => by
    refine ⟨⟨?_, ?_, hw.frozen List.mem_cons_self 0, hw.frozen List.mem_cons_self 1⟩, ?_⟩
    · simpa using hw.cell List.mem_cons_self 0
    · simpa using hw.cell List.mem_cons_self 1
    · have := hw.skip
      rw [hbl] at this
      exact bd_cell this
  clear hN hT ho hbl
  go_enter Try.func59, Try.ntmps59
  go_wp2_with fail
  go_step3
  go_wp2_with fail
  go_step3
  go_wp2_with fail
  go_loopw [5, 6] (fun b o wr => ∃ k : Nat, b = .bool false ∧ o = .int .i64 k ∧ (k ≤ 11 ∨ k = order) ∧ order ≤ k ∧ Hid (∀ q, order ≤ q → q < k → NoOrd L q) ∧ ∃ x y : Int, Own W ((w.heap.size, .cells #[.int .i64 x, .int .i64 y] 102) :: (bl ++ m)) wr) (fun _ o _ => 11 - (intOf o).toNat)
  case atStart => exact ⟨order, rfl, rfl, .inr rfl, Nat.le_refl _, fun q h1 h2 => by omega, 0, 0, h1⟩
  case round =>
    obtain ⟨k, rfl, rfl, hk, hok, HQ, x, y, hr⟩ := hrel
    obtain ⟨⟨c0, c1, f0, f1⟩, c2⟩ := FX.out x y _ hr
    by_cases hk10 : k ≤ 10
    · have hk10i : (k : Int) ≤ 10 := by omega
      obtain ⟨M, hM, hMi, hM1, hM2⟩ := pow_nat hk10
      have HM := Lib.hid hM
      have hmin : min k 64 = k := by omega
      clear hM
      go_wp2_with fail
      go_loopw [5, 7] (fun b at_ wr => ∃ a : Nat, b = .bool false ∧ at_ = .int .i64 a ∧ a ≤ 2048 ∧ Hid (a % 2 ^ k = 0) ∧ Hid (∀ q, q < a → q % 2 ^ k = 0 → L[q]? ≠ some (fb k)) ∧ ∃ x y : Int, Own W ((w.heap.size, .cells #[.int .i64 x, .int .i64 y] 102) :: (bl ++ m)) wr) (fun _ at_ _ => 2048 - (intOf at_).toNat)
      case atStart => exact ⟨0, rfl, rfl, by omega, Nat.zero_mod _, fun q h1 h2 => by omega, x, y, hr⟩
      case round =>
        clear hr c0 c1 f0 f1 c2
        obtain ⟨a, rfl, rfl, ha, HA, HNo, x, y, hr⟩ := hrel
        obtain ⟨⟨c0, c1, f0, f1⟩, c2⟩ := FX.out x y _ hr
        by_cases hlt : a < N
        · have hlti : (a : Int) < N := by omega
          have h2 : Own W ((w.heap.size, .cells #[.int .i64 a, .int .i64 k] 102) :: (bl ++ m)) _ := (hr.set 0 (.int .i64 a)).set 1 (.int .i64 k)
          obtain ⟨p, hp⟩ : ∃ p, L[a]? = some p := ⟨_, List.getElem?_eq_getElem (by rw [HN.out]; omega)⟩
          have HP := Lib.hid hp
          have hfb : fb k = (0, (k : Int), 0) := rfl
          have HFB := Lib.hid hfb
          clear hp hfb
          by_cases hpf : p = fb k
          · subst hpf
            go_wp2_with fail
            refine (free_yes (h2.perm List.perm_middle.symm) hb a k (fb k) HP.out).mono ?_
            rintro e w2 ⟨rfl, h3⟩
            rw [decide_eq_true (show fb k = (0, (k : Int), 0) from rfl)]
            have h4 := h3.perm List.perm_middle
            obtain ⟨⟨c0, c1, f0, f1⟩, c2⟩ := FX.out _ _ _ h4
            go_wp2_with fail
            have h5 := (h4.set 0 (.int .i64 a)).set 1 (.int .i64 k)
            have c0 := h5.cell List.mem_cons_self 0
            have c1 := h5.cell List.mem_cons_self 1
            simp at c0 c1
            exact bodyPost_ret (v := .tuple #[.agg #[.int .i64 a, .int .i64 k], .bool true]) (by simp [results, Try.f59, go_sem, c0, c1]) rfl (.inl ⟨a, k, rfl, ⟨hok, hk10, HP.out, HQ.out, fun b hb hfb => by
              have hb2 := (tab_align HT.out hfb (fb_kind k)).1
              rw [fb_size] at hb2
              exact HNo.out b hb hb2 hfb⟩, h5.skip⟩)
          · have HPF := Lib.hid hpf
            clear hpf
            go_wp2_with fail
            refine (free_yes (h2.perm List.perm_middle.symm) hb a k p HP.out).mono ?_
            rintro e w2 ⟨rfl, h3⟩
            rw [decide_eq_false (show ¬ p = (0, (k : Int), 0) from HPF.out)]
            have h4 := h3.perm List.perm_middle
            have hw1 : IntKind.i64.wrap (M : Int) = (M : Int) := by rw [IntWalk.i64_in] <;> omega
            go_wp2_with fail
            have ha2 : (a + M) % 2 ^ k = 0 := by rw [← HM.out, Nat.add_mod_right]; exact HA.out
            refine ⟨⟨a + M, rfl, by go_num, by omega, ha2, fun q h1 h2 hq => ?_, _, _, h4⟩, by simp [intOf]; omega⟩
            rcases Nat.lt_trichotomy q a with h3 | h3 | h3
            · exact HNo.out q h3 h2 hq
            · subst h3
              rw [HP.out] at hq
              exact HPF.out (Option.some.inj hq)
            · have := dvd_lt_eq HA.out h2 (by omega) (by rw [HM.out]; omega)
              omega
        · have hlti : ¬ (a : Int) < N := by omega
          go_wp2_with fail
          refine ⟨⟨k + 1, rfl, by go_num, .inl (by omega), by omega, fun q h1 h2 => ?_, x, y, hr⟩, by simp [intOf]; omega⟩
          by_cases hqk : q = k
          · subst hqk
            exact noOrd_of HT.out (at_ := a) (by rw [HN.out]; omega) HNo.out
          · exact HQ.out q h1 (by omega)
    · have hk10i : ¬ (k : Int) ≤ 10 := by omega
      go_wp2_with fail
      have h2 := (hr.set 0 (.int .i64 x)).set 1 (.int .i64 y)
      have c0 := h2.cell List.mem_cons_self 0
      have c1 := h2.cell List.mem_cons_self 1
      simp at c0 c1
      exact bodyPost_ret (v := .tuple #[.agg #[.int .i64 x, .int .i64 y], .bool false]) (by simp [results, Try.f59, go_sem, c0, c1]) rfl (.inr ⟨x, y, rfl, fun q h1 h2 => HQ.out q h1 (by omega), h2.skip⟩)
end
end Go.Proofs.Ytljcndcmdphmgaa

/-
  Contract: (*Buddy).Alloc.
-/
namespace Go.Proofs.Ytljcndcmdphmgaa
open Go.RowKit
attribute [local go_sem ↓] Go.wp_at_zero Go.wp_at_succ
/-- the table behind Alloc -/
def allocL (L : List Pg) (a order k : Nat) (c : Int) : List Pg := pgPut (bSplit a order k L) a (2, (order : Int), c)
section
variable {W w : World} {m bl : List (Nat × Obj)} {pb : Nat} {L : List Pg}
def AllocPost (W : World) (m bl : List (Nat × Obj)) (pb : Nat) (L : List Pg) (order c : Int) (e : Ending) (w' : World) : Prop :=
  ((order < 0 ∨ 10 < order ∨ c < 0 ∨ 8 < c) ∧ e = .returned (.tuple #[.int .i64 0, .int .i64 2]) ∧ Own W (bl ++ m) w') ∨
  ((0 ≤ order ∧ order ≤ 10 ∧ 0 ≤ c ∧ c ≤ 8) ∧ NoneIs L order.toNat ∧ e = .returned (.tuple #[.int .i64 0, .int .i64 7]) ∧ Own W (bl ++ m) w') ∨
  ((0 ≤ order ∧ order ≤ 10 ∧ 0 ≤ c ∧ c ≤ 8) ∧ ∃ a k bl', LeastIs L order.toNat a (order.toNat + k) ∧ e = .returned (.tuple #[.int .i64 a, .int .i64 0]) ∧ BdO pb (allocL L a order.toNat k c) bl' ∧ Own W (bl' ++ m) w')
theorem bool_dec (p : Prop) [Decidable p] (h : p) : decide p = true := decide_eq_true h
set_option maxRecDepth 100000 in
set_option maxHeartbeats 4000000 in
theorem alloc_bad (h : Own W (bl ++ m) w) (hb : BdO pb L bl) (hL1 : 1 ≤ L.length) (order c : Int) (hbad : order < 0 ∨ 10 < order ∨ c < 0 ∨ 8 < c) :
    Calls Try.prog 28 #[.pointer (some ⟨pb, 0, none⟩), .int .i64 order, .int .i64 c] w (AllocPost W m bl pb L order c) := by
  by_cases h1 : order < 0
  · clear hbad
    go_enter Try.func28, Try.ntmps28
    go_wp2_with (go_at_call 53; refine (none_spec h hb hL1).mono ?_; rintro e w' ⟨rfl, rfl⟩)
    go_ret2
    exact .inl ⟨.inl h1, rfl, h⟩
  · have h1' : 0 ≤ order := by omega
    by_cases h2 : 10 < order
    · clear hbad h1
      go_enter Try.func28, Try.ntmps28
      go_wp2_with (go_at_call 53; refine (none_spec h hb hL1).mono ?_; rintro e w' ⟨rfl, rfl⟩)
      go_ret2
      exact .inl ⟨.inr (.inl h2), rfl, h⟩
    · have h2' : order ≤ 10 := by omega
      by_cases h3 : c < 0
      · clear hbad h1 h2
        go_enter Try.func28, Try.ntmps28
        go_wp2_with (go_at_call 53; refine (none_spec h hb hL1).mono ?_; rintro e w' ⟨rfl, rfl⟩)
        go_ret2
        exact .inl ⟨.inr (.inr (.inl h3)), rfl, h⟩
      · have h4 : 8 < c := by omega
        have h3' : 0 ≤ c := by omega
        clear hbad h1 h2 h3
        go_enter Try.func28, Try.ntmps28
        go_wp2_with (go_at_call 53; refine (none_spec h hb hL1).mono ?_; rintro e w' ⟨rfl, rfl⟩)
        go_ret2
        exact .inl ⟨.inr (.inr (.inr h4)), rfl, h⟩
set_option maxRecDepth 100000 in
set_option maxHeartbeats 4000000 in
theorem alloc_ok (h : Own W (bl ++ m) w) (hb : BdO pb L bl) {bs0 : List Pg} (hT : Tab L bs0) (hL1 : 1 ≤ L.length) (hL : L.length ≤ 1024) (order : Nat) (c : Int) (ho : order ≤ 10) (hc0 : 0 ≤ c) (hc8 : c ≤ 8) :
    Calls Try.prog 28 #[.pointer (some ⟨pb, 0, none⟩), .int .i64 order, .int .i64 c] w (AllocPost W m bl pb L order c) := by
  have HT := Lib.hid hT
  have ho' : (order : Int) ≤ 10 := by omega
  have ho0 : (0 : Int) ≤ order := by omega
  clear hT
  go_enter Try.func28, Try.ntmps28
  go_wp2_with (go_at_call 53; refine (none_spec h hb hL1).mono ?_; rintro e w' ⟨rfl, rfl⟩)
  refine (least_spec h hb HT.out hL1 hL order).mono ?_
  rintro e w1 (⟨a, o, rfl, hLe, h1⟩ | ⟨x, y, rfl, hNo, h1⟩)
  · obtain ⟨k, rfl⟩ : ∃ k, o = order + k := ⟨o - order, by have := hLe.1; omega⟩
    have HLe := Lib.hid hLe
    have hk10 := hLe.2.1
    have hfb := hLe.2.2.1
    obtain ⟨hal, hfit, -⟩ := tab_align HT.out hfb (fb_kind _)
    rw [fb_size] at hal hfit
    have h2 : Own W (bl ++ ((w1.heap.size, .cells #[.int .i64 a, .int .i64 ((order + k : Nat) : Int)] 102) :: m)) (w1.alloc (.cells #[.int .i64 a, .int .i64 ((order + k : Nat) : Int)] 102)) := h1.new1 _
    obtain ⟨N, hN⟩ : ∃ N, L.length = N := ⟨_, rfl⟩
    have HN := Lib.hid hN
    rw [hN] at hfit hL hL1
    have HAL := Lib.hid hal
    have HF := Lib.hid hfit
    have hfit1 : a + 1 ≤ N := by have := Nat.two_pow_pos (order + k); omega
    clear hfb hal hfit hLe hN
    go_wp2_with fail
    go_loopw [] (fun wr => ∃ j Lj bl', j ≤ k ∧ Hid (bSplit a order j Lj = bSplit a order k L) ∧ Hid (Lj.length = N) ∧ BdO pb Lj bl' ∧ Own W (bl' ++ ((w1.heap.size, .cells #[.int .i64 a, .int .i64 ((order + j : Nat) : Int)] 102) :: m)) wr) (fun wr => match wr.cell? ⟨w1.heap.size, 1, none⟩ with | some v => (intOf v).toNat | none => 0)
    case atStart => exact ⟨k, L, bl, Nat.le_refl _, rfl, HN, hb, h2⟩
    case round =>
      obtain ⟨j, Lj, bl', hj, HS, HLj, hbj, hr⟩ := hrel
      cases j with
      | zero =>
        have y0 := hr.dropL.cell List.mem_cons_self 0
        have y1 := hr.dropL.cell List.mem_cons_self 1
        simp only [Nat.add_zero] at hr y0 y1
        simp at y0 y1
        have hS := HS.out
        simp only [bSplit] at hS
        have HS' := Lib.hid hS
        have hsz : pgSize ((2 : Int), ((order : Nat) : Int), c) = 2 ^ order := by simp [pgSize]
        have hlay := lay_spec hr hbj a order ho (by rw [HLj.out]; have := HF.out; have := Nat.pow_le_pow_right (show 0 < 2 from by omega) (show order ≤ order + k from by omega); omega) (by rw [HLj.out]; exact hL) 2 0 c
        have HLAY := Lib.hid hlay
        clear hS hsz hlay
        go_wp2_with fail
        refine HLAY.out.mono ?_
        rintro e w2 ⟨bl2, rfl, hb2, h3⟩
        have y0 := h3.dropL.cell List.mem_cons_self 0
        simp at y0
        go_wp2_with fail
        go_ret2
        refine .inr (.inr ⟨⟨ho0, ho', hc0, hc8⟩, a, k, bl2, HLe.out, rfl, ?_, h3.drop1⟩)
        have e : allocL L a order k c = pgPut Lj a (2, ((order : Nat) : Int), c) := by unfold allocL; rw [HS'.out]
        rw [Int.toNat_natCast, e]
        exact hb2
      | succ j =>
        obtain ⟨s, hs⟩ : ∃ s, s = order + j := ⟨_, rfl⟩
        have hs1 : order + (j + 1) = s + 1 := by omega
        rw [hs1] at hr
        have hsk : s + 1 ≤ order + k := by omega
        have hs10 : s ≤ 10 := by omega
        have hso : (order : Int) < (s : Int) + 1 := by omega
        have y0 := hr.dropL.cell List.mem_cons_self 0
        have y1 := hr.dropL.cell List.mem_cons_self 1
        have yf := hr.dropL.frozen List.mem_cons_self 1
        simp at y0 y1
        have h4 : Own W (bl' ++ ((w1.heap.size, .cells #[.int .i64 a, .int .i64 ((s : Nat) : Int)] 102) :: m)) _ := hr.setIn 1 (.int .i64 s)
        have hoth : other a s = a + 2 ^ s := by
          rcases other_cases a s (mod_of_dvd (Nat.pow_dvd_pow 2 (by omega)) HAL.out) with ⟨-, h, -⟩ | ⟨h, -⟩
          · exact h
          · exact absurd (mod_of_dvd (by rw [show 2 * 2 ^ s = 2 ^ (s + 1) from by rw [Nat.pow_succ]; omega]; exact Nat.pow_dvd_pow 2 hsk) HAL.out) h
        have hpp : a + 2 ^ s + 2 ^ s ≤ N := by
          have h1 := HF.out
          have h2 := Nat.pow_le_pow_right (show 0 < 2 from by omega) hsk
          rw [Nat.pow_succ] at h2
          omega
        have hal2 : a % 2 ^ s = 0 := mod_of_dvd (Nat.pow_dvd_pow 2 (by omega)) HAL.out
        have HO := Lib.hid hoth
        have HPP := Lib.hid hpp
        have HAL2 := Lib.hid hal2
        have hjk : j ≤ k := by omega
        have HSJ := Lib.hid hs
        clear hoth hpp hal2
        have HR := Lib.hid hr
        have hbig : 1 ≤ s + 1 := by omega
        clear hr hs1 hs
        go_wp2_with fail
        refine (other_spec h4 a s hs10 (by omega) HAL2.out).mono ?_
        rintro e w2 ⟨rfl, h5⟩
        go_wp2_with fail
        refine (lay_spec h5 hbj (other a s) s hs10 (by rw [HLj.out, HO.out]; exact HPP.out) (by rw [HLj.out]; exact hL) 0 0 0).mono ?_
        rintro e w3 ⟨bl2, rfl, hb2, h6⟩
        have z1 := h6.dropL.cell List.mem_cons_self 1
        simp at z1
        go_wp2_with fail
        obtain rfl : s = order + j := HSJ.out
        refine ⟨⟨j, _, bl2, hjk, ?_, ?_, hb2, h6⟩, ?_⟩
        · rw [HO.out]
          exact HS.out
        · rw [HO.out]
          exact (pgPut_len (by rw [HLj.out, show pgSize ((0 : Int), ((order + j : Nat) : Int), (0 : Int)) = 2 ^ (order + j) from by show 2 ^ (((order + j : Nat) : Int)).toNat = _; rw [Int.toNat_natCast]]; exact HPP.out)).trans HLj.out
        · simp [intOf, z1, y1]
          omega
  · go_wp2_with fail
    go_ret2
    exact .inr (.inl ⟨⟨ho0, ho', hc0, hc8⟩, by rw [Int.toNat_natCast]; exact hNo, rfl, h1.alloc _⟩)
end
end Go.Proofs.Ytljcndcmdphmgaa

/-
  Contract: (*Buddy).Free.
-/
namespace Go.Proofs.Ytljcndcmdphmgaa
open Go.RowKit
attribute [local go_sem ↓] Go.wp_at_zero Go.wp_at_succ
theorem field0 (x y : Int) (w : World) : (Instr.field 102 (.agg #[.int .i64 x, .int .i64 y]) 0).run Try.prog w = .ok (.int .i64 x) w := by
  simp [Instr.field, go_sem, asAgg]
/-- the order in a block's box -/
def box1 (w : World) (B : Nat) : Nat := match w.cell? ⟨B, 1, none⟩ with | some v => (intOf v).toNat | none => 0
theorem box1_eq {w : World} {B : Nat} {n : Int} (h : w.cell? ⟨B, 1, none⟩ = some (.int .i64 n)) : box1 w B = n.toNat := by
  unfold box1
  rw [h]
  rfl
/-- the table behind Free -/
def freeL (L : List Pg) (page o : Nat) : List Pg := pgPut L (bJoin L (10 - o) page o).1 (fb (bJoin L (10 - o) page o).2)
section
variable {W w : World} {m bl : List (Nat × Obj)} {pb : Nat} {L : List Pg}
set_option maxRecDepth 100000 in
set_option maxHeartbeats 4000000 in
theorem Free_bad (h : Own W (bl ++ m) w) (hb : BdO pb L bl) (hL1 : 1 ≤ L.length) (page : Int) (hbad : ∀ p : Pg, 0 ≤ page → L[page.toNat]? = some p → p.1 ≠ 2) :
    Calls Try.prog 25 #[.pointer (some ⟨pb, 0, none⟩), .int .i64 page] w fun e w' => e = .returned (.int .i64 60) ∧ Own W (bl ++ m) w' := by
  have hb' := hb
  obtain ⟨v, bs, ho, rfl⟩ := hb'
  obtain ⟨g, cap, cur, rfl, -, -⟩ := ho.form (by omega)
  have hc := bd_cell h
  obtain ⟨N, hN⟩ : ∃ N, L.length = N := ⟨_, rfl⟩
  rw [hN] at hc
  have HB := Lib.hid hb
  by_cases h1 : page < 0
  · clear hN hbad
    go_enter Try.func25, Try.ntmps25
    go_wp2_with (go_at_call 53; refine (none_spec h HB.out hL1).mono ?_; rintro e w' ⟨rfl, rfl⟩)
    go_ret
    exact ⟨rfl, h⟩
  · have h1' : 0 ≤ page := by omega
    by_cases h2 : (N : Int) ≤ page
    · clear hN hbad h1
      go_enter Try.func25, Try.ntmps25
      go_wp2_with (go_at_call 53; refine (none_spec h HB.out hL1).mono ?_; rintro e w' ⟨rfl, rfl⟩)
      go_ret
      exact ⟨rfl, h⟩
    · obtain ⟨p, rfl⟩ : ∃ p : Nat, page = p := ⟨page.toNat, by omega⟩
      obtain ⟨⟨p0, p1, p2⟩, hp⟩ : ∃ x, L[p]? = some x := ⟨_, List.getElem?_eq_getElem (by omega)⟩
      have hk := hbad _ h1' (by rw [Int.toNat_natCast]; exact hp)
      simp only at hk
      have hkb : (p0 != 2) = true := bne_iff_ne.2 hk
      obtain ⟨a0, a1, a2, -, -, -⟩ := pg_cells ho (bd_own h) rfl rfl hp
      simp only at a0 a1 a2
      have hpN : (p : Int) < N := by omega
      clear hN hbad h1 h2 hp hk
      go_enter Try.func25, Try.ntmps25
      go_wp2_with (go_at_call 53; refine (none_spec h HB.out hL1).mono ?_; rintro e w' ⟨rfl, rfl⟩)
      go_ret
      exact ⟨rfl, h⟩
set_option maxRecDepth 100000 in
set_option maxHeartbeats 4000000 in
theorem Free_ok (h : Own W (bl ++ m) w) (hb : BdO pb L bl) {bs0 : List Pg} (hT : Tab L bs0) (hL1 : 1 ≤ L.length) (hL : L.length ≤ 1024) (page o0 : Nat) (c0 : Int) (hp : L[page]? = some (2, (o0 : Int), c0)) :
    Calls Try.prog 25 #[.pointer (some ⟨pb, 0, none⟩), .int .i64 page] w fun e w' => ∃ bl', e = .returned (.int .i64 0) ∧ BdO pb (freeL L page o0) bl' ∧ Own W (bl' ++ m) w' := by
  have HT := Lib.hid hT
  have hb' := hb
  obtain ⟨v, bs, ho, hbl⟩ := hb'
  obtain ⟨g, cap, cur, rfl, -, -⟩ := ho.form (by omega)
  obtain ⟨hal, hfit, hhd⟩ := tab_align HT.out hp (by simp)
  have hsz : pgSize ((2 : Int), (o0 : Int), c0) = 2 ^ o0 := by simp [pgSize]
  rw [hsz] at hal hfit
  have ho10 := pgHead_order hhd
  simp only at ho10
  have ho10 : o0 ≤ 10 := by omega
  obtain ⟨N, hN⟩ : ∃ N, L.length = N := ⟨_, rfl⟩
  have HN := Lib.hid hN
  have HB := Lib.hid hb
  have h' := h
  rw [hbl] at h'
  obtain ⟨a0, a1, a2, -, -, -⟩ := pg_cells ho (bd_own h') rfl rfl hp
  simp only at a0 a1 a2
  have hc := bd_cell h'
  rw [hN] at hc hfit hL hL1
  have HAL := Lib.hid hal
  have HF := Lib.hid hfit
  have hpN : (page : Int) < N := by have := Nat.two_pow_pos o0; omega
  have hd1 : decide ((page : Int) < 0) = false := decide_eq_false (by omega)
  have hd2 : decide (N ≤ page) = false := decide_eq_false (by omega)
  have h1 : Own W (bl ++ ((w.heap.size, .cells #[.int .i64 page, .int .i64 o0] 102) :: m)) (w.alloc (.cells #[.int .i64 page, .int .i64 o0] 102)) := h.new1 _
  clear hN hal hfit hp hT hsz hhd hbl h' ho
  go_enter Try.func25, Try.ntmps25
  go_wp2_with (go_at_call 53; refine (none_spec h HB.out (by rw [HN.out]; exact hL1)).mono ?_; rintro e w' ⟨rfl, rfl⟩)
  go_loopw [] (fun wr => ∃ a o : Nat, o ≤ 10 ∧ a ≤ N ∧ Hid (bJoin L (10 - o) a o = bJoin L (10 - o0) page o0) ∧ Hid (a % 2 ^ o = 0) ∧ Hid (a + 2 ^ o ≤ N) ∧ Own W (bl ++ ((w.heap.size, .cells #[.int .i64 a, .int .i64 o] 102) :: m)) wr) (fun wr => 10 - box1 wr w.heap.size)
  case atStart => exact ⟨page, o0, ho10, by omega, rfl, HAL, HF, h1⟩
  case round =>
    obtain ⟨a, o, ho, haN, HJ, HA, HAF, hr⟩ := hrel
    have y0 := hr.dropL.cell List.mem_cons_self 0
    have y1 := hr.dropL.cell List.mem_cons_self 1
    have y1' := hr.dropL.cell List.mem_cons_self 1
    rw [show (#[Value.int .i64 (a : Int), .int .i64 (o : Int)] : Array Value)[1]? = some (.int .i64 (o : Int)) from rfl] at y1'
    have Y1 := Lib.hid y1'
    clear y1'
    have f0 := hr.dropL.frozen List.mem_cons_self 0
    have f1 := hr.dropL.frozen List.mem_cons_self 1
    simp at y0 y1
    have fin : Hid (∀ (a o : Nat) (wr : World), o ≤ 10 → (a, o) = bJoin L (10 - o0) page o0 → a + 2 ^ o ≤ N → Own W (bl ++ ((w.heap.size, .cells #[.int .i64 a, .int .i64 o] 102) :: m)) wr →
        Calls Try.prog 58 #[.pointer (some ⟨pb, 0, none⟩), .agg #[.int .i64 a, .int .i64 o], .agg #[.int .i64 0, .int .i64 0, .int .i64 0]] wr fun e w' => ∃ bl', e = .returned (.tuple #[]) ∧ BdO pb (freeL L page o0) bl' ∧ Own W (bl' ++ ((w.heap.size, .cells #[.int .i64 a, .int .i64 o] 102) :: m)) w') := by
      intro a o wr ho he hf hr
      have := lay_spec hr HB.out a o ho (by rw [HN.out]; exact hf) (by rw [HN.out]; exact hL) 0 0 0
      unfold freeL
      rw [← he]
      exact this
    by_cases hlt : o < 10
    · have hlti : (o : Int) < 10 := by omega
      obtain ⟨k, hk⟩ : ∃ k, 10 - o = k + 1 := ⟨9 - o, by omega⟩
      have hj := HJ.out
      rw [hk] at hj
      rw [show bJoin L (k + 1) a o = if L[other a o]? = some (fb o) then bJoin L k (min a (other a o)) (o + 1) else (a, o) from rfl] at hj
      by_cases hf : L[other a o]? = some (fb o)
      · rw [if_pos hf, show k = 10 - (o + 1) from by omega] at hj
        obtain ⟨v1, v2, -⟩ := tab_align HT.out hf (fb_kind o)
        rw [fb_size, HN.out] at v2
        have hp2 : 2 ^ (o + 1) = 2 ^ o + 2 ^ o := by rw [Nat.pow_succ]; omega
        have hmm : (min a (other a o)) % 2 ^ (o + 1) = 0 ∧ min a (other a o) + 2 ^ (o + 1) ≤ N := by
          rcases other_cases a o HA.out with ⟨g1, g2, g3⟩ | ⟨g1, g2, g3, g4, g5⟩
          · rw [g3]
            rw [g2] at v2
            exact ⟨by rw [hp2, show 2 ^ o + 2 ^ o = 2 * 2 ^ o from by omega]; exact g1, by omega⟩
          · rw [g4]
            have := HAF.out
            exact ⟨by rw [hp2, show 2 ^ o + 2 ^ o = 2 * 2 ^ o from by omega]; exact g5, by omega⟩
        have HJ2 := Lib.hid hj
        have HM1 := Lib.hid hmm.1
        have HM2 := Lib.hid hmm.2
        have HFB := Lib.hid hf
        have hqN : other a o < N := by have := (List.getElem?_eq_some_iff.1 hf).1; rw [HN.out] at this; exact this
        have hmin : min (a : Int) (other a o : Int) = ((min a (other a o) : Nat) : Int) := by omega
        have HMIN := Lib.hid hmin
        clear hj hf hmm v1 v2 hp2 hk hmin HJ
        go_wp2_with fail
        refine (other_spec hr a o ho (by omega) HA.out).mono ?_
        rintro e w2 ⟨rfl, h2⟩
        go_wp2_with fail
        refine (free_yes h2 HB.out (other a o) o (fb o) HFB.out).mono ?_
        rintro e w3 ⟨rfl, h3⟩
        rw [decide_eq_true (show fb o = (0, (o : Int), 0) from rfl)]
        have y0 := h3.dropL.cell List.mem_cons_self 0
        have y1 := h3.dropL.cell List.mem_cons_self 1
        have f0 := h3.dropL.frozen List.mem_cons_self 0
        have f1 := h3.dropL.frozen List.mem_cons_self 1
        simp at y0 y1
        go_wp2_with fail
        have hfld := field0 (other a o) o
        have hw1 : IntKind.i64.wrap ((o : Int) + 1) = (o : Int) + 1 := by rw [IntWalk.i64_in] <;> omega
        go_region_with ((go_at_call 57; refine (other_spec h3.drew a o ho (by omega) HA.out).mono ?_; rintro e w4 ⟨rfl, h4⟩; have y0 := h4.dropL.cell List.mem_cons_self 0; have y1 := h4.dropL.cell List.mem_cons_self 1; have f0 := h4.dropL.frozen List.mem_cons_self 0; have f1 := h4.dropL.frozen List.mem_cons_self 1; simp at y0 y1))
        all_goals
          have h5 : Own W (bl ++ ((w.heap.size, .cells #[.int .i64 ((min a (other a o) : Nat) : Int), .int .i64 ((o : Int) + 1)] 102) :: m)) _ := (h4.setIn 0 (.int .i64 ((min a (other a o) : Nat) : Int))).setIn 1 (.int .i64 ((o : Int) + 1))
          have z1 := h5.dropL.cell List.mem_cons_self 1
          rw [show (#[Value.int .i64 ((min a (other a o) : Nat) : Int), .int .i64 ((o : Int) + 1)] : Array Value)[1]? = some (.int .i64 ((o : Int) + 1)) from rfl] at z1
          have Z1 := Lib.hid z1
          clear z1
          rw [show (if other a o < a then ((other a o : Nat) : Int) else (a : Int)) = ((min a (other a o) : Nat) : Int) from by split <;> omega]
          clear hw1 hfld
          go_wp2_with fail
          refine ⟨?_, ?_⟩
          · first
              | exact ⟨min a (other a o), o + 1, by omega, by omega, HJ2, HM1, HM2, h5⟩
              | ((repeat apply Exists.intro); exact ⟨⟨min a (other a o), o + 1, by omega, by omega, HJ2, HM1, HM2, h5⟩, rfl⟩)
          · rw [box1_eq Z1.out, box1_eq Y1.out]; omega
      · rw [if_neg hf] at hj
        have HJ2 := Lib.hid hj
        have HNF := Lib.hid hf
        clear hj hf hk HJ
        by_cases hqN : other a o < N
        · obtain ⟨p, hp⟩ : ∃ p, L[other a o]? = some p := ⟨_, List.getElem?_eq_getElem (by rw [HN.out]; exact hqN)⟩
          have hpf : ¬ p = (0, (o : Int), 0) := fun e => HNF.out (by rw [hp, e]; rfl)
          have HPF := Lib.hid hpf
          have HP := Lib.hid hp
          clear hp hpf
          go_wp2_with fail
          refine (other_spec hr a o ho (by omega) HA.out).mono ?_
          rintro e w2 ⟨rfl, h2⟩
          go_wp2_with fail
          refine (free_yes h2 HB.out (other a o) o p HP.out).mono ?_
          rintro e w3 ⟨rfl, h3⟩
          rw [decide_eq_false HPF.out]
          have y0 := h3.dropL.cell List.mem_cons_self 0
          have y1 := h3.dropL.cell List.mem_cons_self 1
          simp at y0 y1
          go_wp2_with fail
          refine (fin.out a o w3 ho HJ2.out HAF.out h3).mono ?_
          rintro e w4 ⟨bl4, rfl, hb4, h4⟩
          go_wp2_with fail
          go_ret
          exact ⟨bl4, rfl, hb4, h4.drop1⟩
        · go_wp2_with fail
          refine (other_spec hr a o ho (by omega) HA.out).mono ?_
          rintro e w2 ⟨rfl, h2⟩
          go_wp2_with fail
          refine (free_no h2 HB.out (other a o) o (by rw [HN.out]; omega)).mono ?_
          rintro e w3 ⟨rfl, h3⟩
          have y0 := h3.dropL.cell List.mem_cons_self 0
          have y1 := h3.dropL.cell List.mem_cons_self 1
          simp at y0 y1
          go_wp2_with fail
          refine (fin.out a o w3 ho HJ2.out HAF.out h3).mono ?_
          rintro e w4 ⟨bl4, rfl, hb4, h4⟩
          go_wp2_with fail
          go_ret
          exact ⟨bl4, rfl, hb4, h4.drop1⟩
    · obtain rfl : o = 10 := by omega
      go_wp2_with fail
      refine (fin.out a 10 wr ho HJ.out HAF.out hr).mono ?_
      rintro e w4 ⟨bl4, rfl, hb4, h4⟩
      go_wp2_with fail
      go_ret
      exact ⟨bl4, rfl, hb4, h4.drop1⟩
end
end Go.Proofs.Ytljcndcmdphmgaa

/-
  New pages, in plain Lean: the greatest free blocks from the first page on; a table without a block that is out and without two free buddies is that.
-/
namespace Go.Proofs.Ytljcndcmdphmgaa
open Go.RowKit

def fits (i n o : Nat) : Prop := i % 2 ^ o = 0 ∧ i + 2 ^ o ≤ n
instance (i n o : Nat) : Decidable (fits i n o) := by unfold fits; infer_instance
/-- the greatest order of a block that fits -/
def gOrd (i n : Nat) : Nat → Nat
  | 0 => 0
  | o + 1 => if fits i n (o + 1) then o + 1 else gOrd i n o
theorem gOrd_le (i n : Nat) : ∀ m, gOrd i n m ≤ m
  | 0 => by simp [gOrd]
  | m + 1 => by
    unfold gOrd
    have := gOrd_le i n m
    split <;> omega
theorem fits_down {i n o p : Nat} (h : fits i n o) (hp : p ≤ o) : fits i n p := by
  refine ⟨mod_of_dvd (Nat.pow_dvd_pow 2 hp) h.1, ?_⟩
  have := Nat.pow_le_pow_right (show 0 < 2 from by omega) hp
  have := h.2
  omega
theorem gOrd_fits {i n : Nat} (h : i < n) : ∀ m, fits i n (gOrd i n m)
  | 0 => by simp [gOrd, fits, Nat.mod_one]; omega
  | m + 1 => by
    unfold gOrd
    split
    · assumption
    · exact gOrd_fits h m
theorem gOrd_max (i n : Nat) : ∀ m o, o ≤ m → fits i n o → o ≤ gOrd i n m
  | 0, o, h, _ => by omega
  | m + 1, o, h, hf => by
    unfold gOrd
    split
    · exact h
    · rename_i hn
      by_cases ho : o = m + 1
      · subst ho; exact absurd hf hn
      · exact gOrd_max i n m o (by omega) hf
def gBlocks (n : Nat) : Nat → Nat → List Pg
  | 0, _ => []
  | f + 1, i => if i < n then fb (gOrd i n 10) :: gBlocks n f (i + 2 ^ gOrd i n 10) else []
theorem gBlocks_row (n : Nat) : ∀ f i, Row i (gBlocks n f i)
  | 0, i => trivial
  | f + 1, i => by
    unfold gBlocks
    split
    · rename_i h
      refine ⟨fb_head (gOrd_le i n 10), ?_, ?_⟩
      · rw [fb_size]; exact (gOrd_fits h 10).1
      · rw [fb_size]; exact gBlocks_row n f _
    · trivial
theorem gBlocks_len (n : Nat) : ∀ f i, i ≤ n → n ≤ i + f → (lay (gBlocks n f i)).length = n - i
  | 0, i, h1, h2 => by simp [gBlocks, lay]; omega
  | f + 1, i, h1, h2 => by
    unfold gBlocks
    split
    · rename_i h
      have hf := (gOrd_fits h 10).2
      have := Nat.two_pow_pos (gOrd i n 10)
      rw [lay_cons_len, fb_size, gBlocks_len n f _ hf (by omega)]
      omega
    · simp [lay]; omega
theorem gBlocks_free (n : Nat) : ∀ f i, ∀ p ∈ gBlocks n f i, ∃ o, p = fb o
  | 0, i, p, h => by simp [gBlocks] at h
  | f + 1, i, p, h => by
    unfold gBlocks at h
    split at h
    · rcases List.mem_cons.1 h with rfl | h
      · exact ⟨_, rfl⟩
      · exact gBlocks_free n f _ p h
    · simp at h
theorem gBlocks_fuel (n : Nat) : ∀ f g i, n ≤ i + f → n ≤ i + g → gBlocks n f i = gBlocks n g i
  | 0, 0, i, _, _ => rfl
  | 0, g + 1, i, h, _ => by unfold gBlocks; rw [if_neg (by omega)]
  | f + 1, 0, i, _, h => by unfold gBlocks; rw [if_neg (by omega)]
  | f + 1, g + 1, i, h1, h2 => by
    have := Nat.two_pow_pos (gOrd i n 10)
    unfold gBlocks
    rw [gBlocks_fuel n f g _ (by omega) (by omega)]
def freshB (n : Nat) : List Pg := gBlocks n n 0
def freshL (n : Nat) : List Pg := lay (freshB n)
theorem fresh_tab (n : Nat) : Tab (freshL n) (freshB n) := ⟨rfl, gBlocks_row n n 0⟩
theorem fresh_len (n : Nat) : (freshL n).length = n := by unfold freshL freshB; rw [gBlocks_len n n 0 (by omega) (by omega)]; omega
theorem free_sum_len : ∀ (bs : List Pg), (∀ p ∈ bs, p.1 = 0) → freeSum bs = (lay bs).length
  | [], _ => rfl
  | p :: bs, h => by
    have := free_sum_len bs fun q hq => h q (List.mem_cons_of_mem _ hq)
    have h0 := h p List.mem_cons_self
    rw [lay_cons_len, freeSum, if_pos h0, this]
    omega
theorem outPl_free : ∀ (bs : List Pg) (i : Nat), (∀ p ∈ bs, p.1 = 0) → outPl i bs = []
  | [], i, _ => rfl
  | p :: bs, i, h => by
    have h0 := h p List.mem_cons_self
    rw [outPl, outPl_free bs _ fun q hq => h q (List.mem_cons_of_mem _ hq), h0]
    rfl
theorem fresh_kind (n : Nat) : ∀ p ∈ freshB n, p.1 = 0 := fun p hp => by
  obtain ⟨o, rfl⟩ := gBlocks_free n n 0 p hp
  rfl
theorem fresh_sum (n : Nat) : freeSum (freshB n) = n := by
  rw [free_sum_len _ (fresh_kind n)]
  have := fresh_len n
  unfold freshL at this
  omega
theorem fresh_out (n : Nat) : outPl 0 (freshB n) = [] := outPl_free _ _ (fresh_kind n)
theorem gBlocks_get (n : Nat) : ∀ (f i o : Nat) (b1 b2 : List Pg), gBlocks n f i = b1 ++ fb o :: b2 → o = gOrd (i + (lay b1).length) n 10
  | 0, i, o, b1, b2, h => by simp [gBlocks] at h
  | f + 1, i, o, b1, b2, h => by
    unfold gBlocks at h
    split at h
    · cases b1 with
      | nil =>
        simp only [List.nil_append, List.cons.injEq] at h
        rw [show (lay []).length = 0 from rfl, Nat.add_zero]
        exact (fb_inj h.1).symm
      | cons p b1 =>
        simp only [List.cons_append, List.cons.injEq] at h
        obtain ⟨rfl, h⟩ := h
        have := gBlocks_get n f _ o b1 b2 h
        rw [lay_cons_len, fb_size, ← Nat.add_assoc]
        exact this
    · simp at h
theorem fresh_nobud (n : Nat) : NoBud (freshL n) := by
  intro a o ho ha h1 h2
  obtain ⟨b1, b2, hb, hl⟩ := tab_block (fresh_tab n) h1 (fb_kind o)
  have := gBlocks_get n n 0 o b1 b2 hb
  rw [Nat.zero_add, hl] at this
  have hlt := (List.getElem?_eq_some_iff.1 h2).1
  obtain ⟨d1, d2, hd, hl2⟩ := tab_block (fresh_tab n) h2 (fb_kind o)
  have hlen := fresh_len n
  have e : (freshL n).length = (lay d1).length + (2 ^ o + (lay d2).length) := by
    unfold freshL
    rw [hd, lay_append, List.length_append, lay_cons_len, fb_size]
  have hp : 2 ^ (o + 1) = 2 * 2 ^ o := by rw [Nat.pow_succ]; omega
  have := gOrd_max a n 10 (o + 1) (by omega) ⟨by rw [hp]; exact ha, by rw [hp]; omega⟩
  omega
/-- a block that is free, and could be greater: there are two buddies -/
theorem no_lone {L bs : List Pg} (h : Tab L bs) (hf : ∀ p ∈ bs, p.1 = 0) (hN : NoBud L) : ∀ (o j : Nat), o < 10 → L[j]? = some (fb o) → j % (2 * 2 ^ o) = 0 → j + 2 * 2 ^ o ≤ L.length → False := by
  intro o
  induction o using Nat.strongRecOn with
  | _ o ih =>
    intro j ho hj hm hle
    have hlen := tab_len h
    have hp := Nat.two_pow_pos o
    obtain ⟨b1, b2, rfl, hb⟩ := tab_block h hj (fb_kind o)
    have hrow := (row_append b1 _ 0).1 h.2
    rw [Nat.zero_add, hb] at hrow
    obtain ⟨-, -, -, hr⟩ := hrow
    rw [fb_size] at hr
    have hll : (lay (b1 ++ fb o :: b2)).length = (lay b1).length + (2 ^ o + (lay b2).length) := by rw [lay_append, List.length_append, lay_cons_len, fb_size]
    cases b2 with
    | nil => simp [lay] at hll; omega
    | cons y b2 =>
      obtain ⟨hy1, hy2, -⟩ := hr
      have hy0 : y.1 = 0 := hf y (by simp)
      have hyo := pgHead_order hy1
      obtain ⟨p, hp'⟩ : ∃ p : Nat, y = fb p := by
        have := of_decide_eq_true hy1
        refine ⟨y.2.1.toNat, ?_⟩
        obtain ⟨y0, y1, y2⟩ := y
        simp only [fb] at *
        simp only [Prod.mk.injEq]
        omega
      subst hp'
      have hg : L[j + 2 ^ o]? = some (fb p) := by
        have h' : Tab L ((b1 ++ [fb o]) ++ fb p :: b2) := by simpa using h
        have := tab_at h'
        rwa [lay_append, List.length_append, lay_one_len, fb_size, hb] at this
      rw [fb_size] at hy2
      have hpo : p ≤ o := by
        rcases Nat.lt_or_ge o p with hlt | hge
        · exfalso
          have h1 : 2 * 2 ^ o ∣ 2 ^ p := by
            rw [show 2 * 2 ^ o = 2 ^ (o + 1) from by rw [Nat.pow_succ]; omega]
            exact Nat.pow_dvd_pow 2 hlt
          have h2 := Nat.dvd_trans h1 (Nat.dvd_of_mod_eq_zero hy2)
          have h3 := (Nat.dvd_add_right (Nat.dvd_of_mod_eq_zero hm)).1 h2
          have := Nat.le_of_dvd hp h3
          omega
        · exact hge
      by_cases he : p = o
      · subst he
        exact hN j p ho hm hj hg
      · have hlt : p < o := by omega
        have hd : 2 * 2 ^ p ∣ 2 ^ o := by
          rw [show 2 * 2 ^ p = 2 ^ (p + 1) from by rw [Nat.pow_succ]; omega]
          exact Nat.pow_dvd_pow 2 hlt
        have hle2 := Nat.le_of_dvd hp hd
        refine ih p hlt (j + 2 ^ o) (by omega) hg ?_ (by omega)
        exact Nat.mod_eq_zero_of_dvd ((Nat.dvd_add_right (Nat.dvd_trans hd (Nat.dvd_trans (Nat.dvd_mul_left _ _) (Nat.dvd_of_mod_eq_zero hm)))).2 hd)
theorem whole_blocks {L : List Pg} (hN : ∀ (o j : Nat), o < 10 → L[j]? = some (fb o) → j % (2 * 2 ^ o) = 0 → j + 2 * 2 ^ o ≤ L.length → False) : ∀ (bs b0 : List Pg) (f : Nat), Tab L (b0 ++ bs) → (∀ p ∈ bs, p.1 = 0) → L.length ≤ (lay b0).length + f → bs = gBlocks L.length f (lay b0).length
  | [], b0, f, h, _, hf => by
    have hlen := tab_len h
    rw [List.append_nil] at hlen
    cases f with
    | zero => rfl
    | succ f => unfold gBlocks; rw [if_neg (by omega)]
  | y :: bs, b0, f, h, h0, hf => by
    have hlen := tab_len h
    have hrow := (row_append b0 _ 0).1 h.2
    rw [Nat.zero_add] at hrow
    obtain ⟨-, hy1, hy2, -⟩ := hrow
    have hy0 : y.1 = 0 := h0 y List.mem_cons_self
    have hyo := pgHead_order hy1
    obtain ⟨p, rfl⟩ : ∃ p : Nat, y = fb p := by
      have := of_decide_eq_true hy1
      refine ⟨y.2.1.toNat, ?_⟩
      obtain ⟨y0, y1, y2⟩ := y
      simp only [fb] at *
      simp only [Prod.mk.injEq]
      omega
    have hp10 : p ≤ 10 := by simp [fb] at hyo; omega
    have hg := tab_at h
    rw [fb_size] at hy2
    have hll : (lay (b0 ++ fb p :: bs)).length = (lay b0).length + (2 ^ p + (lay bs).length) := by rw [lay_append, List.length_append, lay_cons_len, fb_size]
    have hp := Nat.two_pow_pos p
    have hord : gOrd (lay b0).length L.length 10 = p := by
      have h1 := gOrd_max (lay b0).length L.length 10 p hp10 ⟨hy2, by omega⟩
      rcases Nat.lt_or_ge p (gOrd (lay b0).length L.length 10) with hlt | hge
      · exfalso
        have h2 := fits_down (gOrd_fits (show (lay b0).length < L.length from by omega) 10) (show p + 1 ≤ _ from hlt)
        have h3 := gOrd_le (lay b0).length L.length 10
        have e : 2 ^ (p + 1) = 2 * 2 ^ p := by rw [Nat.pow_succ]; omega
        unfold fits at h2
        rw [e] at h2
        exact hN p _ (by omega) hg h2.1 h2.2
      · omega
    cases f with
    | zero => omega
    | succ f =>
      unfold gBlocks
      rw [if_pos (by omega), hord]
      have hT : Tab L ((b0 ++ [fb p]) ++ bs) := by simpa using h
      have := whole_blocks hN bs (b0 ++ [fb p]) f hT (fun q hq => h0 q (List.mem_cons_of_mem _ hq)) (by rw [lay_append, List.length_append, lay_one_len, fb_size]; omega)
      rw [lay_append, List.length_append, lay_one_len, fb_size] at this
      rw [← this]
/-- WHOLE AGAIN -/
theorem whole_fresh {L bs : List Pg} (h : Tab L bs) (hf : ∀ p ∈ bs, p.1 = 0) (hN : NoBud L) : L = freshL L.length := by
  have := whole_blocks (no_lone h hf hN) bs [] L.length h hf (by simp [lay])
  have e : bs = freshB L.length := this
  unfold freshL
  rw [← e]
  exact h.1
theorem outPl_kind : ∀ (bs : List Pg) (i : Nat), Row i bs → outPl i bs = [] → ∀ p ∈ bs, p.1 = 0
  | [], i, _, _, p, h => by simp at h
  | q :: bs, i, hr, ho, p, h => by
    rw [outPl, List.append_eq_nil_iff] at ho
    rcases List.mem_cons.1 h with rfl | h
    · rcases head_kind hr.1 with h0 | h0
      · exact h0
      · rw [if_pos h0] at ho; cases ho.1
    · exact outPl_kind bs _ hr.2.2 ho.2 p h
end Go.Proofs.Ytljcndcmdphmgaa

/-
  Contract: (*Buddy).whole lays all pages as greatest free blocks.
-/
namespace Go.Proofs.Ytljcndcmdphmgaa
open Go.RowKit
attribute [local go_sem ↓] Go.wp_at_zero Go.wp_at_succ
section
variable {W w : World} {m bl : List (Nat × Obj)} {pb : Nat} {L : List Pg}
theorem size_spec1 (h : Own W m w) (a : Int) (p : Nat) (hs : p + 1 ≤ 10) :
    Calls Try.prog 88 #[.agg #[.int .i64 a, .int .i64 ((p : Int) + 1)]] w fun e w' => e = .returned (.int .i64 ((2 ^ (p + 1) : Nat) : Int)) ∧ Own W m w' := by
  have := size_spec h a (p + 1) hs
  rw [show ((p + 1 : Nat) : Int) = (p : Int) + 1 from by omega] at this
  exact this
set_option maxRecDepth 100000 in
set_option maxHeartbeats 4000000 in
theorem whole_spec (h : Own W (bl ++ m) w) (hb : BdO pb L bl) (hL1 : 1 ≤ L.length) (hL : L.length ≤ 1024) :
    Calls Try.prog 54 #[.pointer (some ⟨pb, 0, none⟩)] w fun e w' => ∃ bl', e = .returned (.tuple #[]) ∧ BdO pb (freshL L.length) bl' ∧ Own W (bl' ++ m) w' := by
  obtain ⟨N, hN⟩ : ∃ N, L.length = N := ⟨_, rfl⟩
  have HN := Lib.hid hN
  rw [hN] at hL hL1 ⊢
  clear hN
  -- the slice's own value is never changed
  have PB : Hid (∀ (bl : List (Nat × Obj)) (L : List Pg) (m : List (Nat × Obj)) (wr : World), BdO pb L bl → L.length = N → Own W (bl ++ m) wr → ∃ A c, ∀ M ws, Own W (bl ++ M) ws → ws.cell? ⟨pb, 0, none⟩ = some (.slice A N c)) := by
    intro bl L m wr hb hl hr
    obtain ⟨v, bs, ho, rfl⟩ := hb
    obtain ⟨A, c, rfl, -, -⟩ := ho.slice
    rw [hl] at *
    exact ⟨A, c, fun M ws hw => bd_cell hw⟩
  go_enter Try.func54, Try.ntmps54
  go_wp2_with fail
  go_loopw [2] (fun at_ wr => ∃ (a : Nat) (pre : List Pg) (La : List Pg) (bl' : List (Nat × Obj)), at_ = .int .i64 a ∧ a ≤ N ∧ Hid ((lay pre).length = a) ∧ Hid (freshB N = pre ++ gBlocks N (N - a) a) ∧ Hid (La.take a = lay pre) ∧ Hid (La.length = N) ∧ BdO pb La bl' ∧ Own W (bl' ++ m) wr) (fun at_ _ => N - (intOf at_).toNat)
  case atStart => exact ⟨0, [], L, bl, rfl, by omega, rfl, rfl, rfl, HN, hb, h⟩
  case round =>
    obtain ⟨a, pre, La, bl', rfl, ha, HP, HF, HT, HLa, hba, hr⟩ := hrel
    obtain ⟨A, c, hpv⟩ := PB.out _ _ _ _ hba HLa.out hr
    have PV := Lib.hid hpv
    have hcell := hpv _ _ hr
    clear hpv
    by_cases hlt : a < N
    · have hlti : (a : Int) < N := by omega
      have h1 : Own W (bl' ++ ((wr.heap.size, .cells #[.int .i64 a, .int .i64 ((10 : Nat) : Int)] 102) :: m)) (wr.alloc (.cells #[.int .i64 a, .int .i64 ((10 : Nat) : Int)] 102)) := hr.new1 _
      go_wp2_with fail
      obtain ⟨B, hB⟩ : ∃ B, wr.heap.size = B := ⟨_, rfl⟩
      rw [hB] at h1 ⊢
      go_loopw [] (fun ws => ∃ o : Nat, o ≤ 10 ∧ Hid (gOrd a N 10 = gOrd a N o) ∧ Own W (bl' ++ ((B, .cells #[.int .i64 a, .int .i64 o] 102) :: m)) ws) (fun ws => box1 ws B)
      case atStart => exact ⟨10, by omega, rfl, h1⟩
      case round =>
        clear hcell
        obtain ⟨o, ho, HO, hs⟩ := hrel
        have hcell := PV.out _ _ hs
        have y0 := hs.dropL.cell List.mem_cons_self 0
        have y1 := hs.dropL.cell List.mem_cons_self 1
        have f0 := hs.dropL.frozen List.mem_cons_self 0
        have f1 := hs.dropL.frozen List.mem_cons_self 1
        have Y1 := Lib.hid (box1_eq y1)
        rw [Int.toNat_natCast] at Y1
        simp at y0 y1
        obtain ⟨M, hM, hMi, hM1, hM2⟩ := pow_nat ho
        have HM := Lib.hid hM
        have hand := and_mask_i64 a o (by omega)
        rw [hMi, ← Int.natCast_emod] at hand
        have hw1 : IntKind.i64.wrap ((M : Int) - 1) = (M : Int) - 1 := by rw [IntWalk.i64_in] <;> omega
        have hw2 : IntKind.i64.wrap ((a : Int) + M) = (a : Int) + M := by rw [IntWalk.i64_in] <;> omega
        by_cases hal : a % M = 0
        · have hand0 : bits .and .i64 (a : Int) ((M : Int) - 1) = 0 := by rw [hand, hal]; rfl
          clear hand
          by_cases hle : a + M ≤ N
          · have hle' : ¬ (N : Int) < (a : Int) + M := by omega
            have hfit : fits a N o := ⟨by rw [hM]; exact hal, by rw [hM]; exact hle⟩
            have hgo : gOrd a N 10 = o := by
              have h1 := gOrd_max a N 10 o ho hfit
              have h2 := gOrd_le a N o
              rw [HO.out] at h1 ⊢
              omega
            have HGO := Lib.hid hgo
            have HAL := Lib.hid hal
            clear hal hM hfit hgo HO
            go_wp2_with fail
            go_region_held3 (fun w' => w'.cell? ⟨B, 0, none⟩ = some (.int .i64 a) ∧ w'.cell? ⟨B, 1, none⟩ = some (.int .i64 o) ∧ w'.cell? ⟨pb, 0, none⟩ = some (.slice A N c)) (first | (refine ⟨?_, ?_, ?_⟩ <;> assumption) | go_keep)
              (first | (go_at_call 88; ((with_reducible refine (size_spec hs.drew a o ho).mono ?_); rintro e w2 ⟨rfl, h2⟩; rw [HM.out]; have y0 := h2.dropL.cell List.mem_cons_self 0; have y1 := h2.dropL.cell List.mem_cons_self 1; simp at y0 y1; have hcell2 := PV.out _ _ h2)) | (go_at_call 88; ((with_reducible refine (size_spec h2 a o ho).mono ?_); rintro e w3 ⟨rfl, h3⟩; rw [HM.out]; have y0 := h3.dropL.cell List.mem_cons_self 0; have y1 := h3.dropL.cell List.mem_cons_self 1; have f1 := h3.dropL.frozen List.mem_cons_self 1; simp at y0 y1; have hcell3 := PV.out _ _ h3)))
            clear hw1 hw2
            go_wp2_with fail
            have hszx : pgSize ((0 : Int), ((o : Nat) : Int), (0 : Int)) = 2 ^ o := by simp [pgSize]
            have HSZ := Lib.hid hszx
            clear hszx
            refine (lay_spec h3 hba a o ho (by rw [HM.out, HLa.out]; exact hle) (by rw [HLa.out]; exact hL) 0 0 0).mono ?_
            rintro e w4 ⟨bl4, rfl, hb4, h4⟩
            have y0 := h4.dropL.cell List.mem_cons_self 0
            have y1 := h4.dropL.cell List.mem_cons_self 1
            simp at y0 y1
            go_wp2_with fail
            refine (size_spec h4 a o ho).mono ?_
            rintro e w5 ⟨rfl, h5⟩
            rw [HM.out]
            go_wp2_with fail
            have hsz : pgSize (fb o) = M := by rw [fb_size, HM.out]
            refine ⟨⟨a + M, pre ++ [fb o], _, bl4, by go_num, hle, ?_, ?_, ?_, ?_, hb4, h5.drop1⟩, by simp [intOf]; omega⟩
            · show (lay (pre ++ [fb o])).length = a + M
              rw [lay_append, List.length_append, HP.out, lay_one_len, hsz]
            · show freshB N = pre ++ [fb o] ++ gBlocks N (N - (a + M)) (a + M)
              rw [HF.out]
              obtain ⟨f, hf⟩ : ∃ f, N - a = f + 1 := ⟨N - a - 1, by omega⟩
              rw [hf, show gBlocks N (f + 1) a = if a < N then fb (gOrd a N 10) :: gBlocks N f (a + 2 ^ gOrd a N 10) else [] from rfl, if_pos hlt, HGO.out, HM.out]
              rw [gBlocks_fuel N f (N - (a + M)) (a + M) (by omega) (by omega)]
              simp
            · show (pgPut La a (fb o)).take (a + M) = lay (pre ++ [fb o])
              have ht : (La.take a).length = a := by rw [List.length_take, HLa.out]; omega
              have hl1 : (lay [fb o]).length = M := by rw [lay_one_len, hsz]
              rw [pgPut_eq, HT.out, lay_append, ← List.append_assoc, List.take_left']
              rw [List.length_append, hl1, HP.out]
            · exact (pgPut_len (by rw [HSZ.out, HM.out, HLa.out]; exact hle)).trans HLa.out
          · have hgt : (N : Int) < (a : Int) + M := by omega
            have hnf : ¬ fits a N o := fun hf => hle (by have := hf.2; rw [hM] at this; exact this)
            obtain ⟨p, rfl⟩ : ∃ p, o = p + 1 := ⟨o - 1, by
              have : o ≠ 0 := fun h0 => hle (by rw [← hM, h0]; omega)
              omega⟩
            have hgo : gOrd a N (p + 1) = gOrd a N p := by
              rw [show gOrd a N (p + 1) = if fits a N (p + 1) then p + 1 else gOrd a N p from rfl, if_neg hnf]
            have HGO : Hid (gOrd a N 10 = gOrd a N p) := HO.out.trans hgo
            have HAL := Lib.hid hal
            clear hal hM hnf hgo HO
            go_wp2_with fail
            go_region_held3 (fun w' => w'.cell? ⟨B, 0, none⟩ = some (.int .i64 a) ∧ w'.cell? ⟨B, 1, none⟩ = some (.int .i64 ((p : Int) + 1)) ∧ w'.cell? ⟨pb, 0, none⟩ = some (.slice A N c)) (first | (refine ⟨?_, ?_, ?_⟩ <;> assumption) | go_keep)
              (first | (go_at_call 88; ((with_reducible refine (size_spec1 hs.drew a p ho).mono ?_); rintro e w2 ⟨rfl, h2⟩; rw [HM.out]; have y0 := h2.dropL.cell List.mem_cons_self 0; have y1 := h2.dropL.cell List.mem_cons_self 1; simp at y0 y1; have hcell2 := PV.out _ _ h2)) | (go_at_call 88; ((with_reducible refine (size_spec1 h2 a p ho).mono ?_); rintro e w3 ⟨rfl, h3⟩; rw [HM.out]; have y0 := h3.dropL.cell List.mem_cons_self 0; have y1 := h3.dropL.cell List.mem_cons_self 1; have f1 := h3.dropL.frozen List.mem_cons_self 1; simp at y0 y1; have hcell3 := PV.out _ _ h3)))
            clear hw1 hw2
            go_wp2_with fail
            have h9 := h3.setIn 1 (.int .i64 (p : Int))
            have z9 := h9.dropL.cell List.mem_cons_self 1
            rw [show ((#[.int .i64 (a : Int), .int .i64 ((p + 1 : Nat) : Int)] : Array Value).setIfInBounds 1 (.int .i64 (p : Int)))[1]? = some (.int .i64 (p : Int)) from rfl] at z9
            have hb9 := box1_eq z9
            exact ⟨⟨p, by omega, HGO, h9⟩, by rw [hb9, Y1.out]; omega⟩
        · have hnf : ¬ fits a N o := fun hf => hal (by have := hf.1; rw [hM] at this; exact this)
          obtain ⟨p, rfl⟩ : ∃ p, o = p + 1 := ⟨o - 1, by
            have : o ≠ 0 := fun h0 => hal (by rw [← hM, h0]; exact Nat.mod_one _)
            omega⟩
          have hgo : gOrd a N (p + 1) = gOrd a N p := by
            rw [show gOrd a N (p + 1) = if fits a N (p + 1) then p + 1 else gOrd a N p from rfl, if_neg hnf]
          have HGO : Hid (gOrd a N 10 = gOrd a N p) := HO.out.trans hgo
          obtain ⟨R, hR⟩ : ∃ R : Int, ((a % M : Nat) : Int) = R := ⟨_, rfl⟩
          rw [hR] at hand
          have hR0 : (R != 0) = true := bne_iff_ne.2 (by omega)
          have HAL := Lib.hid hal
          clear hal hM hnf hgo HO hR
          go_wp2_with fail
          refine wp_region_held_drew (S := (fun w' => w'.cell? ⟨B, 0, none⟩ = some (.int .i64 a) ∧ w'.cell? ⟨B, 1, none⟩ = some (.int .i64 ((p : Int) + 1)) ∧ w'.cell? ⟨pb, 0, none⟩ = some (.slice A N c))) (by kernel_rfl) (by (refine ⟨?_, ?_, ?_⟩ <;> assumption)) (fun hHeld => ?_)
          refine wpAnyH_take (i := 0) (oi := ⟨some 13, _, _, _, _, _⟩) (v := ?v0) rfl (by kernel_rfl) (by kernel_rfl) (by kernel_rfl) (fun _ _ _ h => h) (Or.inl ⟨by rfl, ?y0⟩) (by assumption) ?r0
          case y0 => (intro w hSw; (try dsimp only at hSw); go_simp; try with_reducible rfl)
          try simp only [Act.put, List.setIfInBounds_toArray, List.set_cons_zero, List.set_cons_succ]
          refine wpAnyH_take (i := 1) (oi := ⟨some 14, _, _, _, _, _⟩) (v := ?v1) rfl (by kernel_rfl) (by kernel_rfl) (by kernel_rfl) (fun _ _ _ h => h) (Or.inl ⟨by rfl, ?y1⟩) (by assumption) ?r1
          case y1 => (intro w hSw; (try dsimp only at hSw); go_simp; try with_reducible rfl)
          try simp only [Act.put, List.setIfInBounds_toArray, List.set_cons_zero, List.set_cons_succ]
          refine wpAnyH_ready (rs := [2]) (by kernel_rfl) (by simp) ?_
          refine AllReadyH.cons (o := ⟨some 15, _, _, _, _, _⟩) rfl (fun K hK => ?_) AllReadyH.nil
          go_simp
          refine (size_spec hs.drew a (p + 1) ho).mono ?_
          rintro e w2 ⟨rfl, h2⟩
          rw [HM.out]
          have y0 := h2.dropL.cell List.mem_cons_self 0
          have y1 := h2.dropL.cell List.mem_cons_self 1
          simp at y0 y1
          refine hK.out _ _ ?k2 (fun hHeld2 => ?_)
          case k2 => exact ⟨y0, y1, PV.out _ _ h2⟩
          clear hK K
          try simp only [Act.put, List.setIfInBounds_toArray, List.set_cons_zero, List.set_cons_succ]
          refine wpAnyH_take (i := 3) (oi := ⟨some 16, _, _, _, _, _⟩) (v := ?v3) rfl (by kernel_rfl) (by kernel_rfl) (by kernel_rfl) (fun _ _ _ h => h) (Or.inl ⟨by rfl, ?y3⟩) (by assumption) ?r3
          case y3 => (intro w hSw; (try dsimp only at hSw); go_simp; try with_reducible rfl)
          try simp only [Act.put, List.setIfInBounds_toArray, List.set_cons_zero, List.set_cons_succ]
          refine wpAnyH_take (i := 4) (oi := ⟨some 17, _, _, _, _, _⟩) (v := ?v4) rfl (by kernel_rfl) (by kernel_rfl) (by kernel_rfl) (fun _ _ _ h => h) (Or.inl ⟨by rfl, ?y4⟩) (by assumption) ?r4
          case y4 => (intro w hSw; (try dsimp only at hSw); go_simp; try with_reducible rfl)
          try simp only [Act.put, List.setIfInBounds_toArray, List.set_cons_zero, List.set_cons_succ]
          refine wpAnyH_take (i := 5) (oi := ⟨some 18, _, _, _, _, _⟩) (v := ?v5) rfl (by kernel_rfl) (by kernel_rfl) (by kernel_rfl) (fun _ _ _ h => h) (Or.inl ⟨by rfl, ?y5⟩) (by assumption) ?r5
          case y5 => (intro w hSw; (try dsimp only at hSw); go_simp; try with_reducible rfl)
          try simp only [Act.put, List.setIfInBounds_toArray, List.set_cons_zero, List.set_cons_succ]
          refine wpAnyH_take (i := 6) (oi := ⟨some 19, _, _, _, _, _⟩) (v := ?v6) rfl (by kernel_rfl) (by kernel_rfl) (by kernel_rfl) (fun _ _ _ h => h) (Or.inl ⟨by rfl, ?y6⟩) (by assumption) ?r6
          case y6 => (intro w hSw; (try dsimp only at hSw); go_simp; try with_reducible rfl)
          try simp only [Act.put, List.setIfInBounds_toArray, List.set_cons_zero, List.set_cons_succ]
          refine wpAnyH_take (i := 7) (oi := ⟨some 20, _, _, _, _, _⟩) (v := undef) rfl (by kernel_rfl) (by kernel_rfl) (by kernel_rfl) (fun _ _ _ h => h) (Or.inr ⟨by kernel_rfl, rfl⟩) (by assumption) ?_
          try simp only [Act.put, List.setIfInBounds_toArray, List.set_cons_zero, List.set_cons_succ]
          refine wpAnyH_take (i := 8) (oi := ⟨some 21, _, _, _, _, _⟩) (v := undef) rfl (by kernel_rfl) (by kernel_rfl) (by kernel_rfl) (fun _ _ _ h => h) (Or.inr ⟨by kernel_rfl, rfl⟩) (by assumption) ?_
          try simp only [Act.put, List.setIfInBounds_toArray, List.set_cons_zero, List.set_cons_succ]
          refine wpAnyH_take (i := 9) (oi := ⟨some 22, _, _, _, _, _⟩) (v := undef) rfl (by kernel_rfl) (by kernel_rfl) (by kernel_rfl) (fun _ _ _ h => h) (Or.inr ⟨by kernel_rfl, rfl⟩) (by assumption) ?_
          try simp only [Act.put, List.setIfInBounds_toArray, List.set_cons_zero, List.set_cons_succ]
          refine wpAnyH_take (i := 10) (oi := ⟨some 23, _, _, _, _, _⟩) (v := undef) rfl (by kernel_rfl) (by kernel_rfl) (by kernel_rfl) (fun _ _ _ h => h) (Or.inr ⟨by kernel_rfl, rfl⟩) (by assumption) ?_
          try simp only [Act.put, List.setIfInBounds_toArray, List.set_cons_zero, List.set_cons_succ]
          refine wpAnyH_take (i := 11) (oi := ⟨some 24, _, _, _, _, _⟩) (v := undef) rfl (by kernel_rfl) (by kernel_rfl) (by kernel_rfl) (fun _ _ _ h => h) (Or.inr ⟨by kernel_rfl, rfl⟩) (by assumption) ?_
          try simp only [Act.put, List.setIfInBounds_toArray, List.set_cons_zero, List.set_cons_succ]
          refine wpAnyH_take (i := 12) (oi := ⟨some 25, _, _, _, _, _⟩) (v := undef) rfl (by kernel_rfl) (by kernel_rfl) (by kernel_rfl) (fun _ _ _ h => h) (Or.inr ⟨by kernel_rfl, rfl⟩) (by assumption) ?_
          try simp only [Act.put, List.setIfInBounds_toArray, List.set_cons_zero, List.set_cons_succ]
          refine wpAnyH_take (i := 13) (oi := ⟨some 26, _, _, _, _, _⟩) (v := undef) rfl (by kernel_rfl) (by kernel_rfl) (by kernel_rfl) (fun _ _ _ h => h) (Or.inr ⟨by kernel_rfl, rfl⟩) (by assumption) ?_
          try simp only [Act.put, List.setIfInBounds_toArray, List.set_cons_zero, List.set_cons_succ]
          refine wpAnyH_take (i := 14) (oi := ⟨some 27, _, _, _, _, _⟩) (v := undef) rfl (by kernel_rfl) (by kernel_rfl) (by kernel_rfl) (fun _ _ _ h => h) (Or.inr ⟨by kernel_rfl, rfl⟩) (by assumption) ?_
          try simp only [Act.put, List.setIfInBounds_toArray, List.set_cons_zero, List.set_cons_succ]
          refine wpAnyH_take (i := 15) (oi := ⟨some 28, _, _, _, _, _⟩) (v := undef) rfl (by kernel_rfl) (by kernel_rfl) (by kernel_rfl) (fun _ _ _ h => h) (Or.inr ⟨by kernel_rfl, rfl⟩) (by assumption) ?_
          try simp only [Act.put, List.setIfInBounds_toArray, List.set_cons_zero, List.set_cons_succ]
          refine wpAnyH_take (i := 16) (oi := ⟨some 29, _, _, _, _, _⟩) (v := undef) rfl (by kernel_rfl) (by kernel_rfl) (by kernel_rfl) (fun _ _ _ h => h) (Or.inr ⟨by kernel_rfl, rfl⟩) (by assumption) ?_
          try simp only [Act.put, List.setIfInBounds_toArray, List.set_cons_zero, List.set_cons_succ]
          refine wpAnyH_take (i := 17) (oi := ⟨some 30, _, _, _, _, _⟩) (v := ?v17) rfl (by kernel_rfl) (by kernel_rfl) (by kernel_rfl) (fun _ _ _ h => h) (Or.inl ⟨by rfl, ?y17⟩) (by assumption) ?r17
          case y17 => (intro w hSw; (try dsimp only at hSw); go_simp; try with_reducible rfl)
          try simp only [Act.put, List.setIfInBounds_toArray, List.set_cons_zero, List.set_cons_succ]
          refine wpAnyH_done (by kernel_rfl) ?_ _
          clear hw1 hw2
          have f1 := h2.dropL.frozen List.mem_cons_self 1
          go_wp2_with fail
          have h9 := h2.setIn 1 (.int .i64 (p : Int))
          have z9 := h9.dropL.cell List.mem_cons_self 1
          rw [show ((#[.int .i64 (a : Int), .int .i64 ((p + 1 : Nat) : Int)] : Array Value).setIfInBounds 1 (.int .i64 (p : Int)))[1]? = some (.int .i64 (p : Int)) from rfl] at z9
          have hb9 := box1_eq z9
          exact ⟨⟨p, by omega, HGO, h9⟩, by rw [hb9, Y1.out]; omega⟩
    · have hlti : ¬ (a : Int) < N := by omega
      go_wp2_with fail
      go_end0
      obtain rfl : a = N := by omega
      have h1 := HT.out
      rw [List.take_of_length_le (by rw [HLa.out]; omega)] at h1
      have h2 := HF.out
      rw [Nat.sub_self, show gBlocks a 0 a = [] from rfl, List.append_nil] at h2
      refine ⟨rfl, bl', ?_, hr⟩
      have e : La = freshL a := by unfold freshL; rw [h2]; exact h1
      rw [← e]
      exact hba
end
end Go.Proofs.Ytljcndcmdphmgaa
