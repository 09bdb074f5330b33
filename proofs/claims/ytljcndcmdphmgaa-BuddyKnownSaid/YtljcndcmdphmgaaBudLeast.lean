/-
  Contract: (*Buddy).least: the first free block of the least order from one on.
-/
import Derived.Test.YtljcndcmdphmgaaBudLay
namespace Go.Proofs.Ytljcndcmdphmgaa
open Go.RowKit
attribute [local go_sem ↓] Go.wp_at_zero Go.wp_at_succ
theorem tab_align {L bs : List Pg} (h : Tab L bs) {a : Nat} {p : Pg} (hp : L[a]? = some p) (hk : p.1 ≠ 1) : a % pgSize p = 0 ∧ a + pgSize p ≤ L.length ∧ pgHead p = true := by
  obtain ⟨b1, b2, rfl, hb⟩ := tab_block h hp hk
  have hrow := (row_append b1 _ 0).1 h.2
  rw [Nat.zero_add, hb] at hrow
  have hlen := tab_len h
  have hll : (lay (b1 ++ p :: b2)).length = (lay b1).length + (pgSize p + (lay b2).length) := by rw [lay_append, List.length_append, lay_cons_len]
  exact ⟨hrow.2.2.1, by omega, hrow.2.1⟩
/-- no free block of an order -/
def NoOrd (L : List Pg) (o : Nat) : Prop := ∀ a : Nat, L[a]? ≠ some (fb o)
def LeastIs (L : List Pg) (order a o : Nat) : Prop := order ≤ o ∧ o ≤ 10 ∧ L[a]? = some (fb o) ∧ (∀ q, order ≤ q → q < o → NoOrd L q) ∧ ∀ b, b < a → L[b]? ≠ some (fb o)
def NoneIs (L : List Pg) (order : Nat) : Prop := ∀ q, order ≤ q → q ≤ 10 → NoOrd L q
theorem noOrd_of {L bs : List Pg} (h : Tab L bs) {o at_ : Nat} (hat : L.length ≤ at_) (hno : ∀ a, a < at_ → a % 2 ^ o = 0 → L[a]? ≠ some (fb o)) : NoOrd L o := by
  intro a ha
  obtain ⟨h1, -, -⟩ := tab_align h ha (fb_kind o)
  rw [fb_size] at h1
  have := (List.getElem?_eq_some_iff.1 ha).1
  exact hno a (by omega) h1 ha
section
variable {W w : World} {m bl : List (Nat × Obj)} {pb : Nat} {L : List Pg}
def LeastPost (W : World) (M : List (Nat × Obj)) (L : List Pg) (order : Nat) (e : Ending) (w' : World) : Prop :=
  (∃ a o : Nat, e = .returned (.tuple #[.agg #[.int .i64 a, .int .i64 o], .bool true]) ∧ LeastIs L order a o ∧ Own W M w') ∨
  (∃ x y : Int, e = .returned (.tuple #[.agg #[.int .i64 x, .int .i64 y], .bool false]) ∧ NoneIs L order ∧ Own W M w')
set_option maxRecDepth 100000 in
set_option maxHeartbeats 4000000 in
theorem least_spec (h : Own W (bl ++ m) w) (hb : BdO pb L bl) {bs0 : List Pg} (hT : Tab L bs0) (hL1 : 1 ≤ L.length) (hL : L.length ≤ 1024) (order : Nat) :
    Calls Try.prog 59 #[.pointer (some ⟨pb, 0, none⟩), .int .i64 order] w (LeastPost W (bl ++ m) L order) := by
  have HT := Lib.hid hT
  have hb' := hb
  obtain ⟨v, bs, ho, hbl⟩ := hb'
  obtain ⟨g, cap, cur, rfl, -, -⟩ := ho.form (by omega)
  obtain ⟨N, hN⟩ : ∃ N, L.length = N := ⟨_, rfl⟩
  have HN := Lib.hid hN
  rw [hN] at hL hL1 hbl
  have h1 : Own W ((w.heap.size, .cells #[.int .i64 0, .int .i64 0] 102) :: (bl ++ m)) (w.alloc (.cells #[.int .i64 0, .int .i64 0] 102)) := h.new _
  have FX : Hid (∀ (x y : Int) w', Own W ((w.heap.size, .cells #[.int .i64 x, .int .i64 y] 102) :: (bl ++ m)) w' →
      (w'.cell? ⟨w.heap.size, 0, none⟩ = some (.int .i64 x) ∧ w'.cell? ⟨w.heap.size, 1, none⟩ = some (.int .i64 y) ∧ w'.frozen? ⟨w.heap.size, 0, none⟩ = false ∧ w'.frozen? ⟨w.heap.size, 1, none⟩ = false) ∧ w'.cell? ⟨pb, 0, none⟩ = some (.slice (some ⟨g, 0, none⟩) N cap)) := fun x y w' hw => by
    refine ⟨⟨?_, ?_, hw.frozen List.mem_cons_self 0, hw.frozen List.mem_cons_self 1⟩, ?_⟩
    · simpa using hw.cell List.mem_cons_self 0
    · simpa using hw.cell List.mem_cons_self 1
    · have := hw.skip
      rw [hbl] at this
      exact bd_cell this
  clear hN hT ho hbl
  go_enter Try.func59, Try.ntmps59
  go_wp2_with fail
  go_step3
  go_wp2_with fail
  go_step3
  go_wp2_with fail
  go_loopw [5, 6] (fun b o wr => ∃ k : Nat, b = .bool false ∧ o = .int .i64 k ∧ (k ≤ 11 ∨ k = order) ∧ order ≤ k ∧ Hid (∀ q, order ≤ q → q < k → NoOrd L q) ∧ ∃ x y : Int, Own W ((w.heap.size, .cells #[.int .i64 x, .int .i64 y] 102) :: (bl ++ m)) wr) (fun _ o _ => 11 - (intOf o).toNat)
  case atStart => exact ⟨order, rfl, rfl, .inr rfl, Nat.le_refl _, fun q h1 h2 => by omega, 0, 0, h1⟩
  case round =>
    obtain ⟨k, rfl, rfl, hk, hok, HQ, x, y, hr⟩ := hrel
    obtain ⟨⟨c0, c1, f0, f1⟩, c2⟩ := FX.out x y _ hr
    by_cases hk10 : k ≤ 10
    · have hk10i : (k : Int) ≤ 10 := by omega
      obtain ⟨M, hM, hMi, hM1, hM2⟩ := pow_nat hk10
      have HM := Lib.hid hM
      have hmin : min k 64 = k := by omega
      clear hM
      go_wp2_with fail
      go_loopw [5, 7] (fun b at_ wr => ∃ a : Nat, b = .bool false ∧ at_ = .int .i64 a ∧ a ≤ 2048 ∧ Hid (a % 2 ^ k = 0) ∧ Hid (∀ q, q < a → q % 2 ^ k = 0 → L[q]? ≠ some (fb k)) ∧ ∃ x y : Int, Own W ((w.heap.size, .cells #[.int .i64 x, .int .i64 y] 102) :: (bl ++ m)) wr) (fun _ at_ _ => 2048 - (intOf at_).toNat)
      case atStart => exact ⟨0, rfl, rfl, by omega, Nat.zero_mod _, fun q h1 h2 => by omega, x, y, hr⟩
      case round =>
        clear hr c0 c1 f0 f1 c2
        obtain ⟨a, rfl, rfl, ha, HA, HNo, x, y, hr⟩ := hrel
        obtain ⟨⟨c0, c1, f0, f1⟩, c2⟩ := FX.out x y _ hr
        by_cases hlt : a < N
        · have hlti : (a : Int) < N := by omega
          have h2 : Own W ((w.heap.size, .cells #[.int .i64 a, .int .i64 k] 102) :: (bl ++ m)) _ := (hr.set 0 (.int .i64 a)).set 1 (.int .i64 k)
          obtain ⟨p, hp⟩ : ∃ p, L[a]? = some p := ⟨_, List.getElem?_eq_getElem (by rw [HN.out]; omega)⟩
          have HP := Lib.hid hp
          have hfb : fb k = (0, (k : Int), 0) := rfl
          have HFB := Lib.hid hfb
          clear hp hfb
          by_cases hpf : p = fb k
          · subst hpf
            go_wp2_with fail
            refine (free_yes (h2.perm List.perm_middle.symm) hb a k (fb k) HP.out).mono ?_
            rintro e w2 ⟨rfl, h3⟩
            rw [decide_eq_true (show fb k = (0, (k : Int), 0) from rfl)]
            have h4 := h3.perm List.perm_middle
            obtain ⟨⟨c0, c1, f0, f1⟩, c2⟩ := FX.out _ _ _ h4
            go_wp2_with fail
            have h5 := (h4.set 0 (.int .i64 a)).set 1 (.int .i64 k)
            have c0 := h5.cell List.mem_cons_self 0
            have c1 := h5.cell List.mem_cons_self 1
            simp at c0 c1
            exact bodyPost_ret (v := .tuple #[.agg #[.int .i64 a, .int .i64 k], .bool true]) (by simp [results, Try.f59, go_sem, c0, c1]) rfl (.inl ⟨a, k, rfl, ⟨hok, hk10, HP.out, HQ.out, fun b hb hfb => by
              have hb2 := (tab_align HT.out hfb (fb_kind k)).1
              rw [fb_size] at hb2
              exact HNo.out b hb hb2 hfb⟩, h5.skip⟩)
          · have HPF := Lib.hid hpf
            clear hpf
            go_wp2_with fail
            refine (free_yes (h2.perm List.perm_middle.symm) hb a k p HP.out).mono ?_
            rintro e w2 ⟨rfl, h3⟩
            rw [decide_eq_false (show ¬ p = (0, (k : Int), 0) from HPF.out)]
            have h4 := h3.perm List.perm_middle
            have hw1 : IntKind.i64.wrap (M : Int) = (M : Int) := by rw [IntWalk.i64_in] <;> omega
            go_wp2_with fail
            have ha2 : (a + M) % 2 ^ k = 0 := by rw [← HM.out, Nat.add_mod_right]; exact HA.out
            refine ⟨⟨a + M, rfl, by go_num, by omega, ha2, fun q h1 h2 hq => ?_, _, _, h4⟩, by simp [intOf]; omega⟩
            rcases Nat.lt_trichotomy q a with h3 | h3 | h3
            · exact HNo.out q h3 h2 hq
            · subst h3
              rw [HP.out] at hq
              exact HPF.out (Option.some.inj hq)
            · have := dvd_lt_eq HA.out h2 (by omega) (by rw [HM.out]; omega)
              omega
        · have hlti : ¬ (a : Int) < N := by omega
          go_wp2_with fail
          refine ⟨⟨k + 1, rfl, by go_num, .inl (by omega), by omega, fun q h1 h2 => ?_, x, y, hr⟩, by simp [intOf]; omega⟩
          by_cases hqk : q = k
          · subst hqk
            exact noOrd_of HT.out (at_ := a) (by rw [HN.out]; omega) HNo.out
          · exact HQ.out q h1 (by omega)
    · have hk10i : ¬ (k : Int) ≤ 10 := by omega
      go_wp2_with fail
      have h2 := (hr.set 0 (.int .i64 x)).set 1 (.int .i64 y)
      have c0 := h2.cell List.mem_cons_self 0
      have c1 := h2.cell List.mem_cons_self 1
      simp at c0 c1
      exact bodyPost_ret (v := .tuple #[.agg #[.int .i64 x, .int .i64 y], .bool false]) (by simp [results, Try.f59, go_sem, c0, c1]) rfl (.inr ⟨x, y, rfl, fun q h1 h2 => HQ.out q h1 (by omega), h2.skip⟩)
end
end Go.Proofs.Ytljcndcmdphmgaa
