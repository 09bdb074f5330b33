/-
  Texts of this claim, joined. No condition.
-/
import Derived.Test.YtmfemophafncnaaFt6
import Derived.Test.YtmfemophafncnaaFt7
import Derived.SizedLaws
import Derived.Laws.StructEq
/-
  Contracts: a slab's numbers in a word (package count). No condition.
-/
namespace Go.Proofs.Ytmfemophafncnaa.See
open Go.RowKit
attribute [local go_sem ↓] Go.wp_at_zero Go.wp_at_succ
def mayB (a b : Int) (f l : Bool) : Bool := decide ((l = true ∧ 1 ≤ b ∧ b ≤ 16 ∧ 0 ≤ a ∧ a ≤ b) ∨ (a = 0 ∧ b = 0 ∧ f = false ∧ l = false))
section
variable {W w : World} {m : List (Nat × Obj)}
set_option maxHeartbeats 1000000 in
theorem may_spec (h : Own W m w) (a b : Int) (f l : Bool) : Calls Try.prog 64 #[.agg #[.int .i64 a, .int .i64 b, .bool f, .bool l]] w fun e w' => e = .returned (.bool (mayB a b f l)) ∧ Own W m w' := by
  have h0 := h.alloc (.cells #[.int .i64 a, .int .i64 b, .bool f, .bool l] 48)
  cases hm : mayB a b f l with
  | true =>
    rcases of_decide_eq_true hm with ⟨rfl, h1, h2, h3, h4⟩ | ⟨rfl, rfl, rfl, rfl⟩
    · clear hm
      go_enter Try.func64, Try.ntmps64
      go_wp2_with fail
      go_ret
      exact ⟨rfl, h0⟩
    · clear hm
      go_enter Try.func64, Try.ntmps64
      go_wp2_with fail
      go_ret
      exact ⟨rfl, h0⟩
  | false =>
    have hm := of_decide_eq_false hm
    cases l with
    | false =>
      have hn : ¬ (a = 0 ∧ b = 0 ∧ f = false) := fun hh => hm (.inr ⟨hh.1, hh.2.1, hh.2.2, rfl⟩)
      by_cases ha : a = 0
      · by_cases hb : b = 0
        · have hf : f = true := by
            cases f
            · exact absurd ⟨ha, hb, rfl⟩ hn
            · rfl
          subst ha hb hf
          clear hm hn
          go_enter Try.func64, Try.ntmps64
          go_wp2_with fail
          go_ret
          exact ⟨rfl, h0⟩
        · have hbb : (b == 0) = false := beq_eq_false_iff_ne.2 hb
          subst ha
          clear hm hn
          go_enter Try.func64, Try.ntmps64
          go_wp2_with fail
          go_ret
          exact ⟨rfl, h0⟩
      · have hab : (a == 0) = false := beq_eq_false_iff_ne.2 ha
        clear hm hn
        go_enter Try.func64, Try.ntmps64
        go_wp2_with fail
        go_ret
        exact ⟨rfl, h0⟩
    | true =>
      have hn : ¬ (1 ≤ b ∧ b ≤ 16 ∧ 0 ≤ a ∧ a ≤ b) := fun hh => hm (.inl ⟨rfl, hh⟩)
      clear hm
      rcases (show b < 1 ∨ (1 ≤ b ∧ 16 < b) ∨ (1 ≤ b ∧ b ≤ 16 ∧ a < 0) ∨ (1 ≤ b ∧ b ≤ 16 ∧ 0 ≤ a ∧ b < a) by omega) with h1 | ⟨h1, h2⟩ | ⟨h1, h2, h3⟩ | ⟨h1, h2, h3, h4⟩
      all_goals
        clear hn
        try have h5 : ¬ a ≤ b := by omega
        go_enter Try.func64, Try.ntmps64
        go_wp2_with fail
        go_ret
        exact ⟨rfl, h0⟩
theorem and_bit (x k : Nat) (hx : x < 18446744073709551616) (hk : k < 64) : bits .and .u64 (x : Int) ((2 ^ k : Nat) : Int) = ((2 ^ k * (x / 2 ^ k % 2) : Nat) : Int) := by
  have hp : 2 ^ k < 18446744073709551616 := by
    have := Nat.pow_lt_pow_right (a := 2) (by omega) hk
    exact this
  rw [u64_and_nat x (2 ^ k) hx hp]
  congr 1
  have ht : x.testBit k = decide (x / 2 ^ k % 2 = 1) := Nat.testBit_eq_decide_div_mod_eq
  apply Nat.eq_of_testBit_eq
  intro i
  rw [Nat.testBit_and, Nat.testBit_two_pow]
  rcases (show x / 2 ^ k % 2 = 0 ∨ x / 2 ^ k % 2 = 1 by omega) with h | h
  · rw [h, Nat.mul_zero, Nat.zero_testBit]
    by_cases hki : k = i
    · subst hki; rw [ht, h]; simp
    · simp [hki]
  · rw [h, Nat.mul_one, Nat.testBit_two_pow]
    by_cases hki : k = i
    · subst hki; rw [ht, h]; simp
    · simp [hki]
/-- what Counts answers -/
def countsV (w : Nat) : Value := match countsOf w with
  | some c => .tuple #[.agg #[.int .i64 c.inuse, .int .i64 c.objects, .bool c.frozen, .bool c.live], .bool true]
  | none => .tuple #[.agg #[.int .i64 0, .int .i64 0, .bool false, .bool false], .bool false]
theorem countsOf_may (x : Nat) (hx : x < 262144) : countsOf x = if mayB ((x % 256 : Nat) : Int) ((x / 256 % 256 : Nat) : Int) (decide (x / 65536 % 2 = 1)) (decide (x / 131072 % 2 = 1)) = true then some ⟨x % 256, x / 256 % 256, decide (x / 65536 % 2 = 1), decide (x / 131072 % 2 = 1)⟩ else none := by
  unfold countsOf mayB
  by_cases h0 : x = 0
  · subst h0
    decide
  · rw [if_neg h0]
    by_cases hl : x / 131072 % 2 = 1
    · rw [decide_eq_true hl]
      by_cases h1 : 131072 ≤ x ∧ x < 262144 ∧ 1 ≤ x / 256 % 256 ∧ x / 256 % 256 ≤ 16 ∧ x % 256 ≤ x / 256 % 256
      · rw [if_pos h1, if_pos (decide_eq_true (.inl ⟨rfl, by omega⟩))]
      · rw [if_neg h1, if_neg]
        intro h2
        rcases of_decide_eq_true h2 with ⟨-, h3⟩ | ⟨-, -, -, h3⟩
        · omega
        · cases h3
    · rw [decide_eq_false hl, if_neg (by omega), if_neg]
      intro h2
      rcases of_decide_eq_true h2 with ⟨h3, -⟩ | ⟨h3, h4, h5, -⟩
      · cases h3
      · have h5 := of_decide_eq_false h5
        omega
theorem countsOf_big (x : Nat) (hx : 262144 ≤ x) : countsOf x = none := by
  unfold countsOf
  rw [if_neg (by omega), if_neg (by omega)]
set_option maxRecDepth 100000 in
set_option maxHeartbeats 2000000 in
theorem counts_spec (h : Own W m w) (x : Nat) (hx : x < 18446744073709551616) : Calls Try.prog 57 #[.int .u64 x] w fun e w' => e = .returned (countsV x) ∧ Own W m w' := by
  have a1 := and255 x hx
  have a2 := and255 (x / 256) (by omega)
  have hd : (x : Int) / 256 = ((x / 256 : Nat) : Int) := by omega
  have a3 := and_bit x 16 hx (by omega)
  have a4 := and_bit x 17 hx (by omega)
  rw [show (2 : Nat) ^ 16 = 65536 from rfl] at a3
  rw [show (2 : Nat) ^ 17 = 131072 from rfl] at a4
  have hc1 := countsOf_may x
  have hc2 := countsOf_big x
  unfold countsV
  obtain ⟨A, hA⟩ : ∃ A, x % 256 = A := ⟨_, rfl⟩
  obtain ⟨Q, hQ⟩ : ∃ Q, x / 256 = Q := ⟨_, rfl⟩
  obtain ⟨B, hB⟩ : ∃ B, Q % 256 = B := ⟨_, rfl⟩
  obtain ⟨F, hF⟩ : ∃ F, x / 65536 % 2 = F := ⟨_, rfl⟩
  obtain ⟨L, hL⟩ : ∃ L, x / 131072 % 2 = L := ⟨_, rfl⟩
  rw [hA] at a1
  rw [hQ] at hd a2
  rw [hB] at a2
  rw [hF] at a3
  rw [hL] at a4
  rw [hA, hQ, hB, hF, hL] at hc1
  have A255 : A ≤ 255 := by omega
  have B255 : B ≤ 255 := by omega
  have F2 : F = 0 ∨ F = 1 := by omega
  have L2 : L = 0 ∨ L = 1 := by omega
  have b3 : (bits .and .u64 (x : Int) 65536 != 0) = decide (F = 1) := by
    have a3 : bits .and .u64 (x : Int) 65536 = ((65536 * F : Nat) : Int) := a3
    rw [a3]
    rcases F2 with rfl | rfl <;> rfl
  have b4 : (bits .and .u64 (x : Int) 131072 != 0) = decide (L = 1) := by
    have a4 : bits .and .u64 (x : Int) 131072 = ((131072 * L : Nat) : Int) := a4
    rw [a4]
    rcases L2 with rfl | rfl <;> rfl
  obtain ⟨f, hf⟩ : ∃ f, decide (F = 1) = f := ⟨_, rfl⟩
  obtain ⟨l, hl⟩ : ∃ l, decide (L = 1) = l := ⟨_, rfl⟩
  rw [hf] at b3 hc1
  rw [hl] at b4 hc1
  have h1 := h.new (.cells #[.int .i64 0, .int .i64 0, .bool false, .bool false] 48)
  have h2 := h1.new (.cells #[.int .i64 A, .int .i64 B, .bool f, .bool l] 48)
  simp only [World.size_alloc] at h2
  obtain ⟨g, hg⟩ : ∃ g, w.heap.size = g := ⟨_, rfl⟩
  rw [hg] at h1 h2
  have c1 := h1.cell List.mem_cons_self
  have f1 := h1.frozen List.mem_cons_self
  clear hA hQ hB hF hL hf hl a3 a4 F2 L2 hx
  by_cases hbig : x < 262144
  · have hc := hc1 hbig
    have hx : decide ((262144 : Int) ≤ x) = false := decide_eq_false (by omega)
    have hm := fun ws (hs : Own W ((g + 1, Obj.cells #[.int .i64 A, .int .i64 B, .bool f, .bool l] 48 (0, 0)) :: (g, Obj.cells #[.int .i64 0, .int .i64 0, .bool false, .bool false] 48 (0, 0)) :: m) ws) => may_spec hs A B f l
    cases hmay : mayB A B f l with
    | true =>
      rw [hmay] at hc hm
      simp only [if_true] at hc
      have HM := Lib.hid hm
      rw [hc]
      clear hc hbig hc1 hc2 hm hmay
      go_enter Try.func57, Try.ntmps57
      go_wp2_with fail
      refine (HM.out _ h2).mono ?_
      rintro e w3 ⟨rfl, h3⟩
      have q := h3.cell List.mem_cons_self
      have u := h3.frozen (List.mem_cons_of_mem _ List.mem_cons_self)
      have q0 := q 0
      have q1 := q 1
      have q2 := q 2
      have q3 := q 3
      have u0 := u 0
      have u1 := u 1
      have u2 := u 2
      have u3 := u 3
      simp at q0 q1 q2 q3
      have z := h3.cell (List.mem_cons_of_mem _ List.mem_cons_self)
      have z0 := z 0
      have z1 := z 1
      have z2 := z 2
      have z3 := z 3
      simp at z0 z1 z2 z3
      clear q u z b3 b4 a1 a2 hd
      go_wp2_with fail
      have h4 : Own W ([(g + 1, Obj.cells #[.int .i64 A, .int .i64 B, .bool f, .bool l] 48 (0, 0))] ++ (g, Obj.cells #[.int .i64 0, .int .i64 0, .bool false, .bool false] 48 (0, 0)) :: m) w3 := h3
      have h5 := (((h4.setIn 0 (.int .i64 A)).setIn 1 (.int .i64 B)).setIn 2 (.bool f)).setIn 3 (.bool l)
      have ec := h5.cell (List.mem_append_right _ List.mem_cons_self)
      have e0 := ec 0
      have e1 := ec 1
      have e2 := ec 2
      have e3 := ec 3
      simp at e0 e1 e2 e3
      exact bodyPost_ret (v := .tuple #[.agg #[(.int .i64 A), (.int .i64 B), (.bool f), (.bool l)], .bool true]) (by simp [results, Try.f57, go_sem, e0, e1, e2, e3]) rfl ⟨rfl, h5.drop1.dropL⟩
    | false =>
      rw [hmay] at hc hm
      simp only [Bool.false_eq_true, if_false] at hc
      have HM := Lib.hid hm
      rw [hc]
      clear hc hbig hc1 hc2 hm hmay
      go_enter Try.func57, Try.ntmps57
      go_wp2_with fail
      refine (HM.out _ h2).mono ?_
      rintro e w3 ⟨rfl, h3⟩
      have q := h3.cell List.mem_cons_self
      have u := h3.frozen (List.mem_cons_of_mem _ List.mem_cons_self)
      have q0 := q 0
      have q1 := q 1
      have q2 := q 2
      have q3 := q 3
      have u0 := u 0
      have u1 := u 1
      have u2 := u 2
      have u3 := u 3
      simp at q0 q1 q2 q3
      have z := h3.cell (List.mem_cons_of_mem _ List.mem_cons_self)
      have z0 := z 0
      have z1 := z 1
      have z2 := z 2
      have z3 := z 3
      simp at z0 z1 z2 z3
      clear q u z b3 b4 a1 a2 hd
      go_wp2_with fail
      have h4 : Own W ([(g + 1, Obj.cells #[.int .i64 A, .int .i64 B, .bool f, .bool l] 48 (0, 0))] ++ (g, Obj.cells #[.int .i64 0, .int .i64 0, .bool false, .bool false] 48 (0, 0)) :: m) w3 := h3
      have h5 := (((h4.setIn 0 (.int .i64 0)).setIn 1 (.int .i64 0)).setIn 2 (.bool false)).setIn 3 (.bool false)
      have ec := h5.cell (List.mem_append_right _ List.mem_cons_self)
      have e0 := ec 0
      have e1 := ec 1
      have e2 := ec 2
      have e3 := ec 3
      simp at e0 e1 e2 e3
      exact bodyPost_ret (v := .tuple #[.agg #[(.int .i64 0), (.int .i64 0), (.bool false), (.bool false)], .bool false]) (by simp [results, Try.f57, go_sem, e0, e1, e2, e3]) rfl ⟨rfl, h5.drop1.dropL⟩
  · have hc := hc2 (by omega)
    have hx : ¬ (x : Int) < 262144 := by omega
    rw [hc]
    clear hc hbig hc1 hc2
    go_enter Try.func57, Try.ntmps57
    go_wp2_with fail
    have ec := h2.cell (List.mem_cons_of_mem _ List.mem_cons_self)
    have e0 := ec 0
    have e1 := ec 1
    have e2 := ec 2
    have e3 := ec 3
    simp at e0 e1 e2 e3
    exact bodyPost_ret (v := .tuple #[.agg #[.int .i64 0, .int .i64 0, .bool false, .bool false], .bool false]) (by simp [results, Try.f57, go_sem, e0, e1, e2, e3]) rfl ⟨rfl, h2.skip.skip⟩
end
end Go.Proofs.Ytmfemophafncnaa.See

/-
  Contract: a slab (reader.slab). No condition.
-/
namespace Go.Proofs.Ytmfemophafncnaa.See
open Go.RowKit
open chartPlaces (Ok)
attribute [local go_sem ↓] Go.wp_at_zero Go.wp_at_succ
section
variable {W w : World} {M m : List (Nat × Obj)} {B o N k b : Nat} {g : List Nat} {c : Ch} {d e : Int}
/-- what slab answers -/
def SlabPost (W : World) (m : List (Nat × Obj)) (r : Option SlabP) (e : Ending) (w' : World) : Prop := match r with
  | some x => ∃ v bs, e = .returned (.tuple #[.agg #[.int .i64 x.counts.inuse, .int .i64 x.counts.objects, .bool x.counts.frozen, .bool x.counts.live, v], .bool true]) ∧ Hid (IntsOwn true v x.first bs) ∧ Own W (bs ++ m) w'
  | none => e = .returned (.tuple #[.agg #[.int .i64 0, .int .i64 0, .bool false, .bool false, .slice none 0 0], .bool false]) ∧ Own W m w'
/-- a slab's block -/
def lBlk (b : Nat) (a o : Int) (f l : Bool) (v : Value) : Nat × Obj := (b, .cells #[.int .i64 a, .int .i64 o, .bool f, .bool l, v] 50)
theorem box5 {b : Nat} {a o : Int} {f l : Bool} {v : Value} (h : Own W (lBlk b a o f l v :: m) w) : (w.cell? ⟨b, 0, none⟩ = some (.int .i64 a) ∧ w.cell? ⟨b, 1, none⟩ = some (.int .i64 o) ∧ w.cell? ⟨b, 2, none⟩ = some (.bool f) ∧ w.cell? ⟨b, 3, none⟩ = some (.bool l) ∧ w.cell? ⟨b, 4, none⟩ = some v) ∧ (w.frozen? ⟨b, 0, none⟩ = false ∧ w.frozen? ⟨b, 1, none⟩ = false ∧ w.frozen? ⟨b, 2, none⟩ = false ∧ w.frozen? ⟨b, 3, none⟩ = false ∧ w.frozen? ⟨b, 4, none⟩ = false) :=
  ⟨⟨h.cell List.mem_cons_self 0, h.cell List.mem_cons_self 1, h.cell List.mem_cons_self 2, h.cell List.mem_cons_self 3, h.cell List.mem_cons_self 4⟩, ⟨h.frozen List.mem_cons_self 0, h.frozen List.mem_cons_self 1, h.frozen List.mem_cons_self 2, h.frozen List.mem_cons_self 3, h.frozen List.mem_cons_self 4⟩⟩
theorem lset {b : Nat} {a o a' o' : Int} {f l f' l' : Bool} {v v' : Value} (h : Own W (lBlk b a o f l v :: m) w) : Own W (lBlk b a' o' f' l' v' :: m) (((((w.setCell ⟨b, 0, none⟩ (.int .i64 a')).setCell ⟨b, 1, none⟩ (.int .i64 o')).setCell ⟨b, 2, none⟩ (.bool f')).setCell ⟨b, 3, none⟩ (.bool l')).setCell ⟨b, 4, none⟩ v') := by
  have h1 := ((((h.set 0 (.int .i64 a')).set 1 (.int .i64 o')).set 2 (.bool f')).set 3 (.bool l')).set 4 v'
  exact h1
theorem lset4 {b : Nat} {a o a' o' : Int} {f l f' l' : Bool} {v : Value} (h : Own W (lBlk b a o f l v :: m) w) : Own W (lBlk b a' o' f' l' v :: m) ((((w.setCell ⟨b, 0, none⟩ (.int .i64 a')).setCell ⟨b, 1, none⟩ (.int .i64 o')).setCell ⟨b, 2, none⟩ (.bool f')).setCell ⟨b, 3, none⟩ (.bool l')) := by
  have h1 := (((h.set 0 (.int .i64 a')).set 1 (.int .i64 o')).set 2 (.bool f')).set 3 (.bool l')
  exact h1
theorem lsetv {b : Nat} {a o : Int} {f l : Bool} {v v' : Value} (h : Own W (lBlk b a o f l v :: m) w) : Own W (lBlk b a o f l v' :: m) (w.setCell ⟨b, 4, none⟩ v') := h.set 4 v'
set_option maxRecDepth 100000 in
set_option maxHeartbeats 4000000 in
theorem rslab_spec (h : Own W m w) (hc : COk c d e) (hw : WOk W m B o N k g c) (s : Nat) (hs : s < c.S) :
    Calls Try.prog 30 #[rV B o N k c d e, .int .i64 s] w (SlabPost W m (slabP c g s)) := by
  obtain ⟨n1, n2, n3, n4, n5, n6⟩ := hc.nums
  have h1 := (h.new (.cells #[.slice (some ⟨B, o, none⟩) N k, .int .i64 c.C, .int .i64 c.S, .int .i64 c.O, .int .i64 d, .int .i64 e, .int .u64 c.key] 66)).new (.cells #[.int .i64 0, .int .i64 0, .bool false, .bool false, .slice none 0 0] 50)
  obtain ⟨b, hb⟩ : ∃ b, w.heap.size = b := ⟨_, rfl⟩
  simp only [World.size_alloc] at h1
  rw [hb] at h1
  have h1 : Own W (lBlk (b + 1) 0 0 false false (.slice none 0 0) :: (rBlk b B o N k c d e :: m)) _ := h1
  obtain ⟨y0, y1, y2, y3, y4, y5, y6⟩ := box7 h1.skip
  have hN := hw.n
  unfold Ch.words at hN
  have hii : 0 ≤ (s : Int) ∧ (s : Int) < (c.S : Int) := by omega
  obtain ⟨p, hp⟩ : ∃ p : Nat, 4 * c.C + 4 + 4 * s = p := ⟨_, rfl⟩
  have hpi : 4 * (c.C : Int) + 4 + 4 * (s : Int) = (p : Int) := by omega
  have HPI := Lib.hid hpi
  have hpN : p + 1 < N := by omega
  have hp0 : (0 : Int) ≤ (p : Int) := by omega
  have hp1 : (p : Int) < (N : Int) := by omega
  have hp2 : (p : Int) + 1 < (N : Int) := by omega
  have hp5 : (0 : Int) ≤ (p : Int) + 1 := by omega
  have hpb : p ≤ 200 := by omega
  obtain ⟨x0, hx0⟩ : ∃ x, g[p]? = some x := ⟨_, List.getElem?_eq_getElem (by rw [hw.len]; omega)⟩
  obtain ⟨x1, hx1⟩ : ∃ x, g[p + 1]? = some x := ⟨_, List.getElem?_eq_getElem (by rw [hw.len]; omega)⟩
  have a0 : at_ g (4 * c.C + 4 + 4 * s) = x0 := by unfold at_; rw [hp, List.getD_eq_getElem?_getD, hx0]; rfl
  have a1 : at_ g (4 * c.C + 4 + 4 * s + 1) = x1 := by unfold at_; rw [hp, List.getD_eq_getElem?_getD, hx1]; rfl
  have hcs := fun ws (hws : Own W (lBlk (b + 1) 0 0 false false (.slice none 0 0) :: (rBlk b B o N k c d e :: m)) ws) => counts_spec hws x1 (hw.w64 x1 (List.mem_of_getElem? hx1))
  have HG : Hid (∀ ws, Own W m ws → ws.cell? ⟨B, o + p, none⟩ = some (.int .u64 (x0 : Int)) ∧ ws.cell? ⟨B, o + (p + 1), none⟩ = some (.int .u64 (x1 : Int))) := fun ws hws => ⟨hw.rd ws hws p x0 hx0, hw.rd ws hws (p + 1) x1 hx1⟩
  unfold slabP
  rw [a0, a1]
  unfold countsV at hcs
  have HC := Lib.hid hc
  have HW := Lib.hid hw
  have HI := Lib.hid hii
  have H1 := Lib.hid h1
  clear hN hp hpi hx0 hx1 a0 a1 hw hc hii h1 h
-- BODY
  cases hh : countsOf x1 with
  | none =>
    rw [hh] at hcs
    have HH := Lib.hid hcs
    simp only
    clear hh hcs
    unfold rV
    go_enter Try.func30, Try.ntmps30
    go_wp2_with fail
    refine (Apart.first_ok HC.out.ok HI.out H1.out).mono ?_
    rintro r w2 ⟨rfl, h2⟩
    rw [HPI.out]
    clear y0 y1 y2 y3 y4 y5 y6
    obtain ⟨y0, y1, y2, y3, y4, y5, y6⟩ := box7 h2.skip
    obtain ⟨q0, q1⟩ := HG.out _ h2.skip.skip
    go_wp2_with fail
    refine (HH.out _ h2).mono ?_
    rintro r w3 ⟨rfl, h3⟩
    clear y0 y1 y2 y3 y4 y5 y6 q0 q1
    obtain ⟨y0, y1, y2, y3, y4, y5, y6⟩ := box7 h3.skip
    obtain ⟨q0, q1⟩ := HG.out _ h3.skip.skip
    obtain ⟨⟨z0, z1, z2, z3, z4⟩, ⟨f0, f1, f2, f3, f4⟩⟩ := box5 h3
    go_wp2_with fail
    have h8 := lset4 (a' := 0) (o' := 0) (f' := false) (l' := false) h3
    have h9 := lset (a' := 0) (o' := 0) (f' := false) (l' := false) (v' := (.slice none 0 0)) h8
    obtain ⟨⟨e0, e1, e2, e3, e4⟩, -⟩ := box5 h9
    exact bodyPost_ret (v := .tuple #[.agg #[.int .i64 0, .int .i64 0, .bool false, .bool false, (.slice none 0 0)], .bool false]) (by simp [results, Try.f30, go_sem, e0, e1, e2, e3, e4]) rfl ⟨rfl, h9.skip.skip⟩
  | some v =>
    obtain ⟨n0, n1', fr, li⟩ := v
    rw [hh] at hcs
    simp only at hcs ⊢
    have HH := Lib.hid hcs
    clear hh hcs
    by_cases hbig : c.O < x0
    · have hbi : (c.O : Int) < (x0 : Int) := by omega
      rw [if_pos hbig]
      unfold rV
      go_enter Try.func30, Try.ntmps30
      go_wp2_with fail
      refine (Apart.first_ok HC.out.ok HI.out H1.out).mono ?_
      rintro r w2 ⟨rfl, h2⟩
      rw [HPI.out]
      clear y0 y1 y2 y3 y4 y5 y6
      obtain ⟨y0, y1, y2, y3, y4, y5, y6⟩ := box7 h2.skip
      obtain ⟨q0, q1⟩ := HG.out _ h2.skip.skip
      go_wp2_with fail
      refine (HH.out _ h2).mono ?_
      rintro r w3 ⟨rfl, h3⟩
      clear y0 y1 y2 y3 y4 y5 y6 q0 q1
      obtain ⟨y0, y1, y2, y3, y4, y5, y6⟩ := box7 h3.skip
      obtain ⟨q0, q1⟩ := HG.out _ h3.skip.skip
      obtain ⟨⟨z0, z1, z2, z3, z4⟩, ⟨f0, f1, f2, f3, f4⟩⟩ := box5 h3
      go_wp2_with fail
      have h8 := lset4 (a' := (n0 : Int)) (o' := (n1' : Int)) (f' := fr) (l' := li) h3
      have h9 := lset (a' := 0) (o' := 0) (f' := false) (l' := false) (v' := (.slice none 0 0)) h8
      obtain ⟨⟨e0, e1, e2, e3, e4⟩, -⟩ := box5 h9
      exact bodyPost_ret (v := .tuple #[.agg #[.int .i64 0, .int .i64 0, .bool false, .bool false, (.slice none 0 0)], .bool false]) (by simp [results, Try.f30, go_sem, e0, e1, e2, e3, e4]) rfl ⟨rfl, h9.skip.skip⟩
    · have hbi : ¬ (c.O : Int) < (x0 : Int) := by omega
      have hx16 : (x0 : Int) ≤ 16 := by omega
      rw [if_neg hbig]
      have hrl := fun ws (hws : Own W (lBlk (b + 1) n0 n1' fr li (.slice none 0 0) :: (rBlk b B o N k c d e :: m)) ws) => rlist_spec hws HC.out ((HW.out.more (m' := [rBlk b B o N k c d e])).more (m' := [lBlk (b + 1) n0 n1' fr li (.slice none 0 0)])) s hs ((x0 : Int) - 1) (by omega)
      cases hl : listP c g s ((x0 : Int) - 1) with
      | none =>
        rw [hl] at hrl
        have HRL := Lib.hid hrl
        simp only
        clear hl hrl
        unfold rV
        go_enter Try.func30, Try.ntmps30
        go_wp2_with fail
        refine (Apart.first_ok HC.out.ok HI.out H1.out).mono ?_
        rintro r w2 ⟨rfl, h2⟩
        rw [HPI.out]
        clear y0 y1 y2 y3 y4 y5 y6
        obtain ⟨y0, y1, y2, y3, y4, y5, y6⟩ := box7 h2.skip
        obtain ⟨q0, q1⟩ := HG.out _ h2.skip.skip
        go_wp2_with fail
        refine (HH.out _ h2).mono ?_
        rintro r w3 ⟨rfl, h3⟩
        clear y0 y1 y2 y3 y4 y5 y6 q0 q1
        obtain ⟨y0, y1, y2, y3, y4, y5, y6⟩ := box7 h3.skip
        obtain ⟨q0, q1⟩ := HG.out _ h3.skip.skip
        obtain ⟨⟨z0, z1, z2, z3, z4⟩, ⟨f0, f1, f2, f3, f4⟩⟩ := box5 h3
        go_wp2_with fail
        have h4 := lset4 (a' := (n0 : Int)) (o' := (n1' : Int)) (f' := fr) (l' := li) h3
        refine (HRL.out _ h4).mono ?_
        rintro r w6 ⟨rfl, h6⟩
        clear y0 y1 y2 y3 y4 y5 y6 q0 q1 z0 z1 z2 z3 z4 f0 f1 f2 f3 f4 h2 h3 h4
        obtain ⟨⟨z0, z1, z2, z3, z4⟩, ⟨f0, f1, f2, f3, f4⟩⟩ := box5 h6
        go_wp2_with fail
        have h8 := lsetv (v' := .slice none 0 0) h6
        have h9 := lset (a' := 0) (o' := 0) (f' := false) (l' := false) (v' := (.slice none 0 0)) h8
        obtain ⟨⟨e0, e1, e2, e3, e4⟩, -⟩ := box5 h9
        exact bodyPost_ret (v := .tuple #[.agg #[.int .i64 0, .int .i64 0, .bool false, .bool false, (.slice none 0 0)], .bool false]) (by simp [results, Try.f30, go_sem, e0, e1, e2, e3, e4]) rfl ⟨rfl, h9.skip.skip⟩
      | some l1 =>
        rw [hl] at hrl
        have HRL := Lib.hid hrl
        simp only
        clear hl hrl
        unfold rV
        go_enter Try.func30, Try.ntmps30
        go_wp2_with fail
        refine (Apart.first_ok HC.out.ok HI.out H1.out).mono ?_
        rintro r w2 ⟨rfl, h2⟩
        rw [HPI.out]
        clear y0 y1 y2 y3 y4 y5 y6
        obtain ⟨y0, y1, y2, y3, y4, y5, y6⟩ := box7 h2.skip
        obtain ⟨q0, q1⟩ := HG.out _ h2.skip.skip
        go_wp2_with fail
        refine (HH.out _ h2).mono ?_
        rintro r w3 ⟨rfl, h3⟩
        clear y0 y1 y2 y3 y4 y5 y6 q0 q1
        obtain ⟨y0, y1, y2, y3, y4, y5, y6⟩ := box7 h3.skip
        obtain ⟨q0, q1⟩ := HG.out _ h3.skip.skip
        obtain ⟨⟨z0, z1, z2, z3, z4⟩, ⟨f0, f1, f2, f3, f4⟩⟩ := box5 h3
        go_wp2_with fail
        have h4 := lset4 (a' := (n0 : Int)) (o' := (n1' : Int)) (f' := fr) (l' := li) h3
        refine (HRL.out _ h4).mono ?_
        rintro r w6 ⟨v7, b7, rfl, K7, h6⟩
        obtain ⟨A7, c7, hv7, -, -⟩ := K7.out.slice
        subst hv7
        clear y0 y1 y2 y3 y4 y5 y6 q0 q1 z0 z1 z2 z3 z4 f0 f1 f2 f3 f4 h2 h3 h4
        have h7 : Own W (lBlk (b + 1) n0 n1' fr li (.slice none 0 0) :: (b7 ++ (rBlk b B o N k c d e :: m))) w6 := h6.perm List.perm_middle
        obtain ⟨⟨z0, z1, z2, z3, z4⟩, ⟨f0, f1, f2, f3, f4⟩⟩ := box5 h7
        go_wp2_with fail
        have h8 := lsetv (v' := .slice A7 l1.length c7) h7
        have h9 := lset (a' := (n0 : Int)) (o' := (n1' : Int)) (f' := fr) (l' := li) (v' := (.slice A7 l1.length c7)) h8
        obtain ⟨⟨e0, e1, e2, e3, e4⟩, -⟩ := box5 h9
        exact bodyPost_ret (v := .tuple #[.agg #[.int .i64 (n0 : Int), .int .i64 (n1' : Int), .bool fr, .bool li, (.slice A7 l1.length c7)], .bool true]) (by simp [results, Try.f30, go_sem, e0, e1, e2, e3, e4]) rfl ⟨_, b7, rfl, K7, h9.skip.drop1⟩
-- BODYEND
end
end Go.Proofs.Ytmfemophafncnaa.See

/-
  A core that was seen: what its value owns; append of its parts. No condition.
-/
namespace Go.Proofs.Ytmfemophafncnaa.See
open Go.RowKit
theorem slot_info : (Try.prog.info? 68).map (fun i => (i.zero, i.size, i.bytes)) = some (some (.agg #[.int .i64 0, .slice none 0 0, .int .u64 0, .slice none 0 0]), 4, 64) := by kernel_rfl
theorem slab_info : (Try.prog.info? 50).map (fun i => (i.zero, i.size, i.bytes)) = some (some (.agg #[.int .i64 0, .int .i64 0, .bool false, .bool false, .slice none 0 0]), 5, 48) := by kernel_rfl
/-- a slot, with what it owns -/
structure SlotN where
  x : SlotP
  lv : Value
  lb : List (Nat × Obj)
  pv : Value
  pb : List (Nat × Obj)
def SlotN.cells (s : SlotN) : List Value := [.int .i64 s.x.slab, s.lv, .int .u64 s.x.turn, s.pv]
def slotCells (L : List SlotN) : List Value := L.flatMap SlotN.cells
def slotBlocks (L : List SlotN) : List (Nat × Obj) := L.flatMap fun s => s.lb ++ s.pb
def SlotsOk (L : List SlotN) : Prop := ∀ s ∈ L, IntsOwn true s.lv s.x.list s.lb ∧ IntsOwn true s.pv s.x.parts s.pb
/-- a slab, with what it owns -/
structure SlabN where
  x : SlabP
  v : Value
  b : List (Nat × Obj)
def SlabN.cells (s : SlabN) : List Value := [.int .i64 s.x.counts.inuse, .int .i64 s.x.counts.objects, .bool s.x.counts.frozen, .bool s.x.counts.live, s.v]
def slabCells (L : List SlabN) : List Value := L.flatMap SlabN.cells
def slabBlocks (L : List SlabN) : List (Nat × Obj) := L.flatMap SlabN.b
def SlabsOk (L : List SlabN) : Prop := ∀ s ∈ L, IntsOwn true s.v s.x.first s.b
theorem slotCells_append (a b : List SlotN) : slotCells (a ++ b) = slotCells a ++ slotCells b := by simp [slotCells]
theorem slabCells_append (a b : List SlabN) : slabCells (a ++ b) = slabCells a ++ slabCells b := by simp [slabCells]
theorem slotBlocks_append (a b : List SlotN) : slotBlocks (a ++ b) = slotBlocks a ++ slotBlocks b := by simp [slotBlocks]
theorem slabBlocks_append (a b : List SlabN) : slabBlocks (a ++ b) = slabBlocks a ++ slabBlocks b := by simp [slabBlocks]
abbrev SlotsV (v : Value) (L : List SlotN) (bs : List (Nat × Obj)) : Prop := SlO true 68 4 v L.length (slotCells L) bs
abbrev SlabsV (v : Value) (L : List SlabN) (bs : List (Nat × Obj)) : Prop := SlO true 50 5 v L.length (slabCells L) bs
/-- a core's value -/
def CoreO (v : Value) (K : CoreP) (bs : List (Nat × Obj)) : Prop := ∃ (Ls : List SlotN) (sv : Value) (b0 : List (Nat × Obj)) (hv : Value) (b1 : List (Nat × Obj)) (Ll : List SlabN) (lv : Value) (b2 : List (Nat × Obj)),
  v = .agg #[sv, hv, .bool K.locked, lv] ∧ Ls.map (·.x) = K.slots ∧ SlotsOk Ls ∧ SlotsV sv Ls b0 ∧ IntsOwn true hv K.shelf b1 ∧ Ll.map (·.x) = K.slabs ∧ SlabsOk Ll ∧ SlabsV lv Ll b2 ∧ bs = b0 ++ (slotBlocks Ls ++ (b1 ++ (b2 ++ slabBlocks Ll)))
section
variable {P : Program} {W w : World} {m bs : List (Nat × Obj)} {v xv : Value} {xs news : List Value} {e size n k bytes : Nat}
/-- append, of structs of any cells -/
theorem app_struct {ops : Array Oper} {rest : List Oper} {o : Oper} {a : Act} {Q : Exit → Act → World → Prop} (hgd : o.guard = none) (s x : Operand) (t : TypeId)
    (ho : o.op = .call { callee := .builtin .append, args := #[s, x], argTypes := #[t, t] }) (hes : a.eval s = v) (hex : a.eval x = xv)
    (z : Value) (hinfo : (P.info? e).map (fun i => (i.zero, i.size, i.bytes)) = some (some z, size, bytes)) (ht : P.underlying t = some (.slice e)) (hzs : z.cells.size = size) (hsz : 0 < size) (hb : bytes ≤ 200)
    (hs : SlO true e size v n xs bs) (hO : Own W (bs ++ m) w) (hx : Src w size xv k news) (h1 : ∀ u ∈ news, u.oneCell' = true) (hlen : n + k ≤ 60000)
    (h : ∀ v' w' bs', SlO true e size v' (n + k) (xs ++ news) bs' → Own W (bs' ++ m) w' → wpList P ops Q rest (a.put o.dst v') w') :
    wpList P ops Q (o :: rest) a w := by
  obtain ⟨i, hi, hz, hsz', hby⟩ := info_get hinfo
  have hbb : (n + k) * bytes ≤ 60000 * 200 := Nat.mul_le_mul hlen hb
  exact wpList_app hgd s x t ho hes hex e i z size bytes ht hi hz hsz' hby hzs hsz hs hO hx h1 (by unfold maxLen; omega) (by omega) fun v' w' bs' h1 h2 _ => h v' w' bs' h1 h2
/-- a struct that the code writes down, in a block of its own -/
theorem src_vals (w : World) (e : TypeId) (l : List Value) : Src (w.alloc (.cells l.toArray e)) l.length (.slice (some ⟨w.heap.size, 0, none⟩) 1 1) 1 l := by
  refine ⟨by simp, .inr ⟨_, _, rfl, fun j u hj => ?_⟩⟩
  rw [add_lit0]
  simp [hj]
theorem IntsOwn.one {ex : Bool} {v : Value} {l : List Int} {b : List (Nat × Obj)} (h : IntsOwn ex v l b) : v.oneCell' = true := by
  obtain ⟨A, c, rfl, -, -⟩ := SlO.slice h
  rfl
end
end Go.Proofs.Ytmfemophafncnaa.See

/-
  Contract: chart.See. No condition.
-/
namespace Go.Proofs.Ytmfemophafncnaa.See
open Go.RowKit
open Apart (chV chB box6 ChAt)
open chartPlaces (Ok)
attribute [local go_sem ↓] Go.wp_at_zero Go.wp_at_succ
/-- a core's block -/
def kBlk (b : Nat) (sv hv : Value) (l : Bool) (lv : Value) : Nat × Obj := (b, .cells #[sv, hv, .bool l, lv] 34)
section
variable {W w : World} {M m : List (Nat × Obj)} {B o N k b : Nat} {g : List Nat} {c : Ch} {d e : Int}
theorem boxK {b : Nat} {sv hv lv : Value} {l : Bool} (h : Own W (kBlk b sv hv l lv :: m) w) : (w.cell? ⟨b, 0, none⟩ = some sv ∧ w.cell? ⟨b, 1, none⟩ = some hv ∧ w.cell? ⟨b, 2, none⟩ = some (.bool l) ∧ w.cell? ⟨b, 3, none⟩ = some lv) ∧ (w.frozen? ⟨b, 0, none⟩ = false ∧ w.frozen? ⟨b, 1, none⟩ = false ∧ w.frozen? ⟨b, 2, none⟩ = false ∧ w.frozen? ⟨b, 3, none⟩ = false) :=
  ⟨⟨h.cell List.mem_cons_self 0, h.cell List.mem_cons_self 1, h.cell List.mem_cons_self 2, h.cell List.mem_cons_self 3⟩, ⟨h.frozen List.mem_cons_self 0, h.frozen List.mem_cons_self 1, h.frozen List.mem_cons_self 2, h.frozen List.mem_cons_self 3⟩⟩
theorem kset {b : Nat} {sv hv lv sv' hv' lv' : Value} {l l' : Bool} (h : Own W (kBlk b sv hv l lv :: m) w) : Own W (kBlk b sv' hv' l' lv' :: m) ((((w.setCell ⟨b, 0, none⟩ sv').setCell ⟨b, 1, none⟩ hv').setCell ⟨b, 2, none⟩ (.bool l')).setCell ⟨b, 3, none⟩ lv') := by
  have h1 := (((h.set 0 sv').set 1 hv').set 2 (.bool l')).set 3 lv'
  exact h1
theorem upto_step {α : Type} {f : Nat → Option α} {n : Nat} {l : List α} {x : α} (h : upto f n = some l) (hx : f n = some x) : upto f (n + 1) = some (l ++ [x]) := by
  unfold upto
  rw [h, hx]
theorem see_perm1 {α : Type} (a b c d : List α) : (a ++ (b ++ (c ++ d))).Perm (c ++ (a ++ (b ++ d))) :=
  (List.Perm.append_left a (perm_swap b c d)).trans (perm_swap a c _)
theorem see_perm2 {α : Type} (a b c d : List α) (x : α) (e : List α) : (a ++ (b ++ (c ++ (d ++ x :: e)))).Perm (x :: (a ++ (b ++ (c ++ (d ++ e))))) := by
  have h : ∀ (l : List α) (m : List α), m.Perm (x :: e) → (l ++ m).Perm (x :: (l ++ e)) := fun l m hm => (List.Perm.append_left l hm).trans List.perm_middle
  have h1 : (d ++ x :: e).Perm (x :: (d ++ e)) := List.perm_middle
  have h2 : (c ++ (d ++ x :: e)).Perm (x :: (c ++ (d ++ e))) := (List.Perm.append_left c h1).trans List.perm_middle
  have h3 : (b ++ (c ++ (d ++ x :: e))).Perm (x :: (b ++ (c ++ (d ++ e)))) := (List.Perm.append_left b h2).trans List.perm_middle
  exact (List.Perm.append_left a h3).trans List.perm_middle
theorem see_perm3 (a lb pb : List (Nat × Obj)) (Ls : List SlotN) (y : Nat × Obj) (e : List (Nat × Obj)) {x : SlotP} {lv pv : Value} : (y :: (a ++ (lb ++ (pb ++ (slotBlocks Ls ++ e))))).Perm (a ++ ((slotBlocks Ls ++ slotBlocks [⟨x, lv, lb, pv, pb⟩]) ++ y :: e)) := by
  have e1 : slotBlocks [⟨x, lv, lb, pv, pb⟩] = lb ++ pb := by simp [slotBlocks]
  rw [e1]
  have h1 : (lb ++ (pb ++ (slotBlocks Ls ++ e))).Perm (slotBlocks Ls ++ (lb ++ (pb ++ e))) := (List.Perm.append_left lb (perm_swap pb _ e)).trans (perm_swap lb _ _)
  have h2 : ((slotBlocks Ls ++ (lb ++ pb)) ++ y :: e).Perm (y :: ((slotBlocks Ls ++ (lb ++ pb)) ++ e)) := List.perm_middle
  have h3 : ((slotBlocks Ls ++ (lb ++ pb)) ++ e) = slotBlocks Ls ++ (lb ++ (pb ++ e)) := by simp [List.append_assoc]
  rw [h3] at h2
  refine (List.Perm.cons y (List.Perm.append_left a h1)).trans ?_
  exact (List.perm_middle.symm).trans (List.Perm.append_left a h2.symm)
theorem kset0 {b : Nat} {sv hv lv sv' : Value} {l : Bool} (h : Own W (kBlk b sv hv l lv :: m) w) : Own W (kBlk b sv' hv l lv :: m) (w.setCell ⟨b, 0, none⟩ sv') := h.set 0 sv'
theorem kset1 {b : Nat} {sv hv lv hv' : Value} {l : Bool} (h : Own W (kBlk b sv hv l lv :: m) w) : Own W (kBlk b sv hv' l lv :: m) (w.setCell ⟨b, 1, none⟩ hv') := h.set 1 hv'
theorem kset3 {b : Nat} {sv hv lv lv' : Value} {l : Bool} (h : Own W (kBlk b sv hv l lv :: m) w) : Own W (kBlk b sv hv l lv' :: m) (w.setCell ⟨b, 3, none⟩ lv') := h.set 3 lv'
theorem see_perm4 {α : Type} (a b c : List α) (x y z u : α) (m : List α) : (a ++ (b ++ (c ++ (x :: (y :: (z :: (u :: m))))))).Perm (x :: (y :: (z :: (u :: (a ++ (b ++ (c ++ m))))))) := by
  have h1 : (c ++ ([x, y, z, u] ++ m)).Perm ([x, y, z, u] ++ (c ++ m)) := perm_swap _ _ _
  have h2 : (b ++ ([x, y, z, u] ++ (c ++ m))).Perm ([x, y, z, u] ++ (b ++ (c ++ m))) := perm_swap _ _ _
  have h3 : (a ++ ([x, y, z, u] ++ (b ++ (c ++ m)))).Perm ([x, y, z, u] ++ (a ++ (b ++ (c ++ m)))) := perm_swap _ _ _
  exact (List.Perm.append_left a ((List.Perm.append_left b h1).trans h2)).trans h3
theorem see_perm5 {α : Type} (a b c : List α) (x : α) (e : List α) : (a ++ (b ++ (c ++ x :: e))).Perm (x :: (a ++ (b ++ (c ++ e)))) := by
  have h1 : (c ++ x :: e).Perm (x :: (c ++ e)) := List.perm_middle
  have h2 : (b ++ (c ++ x :: e)).Perm (x :: (b ++ (c ++ e))) := (List.Perm.append_left b h1).trans List.perm_middle
  exact (List.Perm.append_left a h2).trans List.perm_middle
theorem see_perm6 (a lb : List (Nat × Obj)) (Ll : List SlabN) (y : Nat × Obj) (e : List (Nat × Obj)) {x : SlabP} {v : Value} : (y :: (a ++ (lb ++ (slabBlocks Ll ++ e)))).Perm (a ++ ((slabBlocks Ll ++ slabBlocks [⟨x, v, lb⟩]) ++ y :: e)) := by
  have e1 : slabBlocks [⟨x, v, lb⟩] = lb := by simp [slabBlocks]
  rw [e1]
  have h1 : (lb ++ (slabBlocks Ll ++ e)).Perm (slabBlocks Ll ++ (lb ++ e)) := perm_swap lb _ e
  have h2 : ((slabBlocks Ll ++ lb) ++ y :: e).Perm (y :: ((slabBlocks Ll ++ lb) ++ e)) := List.perm_middle
  rw [List.append_assoc (slabBlocks Ll) lb e] at h2
  refine (List.Perm.cons y (List.Perm.append_left a h1)).trans ?_
  exact (List.perm_middle.symm).trans (List.Perm.append_left a h2.symm)
theorem see_perm7 {α : Type} (a l : List α) (x y z : α) (e : List α) : (a ++ (l ++ (x :: (y :: (z :: e))))).Perm (z :: (a ++ (l ++ (x :: (y :: e))))) := by
  have h1 : (x :: (y :: (z :: e))).Perm (z :: (x :: (y :: e))) := (List.Perm.cons x (List.Perm.swap _ _ _)).trans (List.Perm.swap _ _ _)
  have h2 : (l ++ (x :: (y :: (z :: e)))).Perm (z :: (l ++ (x :: (y :: e)))) := (List.Perm.append_left l h1).trans List.perm_middle
  exact (List.Perm.append_left a h2).trans List.perm_middle
theorem see_mv {α : Type} (a l p q e : List α) : (a ++ (l ++ (p ++ (q ++ e)))).Perm (q ++ (a ++ (l ++ (p ++ e)))) :=
  ((List.Perm.append_left a (List.Perm.append_left l (perm_swap p q e))).trans (List.Perm.append_left a (perm_swap l q _))).trans (perm_swap a q _)
theorem see_perm8 {α : Type} (a l p q r e : List α) : (a ++ (l ++ (p ++ (q ++ (r ++ e))))).Perm (q ++ (r ++ (p ++ (a ++ (l ++ e))))) := by
  refine (see_mv a l p q _).trans (List.Perm.append_left q ?_)
  refine (see_mv a l p r _).trans (List.Perm.append_left r ?_)
  exact (List.Perm.append_left a (perm_swap l p e)).trans (perm_swap a p _)
theorem see_sub {α : Type} (a l : List α) (x y z : α) (e : List α) : (a ++ (l ++ e)).Sublist (a ++ (l ++ (x :: (y :: (z :: e))))) :=
  (List.Sublist.refl a).append ((List.Sublist.refl l).append (((List.sublist_cons_self z e).trans (List.sublist_cons_self y _)).trans (List.sublist_cons_self x _)))
/-- what See answers -/
def SeePost (W : World) (m : List (Nat × Obj)) (r : Option CoreP) (e : Ending) (w' : World) : Prop := match r with
  | some K => ∃ v bs, e = .returned (.tuple #[v, .int .i64 0]) ∧ Hid (CoreO v K bs) ∧ Own W (bs ++ m) w'
  | none => e = .returned (.tuple #[.agg #[.slice none 0 0, .slice none 0 0, .bool false, .slice none 0 0], .int .i64 150]) ∧ Own W m w'
theorem words_eq (c : Ch) : 4 * (c.C : Int) + 4 + 4 * (c.S : Int) + (c.S : Int) * (c.O : Int) = (c.words : Int) := by
  unfold Ch.words
  push_cast
  rfl
set_option maxRecDepth 100000 in
set_option maxHeartbeats 8000000 in
theorem see_spec (h : Own W m w) (hc : COk c d e) (hw : WOk W m B o N k g c) :
    Calls Try.prog 5 #[.slice (some ⟨B, o, none⟩) N k, cV c d e] w (SeePost W m (seeP c g)) := by
  obtain ⟨n1, n2, n3, n4, n5, n6⟩ := hc.nums
  have h1 := (h.new (.cells #[.int .i64 c.C, .int .i64 c.S, .int .i64 c.O, .int .i64 d, .int .i64 e, .int .u64 c.key] 28)).new (.cells #[.slice none 0 0, .slice none 0 0, .bool false, .slice none 0 0] 34)
  obtain ⟨b, hb⟩ : ∃ b, w.heap.size = b := ⟨_, rfl⟩
  simp only [World.size_alloc] at h1
  rw [hb] at h1
  have h1 : Own W (kBlk (b + 1) (.slice none 0 0) (.slice none 0 0) false (.slice none 0 0) :: (chB b c.C c.S c.O d e c.key :: m)) _ := h1
  obtain ⟨y0, y1, y2, y3, y4, y5⟩ := box6 h1.skip
  have hN := hw.n
  have hwq := words_eq c
  rw [← hN] at hwq
  have hn32 : 32 ≤ N ∨ N < 32 := by omega
  obtain ⟨p, hp⟩ : ∃ p : Nat, 4 * c.C = p := ⟨_, rfl⟩
  have hpi : 4 * (c.C : Int) = (p : Int) := by omega
  obtain ⟨p1, hpp1⟩ : ∃ p1 : Nat, p + 1 = p1 := ⟨_, rfl⟩
  have hpi1 : 4 * (c.C : Int) + 1 = (p1 : Int) := by omega
  have hpN : p1 < N := by rw [hN]; unfold Ch.words; omega
  have hp2 : (0 : Int) ≤ (p1 : Int) := by omega
  have hp3 : (p1 : Int) < (N : Int) := by omega
  have HPI := Lib.hid hpi
  have HPI1 := Lib.hid hpi1
  have hp0 : (0 : Int) ≤ (p : Int) := by omega
  have hp1 : (p : Int) < (N : Int) := by omega
  obtain ⟨x0, hx0⟩ : ∃ x, g[p]? = some x := ⟨_, List.getElem?_eq_getElem (by rw [hw.len]; omega)⟩
  obtain ⟨x1, hx1⟩ : ∃ x, g[p1]? = some x := ⟨_, List.getElem?_eq_getElem (by rw [hw.len]; omega)⟩
  have a0 : at_ g (4 * c.C) = x0 := by unfold at_; rw [hp, List.getD_eq_getElem?_getD, hx0]; rfl
  have a1 : at_ g (4 * c.C + 1) = x1 := by unfold at_; rw [hp, hpp1, List.getD_eq_getElem?_getD, hx1]; rfl
  have HG : Hid (∀ ws, Own W m ws → ws.cell? ⟨B, o + p, none⟩ = some (.int .u64 (x0 : Int)) ∧ ws.cell? ⟨B, o + p1, none⟩ = some (.int .u64 (x1 : Int))) := fun ws hws => ⟨hw.rd ws hws p x0 hx0, hw.rd ws hws p1 x1 hx1⟩
  have HX1 : Hid (x1 < 18446744073709551616) := hw.w64 x1 (List.mem_of_getElem? hx1)
  obtain ⟨lk, hlk⟩ : ∃ lk, decide (x0 ≠ 0) = lk := ⟨_, rfl⟩
  have hlk2 : ((x0 : Int) != 0) = lk := by
    rw [← hlk]
    by_cases h0 : x0 = 0
    · subst h0; rfl
    · have : (x0 : Int) ≠ 0 := by omega
      simp [h0, this]
  have hR : seeP c g = match upto (slotP c g) c.C with
      | none => none
      | some a => match shelfP c g with
        | none => none
        | some l => match upto (slabP c g) c.S with
          | none => none
          | some b => some ⟨a, l, lk, b⟩ := by
    unfold seeP
    rw [a0, hlk]
    rfl
  obtain ⟨R, hRR⟩ : ∃ R, seeP c g = R := ⟨_, rfl⟩
  rw [hRR] at hR ⊢
  have HR := Lib.hid hR
  have HA1 := Lib.hid a1
  have HC := Lib.hid hc
  have HW := Lib.hid hw
  have HWQ := Lib.hid hwq
  have H1 := Lib.hid h1
  clear hpp1 hN hp hpi hpi1 hx0 hx1 a0 a1 hw hc h1 h hn32 hlk hR hRR hwq
  unfold cV chV
  go_enter Try.func5, Try.ntmps5
  go_wp2_with fail
  refine (Apart.check_ok HC.out.ok H1.out).mono ?_
  rintro r w2 ⟨rfl, h2⟩
  clear y0 y1 y2 y3 y4 y5
  obtain ⟨y0, y1, y2, y3, y4, y5⟩ := box6 h2.skip
  go_wp2_with fail
  refine (Apart.words_ok HC.out.ok h2).mono ?_
  rintro r w3 ⟨rfl, h3⟩
  rw [HWQ.out]
  clear y0 y1 y2 y3 y4 y5 h2
  obtain ⟨y0, y1, y2, y3, y4, y5⟩ := box6 h3.skip
  have h4 := h3.new (.cells #[.slice (some ⟨B, o, none⟩) N k, .int .i64 c.C, .int .i64 c.S, .int .i64 c.O, .int .i64 d, .int .i64 e, .int .u64 c.key] 66)
  obtain ⟨q, hq⟩ : ∃ q, w3.heap.size = q := ⟨_, rfl⟩
  rw [hq] at h4
  have h4 : Own W (rBlk q B o N k c d e :: (kBlk (b + 1) (.slice none 0 0) (.slice none 0 0) false (.slice none 0 0) :: (chB b c.C c.S c.O d e c.key :: m))) _ := h4
  obtain ⟨v0, v1, v2, v3, v4, v5⟩ := box6 h4.skip.skip
  go_wp2_with fail
  refine (Apart.lock_ok HC.out.ok h4).mono ?_
  rintro r w5 ⟨rfl, h5⟩
  rw [HPI.out]
  clear y0 y1 y2 y3 y4 y5 v0 v1 v2 v3 v4 v5 hq h3 h4
  obtain ⟨q0, q1⟩ := HG.out _ h5.skip.skip.skip
  have h6 := h5.new (.cells #[.slice none 0 0, .slice none 0 0, .bool lk, .slice none 0 0] 34)
  obtain ⟨t, ht⟩ : ∃ t, w5.heap.size = t := ⟨_, rfl⟩
  rw [ht] at h6
  have h6 : Own W (kBlk t (.slice none 0 0) (.slice none 0 0) lk (.slice none 0 0) :: (rBlk q B o N k c d e :: (kBlk (b + 1) (.slice none 0 0) (.slice none 0 0) false (.slice none 0 0) :: (chB b c.C c.S c.O d e c.key :: m)))) _ := h6
  obtain ⟨y0, y1, y2, y3, y4, y5⟩ := box6 h6.skip.skip.skip
  go_wp2_with fail
  have H6 := Lib.hid h6
  clear q0 q1 ht h5 h6 y0 y1 y2 y3 y4 y5
  go_loopw [39] (fun iv wr => ∃ (i : Nat) (Ls : List SlotN) (sv : Value) (b0 : List (Nat × Obj)), iv = .int .i64 i ∧ i ≤ c.C ∧ Hid (Ls.length = i) ∧ Hid (upto (slotP c g) i = some (Ls.map (·.x))) ∧ Hid (SlotsOk Ls) ∧ Hid (SlotsV sv Ls b0) ∧ Own W (b0 ++ (slotBlocks Ls ++ (kBlk t sv (.slice none 0 0) lk (.slice none 0 0) :: (rBlk q B o N k c d e :: (kBlk (b + 1) (.slice none 0 0) (.slice none 0 0) false (.slice none 0 0) :: (chB b c.C c.S c.O d e c.key :: m)))))) wr) (fun iv _ => c.C - (intOf iv).toNat)
  case atStart => exact ⟨0, [], .slice none 0 0, [], rfl, by omega, rfl, rfl, (fun s hs => by cases hs), SlO.nil _ _ _, H6.out⟩
  case round =>
    clear H6
    obtain ⟨i, Ls, sv, b0, rfl, hi, HLI, HUP, HSO, HSV, hr⟩ := hrel
    obtain ⟨A0, c0, hv0, -, -⟩ := HSV.out.slice
    rw [HLI.out] at hv0
    subst hv0
    have HSV2 : Hid (SlO true 68 4 (.slice A0 i c0) i (slotCells Ls) b0) := by have := HSV.out; unfold SlotsV at this; rw [HLI.out] at this; exact this
    by_cases hlt : i < c.C
    · have hlti : (i : Int) < (c.C : Int) := by omega
      have hsl := rslot_spec hr HC.out (((HW.out.more (m' := [kBlk t (.slice A0 i c0) (.slice none 0 0) lk (.slice none 0 0), rBlk q B o N k c d e, kBlk (b + 1) (.slice none 0 0) (.slice none 0 0) false (.slice none 0 0), chB b c.C c.S c.O d e c.key])).more (m' := slotBlocks Ls)).more (m' := b0)) i hlt
      obtain ⟨y0, y1, y2, y3, y4, y5, y6⟩ := box7 hr.dropL.dropL.skip
      cases hsp : slotP c g i with
      | none =>
        rw [hsp] at hsl
        have HSL := Lib.hid hsl
        have hnone : upto (slotP c g) c.C = none := upto_none hsp hlt
        have hk := HR.out
        rw [hnone] at hk
        simp only at hk
        subst hk
        clear hsl hsp hnone
        go_wp2_with fail
        refine HSL.out.mono ?_
        rintro r w7 ⟨rfl, h7⟩
        clear y0 y1 y2 y3 y4 y5 y6
        have h8 := h7.alloc (.cells #[.int .i64 0, .slice none 0 0, .int .u64 0, .slice none 0 0] 68)
        obtain ⟨⟨z0, z1, z2, z3⟩, ⟨f0, f1, f2, f3⟩⟩ := boxK h8.dropL.dropL.skip.skip
        go_wp2_with fail
        have h9 := kset (sv' := .slice none 0 0) (hv' := .slice none 0 0) (l' := false) (lv' := .slice none 0 0) h8.dropL.dropL.skip.skip
        obtain ⟨⟨e0, e1, e2, e3⟩, -⟩ := boxK h9
        exact bodyPost_ret (v := .tuple #[.agg #[.slice none 0 0, .slice none 0 0, .bool false, .slice none 0 0], .int .i64 150]) (by simp [results, Try.f5, go_sem, e0, e1, e2, e3]) rfl ⟨rfl, h9.skip.skip⟩
      | some x =>
        rw [hsp] at hsl
        have HSL := Lib.hid hsl
        have HUP2 := Lib.hid (upto_step HUP.out hsp)
        clear hsl hsp
        go_wp2_with fail
        refine HSL.out.mono ?_
        rintro r w7 ⟨lv, lb, pv, pb, rfl, KL, KP, h7⟩
        obtain ⟨A1, c1, hv1, -, -⟩ := KL.out.slice
        obtain ⟨A2, c2, hv2, -, -⟩ := KP.out.slice
        obtain ⟨l1, hl1⟩ : ∃ l1, x.list.length = l1 := ⟨_, rfl⟩
        obtain ⟨l2, hl2⟩ : ∃ l2, x.parts.length = l2 := ⟨_, rfl⟩
        rw [hl1] at hv1
        rw [hl2] at hv2
        subst hv1 hv2
        clear y0 y1 y2 y3 y4 y5 y6 hl1 hl2
        have h8 : Own W (b0 ++ (lb ++ (pb ++ (slotBlocks Ls ++ (kBlk t (.slice A0 i c0) (.slice none 0 0) lk (.slice none 0 0) :: (rBlk q B o N k c d e :: (kBlk (b + 1) (.slice none 0 0) (.slice none 0 0) false (.slice none 0 0) :: (chB b c.C c.S c.O d e c.key :: m)))))))) w7 := h7.perm (see_perm1 _ _ _ _)
        have h9 := h8.alloc (.cells #[.int .i64 x.slab, .slice A1 l1 c1, .int .u64 x.turn, .slice A2 l2 c2] 68)
        have H10 := Lib.hid (h9.alloc (.cells #[.int .i64 x.slab, .slice A1 l1 c1, .int .u64 x.turn, .slice A2 l2 c2] 68))
        have hsrc := src_vals (w7.alloc (.cells #[.int .i64 x.slab, .slice A1 l1 c1, .int .u64 x.turn, .slice A2 l2 c2] 68)) 68 [.int .i64 x.slab, .slice A1 l1 c1, .int .u64 x.turn, .slice A2 l2 c2]
        rw [World.size_alloc] at hsrc
        have HSRC := Lib.hid hsrc
        have hone : ∀ u ∈ [Value.int .i64 x.slab, .slice A1 l1 c1, .int .u64 x.turn, .slice A2 l2 c2], u.oneCell' = true := by
          intro u hu
          simp at hu
          rcases hu with rfl | rfl | rfl | rfl <;> rfl
        have HONE := Lib.hid hone
        obtain ⟨⟨z0, z1, z2, z3⟩, ⟨f0, f1, f2, f3⟩⟩ := boxK h9.dropL.dropL.dropL.dropL
        clear hsrc hone h7 h8 h9
        go_wp2_with (at_builtin; refine app_struct rfl _ _ 31 rfl rfl rfl _ slot_info Try.underlying31 rfl (by omega) (by omega) HSV2.out H10.out HSRC.out HONE.out (by omega) ?_; intro v' w' bs' k1 k2; have K1 := Lib.hid k1; obtain ⟨A9, c9, hv9, -, -⟩ := k1.slice; subst hv9; have K2 := Lib.hid k2; clear z0 z1 z2 z3 f0 f1 f2 f3; obtain ⟨⟨z0, z1, z2, z3⟩, ⟨f0, f1, f2, f3⟩⟩ := boxK k2.dropL.dropL.dropL.dropL; clear k1 k2)
        have hst := (kset0 (sv' := .slice A9 (i + 1) c9) (K2.out.perm (see_perm2 _ _ _ _ _ _)))
        refine ⟨⟨i + 1, Ls ++ [⟨x, .slice A1 l1 c1, lb, .slice A2 l2 c2, pb⟩], .slice A9 (i + 1) c9, bs', by go_num, by omega, ?_, ?_, ?_, ?_, ?_⟩, by simp [intOf]; omega⟩
        · show _ = _
          rw [List.length_append, HLI.out]
          rfl
        · show _ = _
          rw [List.map_append]
          exact HUP2.out
        · show SlotsOk _
          intro s hs
          rcases List.mem_append.1 hs with hs | hs
          · exact HSO.out s hs
          · rw [List.mem_singleton] at hs
            subst hs
            exact ⟨KL.out, KP.out⟩
        · show SlotsV _ _ _
          unfold SlotsV
          rw [List.length_append, HLI.out, slotCells_append]
          exact K1.out
        · refine hst.perm ?_
          rw [slotBlocks_append]
          exact see_perm3 _ _ _ _ _ _
    · have hiC : i = c.C := by omega
      subst hiC
      have hlti : ¬ (c.C : Int) < (c.C : Int) := by omega
      have hch := fun ws (hws : Own W (b0 ++ (slotBlocks Ls ++ (kBlk t (.slice A0 c.C c0) (.slice none 0 0) lk (.slice none 0 0) :: (rBlk q B o N k c d e :: (kBlk (b + 1) (.slice none 0 0) (.slice none 0 0) false (.slice none 0 0) :: (chB b c.C c.S c.O d e c.key :: m)))))) ws) => rchain_s hws HC.out (((HW.out.more (m' := [kBlk t (.slice A0 c.C c0) (.slice none 0 0) lk (.slice none 0 0), rBlk q B o N k c d e, kBlk (b + 1) (.slice none 0 0) (.slice none 0 0) false (.slice none 0 0), chB b c.C c.S c.O d e c.key])).more (m' := slotBlocks Ls)).more (m' := b0)) x1 HX1.out
      have hpe : chain shelfOf (nextAt c g) c.S (c.S + 1) [] x1 = shelfP c g := by
        unfold shelfP
        rw [HA1.out]
      rw [hpe] at hch
      have HRW := Lib.hid hr
      obtain ⟨y0, y1, y2, y3, y4, y5, y6⟩ := box7 hr.dropL.dropL.skip; obtain ⟨v0, v1, v2, v3, v4, v5⟩ := box6 hr.dropL.dropL.skip.skip.skip; obtain ⟨q0, q1⟩ := HG.out _ hr.dropL.dropL.skip.skip.skip.skip
      have hk := HR.out
      rw [HUP.out] at hk
      simp only at hk
      clear hpe hr
      cases hsh : shelfP c g with
      | none =>
        rw [hsh] at hch hk
        simp only at hk
        subst hk
        have HCH := Lib.hid hch
        clear hch hsh
        go_wp2_with fail
        go_region_held3 (fun w' => (w'.cell? ⟨q, 0, none⟩ = some (.slice (some ⟨B, o, none⟩) N k) ∧ w'.cell? ⟨q, 1, none⟩ = some (.int .i64 c.C) ∧ w'.cell? ⟨q, 2, none⟩ = some (.int .i64 c.S) ∧ w'.cell? ⟨q, 3, none⟩ = some (.int .i64 c.O) ∧ w'.cell? ⟨q, 4, none⟩ = some (.int .i64 d) ∧ w'.cell? ⟨q, 5, none⟩ = some (.int .i64 e) ∧ w'.cell? ⟨q, 6, none⟩ = some (.int .u64 c.key)) ∧ (w'.cell? ⟨b, 0, none⟩ = some (.int .i64 c.C) ∧ w'.cell? ⟨b, 1, none⟩ = some (.int .i64 c.S) ∧ w'.cell? ⟨b, 2, none⟩ = some (.int .i64 c.O) ∧ w'.cell? ⟨b, 3, none⟩ = some (.int .i64 d) ∧ w'.cell? ⟨b, 4, none⟩ = some (.int .i64 e) ∧ w'.cell? ⟨b, 5, none⟩ = some (.int .u64 c.key)) ∧ w'.cell? ⟨B, o + p1, none⟩ = some (.int .u64 (x1 : Int))) (first | (refine ⟨⟨?_, ?_, ?_, ?_, ?_, ?_, ?_⟩, ⟨?_, ?_, ?_, ?_, ?_, ?_⟩, ?_⟩ <;> assumption) | go_keep)
          (first | (go_at_call 16; refine (Apart.shelf_ok HC.out.ok HRW.out.drew).mono ?_; rintro r w7 ⟨rfl, h7⟩; rw [HPI1.out]; obtain ⟨y0, y1, y2, y3, y4, y5, y6⟩ := box7 h7.dropL.dropL.skip; obtain ⟨v0, v1, v2, v3, v4, v5⟩ := box6 h7.dropL.dropL.skip.skip.skip; obtain ⟨q0, q1⟩ := HG.out _ h7.dropL.dropL.skip.skip.skip.skip) |
            (go_at_call 28; refine (HCH.out _ h7).mono ?_; rintro r w8 ⟨rfl, h8⟩; obtain ⟨y0, y1, y2, y3, y4, y5, y6⟩ := box7 h8.dropL.dropL.skip; obtain ⟨v0, v1, v2, v3, v4, v5⟩ := box6 h8.dropL.dropL.skip.skip.skip; obtain ⟨q0, q1⟩ := HG.out _ h8.dropL.dropL.skip.skip.skip.skip))
        clear y0 y1 y2 y3 y4 y5 y6 v0 v1 v2 v3 v4 v5 q0 q1
        obtain ⟨⟨z0, z1, z2, z3⟩, ⟨f0, f1, f2, f3⟩⟩ := boxK h8.dropL.dropL.skip.skip
        go_wp2_with fail
        have h9 := kset (sv' := .slice none 0 0) (hv' := .slice none 0 0) (l' := false) (lv' := .slice none 0 0) h8.dropL.dropL.skip.skip
        obtain ⟨⟨e0, e1, e2, e3⟩, -⟩ := boxK h9
        exact bodyPost_ret (v := .tuple #[.agg #[.slice none 0 0, .slice none 0 0, .bool false, .slice none 0 0], .int .i64 150]) (by simp [results, Try.f5, go_sem, e0, e1, e2, e3]) rfl ⟨rfl, h9.skip.skip⟩
      | some sl =>
        rw [hsh] at hch hk
        simp only at hk
        have HCH := Lib.hid hch
        have HK := Lib.hid hk
        clear hch hsh hk
        go_wp2_with fail
        go_region_held3 (fun w' => (w'.cell? ⟨q, 0, none⟩ = some (.slice (some ⟨B, o, none⟩) N k) ∧ w'.cell? ⟨q, 1, none⟩ = some (.int .i64 c.C) ∧ w'.cell? ⟨q, 2, none⟩ = some (.int .i64 c.S) ∧ w'.cell? ⟨q, 3, none⟩ = some (.int .i64 c.O) ∧ w'.cell? ⟨q, 4, none⟩ = some (.int .i64 d) ∧ w'.cell? ⟨q, 5, none⟩ = some (.int .i64 e) ∧ w'.cell? ⟨q, 6, none⟩ = some (.int .u64 c.key)) ∧ (w'.cell? ⟨b, 0, none⟩ = some (.int .i64 c.C) ∧ w'.cell? ⟨b, 1, none⟩ = some (.int .i64 c.S) ∧ w'.cell? ⟨b, 2, none⟩ = some (.int .i64 c.O) ∧ w'.cell? ⟨b, 3, none⟩ = some (.int .i64 d) ∧ w'.cell? ⟨b, 4, none⟩ = some (.int .i64 e) ∧ w'.cell? ⟨b, 5, none⟩ = some (.int .u64 c.key)) ∧ w'.cell? ⟨B, o + p1, none⟩ = some (.int .u64 (x1 : Int))) (first | (refine ⟨⟨?_, ?_, ?_, ?_, ?_, ?_, ?_⟩, ⟨?_, ?_, ?_, ?_, ?_, ?_⟩, ?_⟩ <;> assumption) | go_keep)
          (first | (go_at_call 16; refine (Apart.shelf_ok HC.out.ok HRW.out.drew).mono ?_; rintro r w7 ⟨rfl, h7⟩; rw [HPI1.out]; obtain ⟨y0, y1, y2, y3, y4, y5, y6⟩ := box7 h7.dropL.dropL.skip; obtain ⟨v0, v1, v2, v3, v4, v5⟩ := box6 h7.dropL.dropL.skip.skip.skip; obtain ⟨q0, q1⟩ := HG.out _ h7.dropL.dropL.skip.skip.skip.skip) |
            (go_at_call 28; refine (HCH.out _ h7).mono ?_; rintro r w8 ⟨hv, b1, rfl, KH, h8⟩; obtain ⟨y0, y1, y2, y3, y4, y5, y6⟩ := box7 h8.dropL.dropL.dropL.skip; obtain ⟨v0, v1, v2, v3, v4, v5⟩ := box6 h8.dropL.dropL.dropL.skip.skip.skip; obtain ⟨q0, q1⟩ := HG.out _ h8.dropL.dropL.dropL.skip.skip.skip.skip))
        obtain ⟨A3, c3, hhv, -, -⟩ := KH.out.slice
        obtain ⟨l3, hl3⟩ : ∃ l3, sl.length = l3 := ⟨_, rfl⟩
        rw [hl3] at hhv
        subst hhv
        have h9 := h8.perm (see_perm4 _ _ _ _ _ _ _ _)
        have h10 := kset1 (hv' := .slice A3 l3 c3) h9
        clear y0 y1 y2 y3 y4 y5 y6 v0 v1 v2 v3 v4 v5 q0 q1 hl3 h7 h8
        obtain ⟨⟨z0, z1, z2, z3⟩, ⟨f0, f1, f2, f3⟩⟩ := boxK h9
        obtain ⟨v0, v1, v2, v3, v4, v5⟩ := box6 h10.skip.skip.skip
        go_wp2_with fail
        obtain ⟨wz, hwz⟩ : ∃ wz, w8.setCell ⟨t, 1, none⟩ (.slice A3 l3 c3) = wz := ⟨_, rfl⟩
        rw [hwz] at h10 ⊢
        have H10 := Lib.hid h10
        clear z0 z1 z2 z3 f0 f1 f2 f3 v0 v1 v2 v3 v4 v5 h9 h10 hwz
        obtain ⟨w0, hw0⟩ : ∃ w0 : World, w0 = wr := ⟨_, rfl⟩
        subst hw0
        go_loopw [75] (fun iv wr => ∃ (i : Nat) (Ll : List SlabN) (lv : Value) (b2 : List (Nat × Obj)), iv = .int .i64 i ∧ i ≤ c.S ∧ Hid (Ll.length = i) ∧ Hid (upto (slabP c g) i = some (Ll.map (·.x))) ∧ Hid (SlabsOk Ll) ∧ Hid (SlabsV lv Ll b2) ∧ Own W (b2 ++ (slabBlocks Ll ++ (kBlk t (.slice A0 c.C c0) (.slice A3 l3 c3) lk lv :: (rBlk q B o N k c d e :: (kBlk (b + 1) (.slice none 0 0) (.slice none 0 0) false (.slice none 0 0) :: (chB b c.C c.S c.O d e c.key :: (b1 ++ (b0 ++ (slotBlocks Ls ++ m))))))))) wr) (fun iv _ => c.S - (intOf iv).toNat)
        case atStart => exact ⟨0, [], .slice none 0 0, [], rfl, by omega, rfl, rfl, (fun s hs => by cases hs), SlO.nil _ _ _, H10.out⟩
        case round =>
          clear H10
          obtain ⟨i, Ll, lv, b2, rfl, hi2, HLI2, HUP2, HLO, HLV, hr⟩ := hrel
          obtain ⟨A4, c4, hv4, -, -⟩ := HLV.out.slice
          rw [HLI2.out] at hv4
          subst hv4
          have HLV2 : Hid (SlO true 50 5 (.slice A4 i c4) i (slabCells Ll) b2) := by have := HLV.out; unfold SlabsV at this; rw [HLI2.out] at this; exact this
          by_cases hlt2 : i < c.S
          · have hlti2 : (i : Int) < (c.S : Int) := by omega
            have hsl := rslab_spec hr HC.out ((((((HW.out.more (m' := slotBlocks Ls)).more (m' := b0)).more (m' := b1)).more (m' := [kBlk t (.slice A0 c.C c0) (.slice A3 l3 c3) lk (.slice A4 i c4), rBlk q B o N k c d e, kBlk (b + 1) (.slice none 0 0) (.slice none 0 0) false (.slice none 0 0), chB b c.C c.S c.O d e c.key])).more (m' := slabBlocks Ll)).more (m' := b2)) i hlt2
            obtain ⟨y0, y1, y2, y3, y4, y5, y6⟩ := box7 hr.dropL.dropL.skip
            cases hsp : slabP c g i with
            | none =>
              rw [hsp] at hsl
              have HSL := Lib.hid hsl
              have hnone : upto (slabP c g) c.S = none := upto_none hsp hlt2
              have hk := HK.out
              rw [hnone] at hk
              simp only at hk
              subst hk
              clear hsl hsp hnone
              go_wp2_with fail
              refine HSL.out.mono ?_
              rintro r w9 ⟨rfl, h9⟩
              clear y0 y1 y2 y3 y4 y5 y6
              have h11 := h9.alloc (.cells #[.int .i64 0, .int .i64 0, .bool false, .bool false, .slice none 0 0] 50)
              obtain ⟨⟨z0, z1, z2, z3⟩, ⟨f0, f1, f2, f3⟩⟩ := boxK h11.dropL.dropL.skip.skip
              go_wp2_with fail
              have h12 := kset (sv' := .slice none 0 0) (hv' := .slice none 0 0) (l' := false) (lv' := .slice none 0 0) h11.dropL.dropL.skip.skip
              obtain ⟨⟨e0, e1, e2, e3⟩, -⟩ := boxK h12
              exact bodyPost_ret (v := .tuple #[.agg #[.slice none 0 0, .slice none 0 0, .bool false, .slice none 0 0], .int .i64 150]) (by simp [results, Try.f5, go_sem, e0, e1, e2, e3]) rfl ⟨rfl, h12.skip.skip.dropL.dropL.dropL⟩
            | some x =>
              rw [hsp] at hsl
              have HSL := Lib.hid hsl
              have HUP3 := Lib.hid (upto_step HUP2.out hsp)
              clear hsl hsp
              go_wp2_with fail
              refine HSL.out.mono ?_
              rintro r w9 ⟨lv, lb, rfl, KL, h9⟩
              obtain ⟨A1, c1, hv1, -, -⟩ := KL.out.slice
              obtain ⟨l1, hl1⟩ : ∃ l1, x.first.length = l1 := ⟨_, rfl⟩
              rw [hl1] at hv1
              subst hv1
              clear y0 y1 y2 y3 y4 y5 y6 hl1
              have h11 : Own W (b2 ++ (lb ++ (slabBlocks Ll ++ (kBlk t (.slice A0 c.C c0) (.slice A3 l3 c3) lk (.slice A4 i c4) :: (rBlk q B o N k c d e :: (kBlk (b + 1) (.slice none 0 0) (.slice none 0 0) false (.slice none 0 0) :: (chB b c.C c.S c.O d e c.key :: (b1 ++ (b0 ++ (slotBlocks Ls ++ m)))))))))) w9 := h9.swap
              have h12 := h11.alloc (.cells #[.int .i64 x.counts.inuse, .int .i64 x.counts.objects, .bool x.counts.frozen, .bool x.counts.live, .slice A1 l1 c1] 50)
              have H13 := Lib.hid (h12.alloc (.cells #[.int .i64 x.counts.inuse, .int .i64 x.counts.objects, .bool x.counts.frozen, .bool x.counts.live, .slice A1 l1 c1] 50))
              have hsrc := src_vals (w9.alloc (.cells #[.int .i64 x.counts.inuse, .int .i64 x.counts.objects, .bool x.counts.frozen, .bool x.counts.live, .slice A1 l1 c1] 50)) 50 [.int .i64 x.counts.inuse, .int .i64 x.counts.objects, .bool x.counts.frozen, .bool x.counts.live, .slice A1 l1 c1]
              rw [World.size_alloc] at hsrc
              have HSRC := Lib.hid hsrc
              have hone : ∀ u ∈ ([.int .i64 x.counts.inuse, .int .i64 x.counts.objects, .bool x.counts.frozen, .bool x.counts.live, .slice A1 l1 c1] : List Value), u.oneCell' = true := by
                intro u hu
                simp at hu
                rcases hu with rfl | rfl | rfl | rfl | rfl <;> rfl
              have HONE := Lib.hid hone
              obtain ⟨⟨z0, z1, z2, z3⟩, ⟨f0, f1, f2, f3⟩⟩ := boxK h12.dropL.dropL.dropL
              clear hsrc hone h9 h11 h12
              go_wp2_with (at_builtin; refine app_struct rfl _ _ 32 rfl rfl rfl _ slab_info Try.underlying32 rfl (by omega) (by omega) HLV2.out H13.out HSRC.out HONE.out (by omega) ?_; intro v' w' bs' k1 k2; have K1 := Lib.hid k1; obtain ⟨A9, c9, hv9, -, -⟩ := k1.slice; subst hv9; have K2 := Lib.hid k2; clear z0 z1 z2 z3 f0 f1 f2 f3; obtain ⟨⟨z0, z1, z2, z3⟩, ⟨f0, f1, f2, f3⟩⟩ := boxK k2.dropL.dropL.dropL; clear k1 k2)
              have hst := (kset3 (lv' := .slice A9 (i + 1) c9) (K2.out.perm (see_perm5 _ _ _ _ _)))
              refine ⟨⟨i + 1, Ll ++ [⟨x, .slice A1 l1 c1, lb⟩], .slice A9 (i + 1) c9, bs', by go_num, by omega, ?_, ?_, ?_, ?_, ?_⟩, by simp [intOf]; omega⟩
              · show _ = _
                rw [List.length_append, HLI2.out]
                rfl
              · show _ = _
                rw [List.map_append]
                exact HUP3.out
              · show SlabsOk _
                intro s hs
                rcases List.mem_append.1 hs with hs | hs
                · exact HLO.out s hs
                · rw [List.mem_singleton] at hs
                  subst hs
                  exact KL.out
              · show SlabsV _ _ _
                unfold SlabsV
                rw [List.length_append, HLI2.out, slabCells_append]
                exact K1.out
              · refine hst.perm ?_
                rw [slabBlocks_append]
                exact see_perm6 _ _ _ _ _
          · have hiS : i = c.S := by omega
            subst hiS
            have hlti2 : ¬ (c.S : Int) < (c.S : Int) := by omega
            have hk := HK.out
            rw [HUP2.out] at hk
            simp only at hk
            have HK2 := Lib.hid hk
            have ht2 := hr.dropL.dropL
            obtain ⟨⟨z0, z1, z2, z3⟩, ⟨f0, f1, f2, f3⟩⟩ := boxK ht2
            obtain ⟨⟨g0, g1, g2, g3⟩, ⟨u0, u1, u2, u3⟩⟩ := boxK ht2.skip.skip
            clear hk
            go_wp2_with fail
            have hx := hr.perm (see_perm7 _ _ _ _ _ _)
            have h9 := kset (sv' := .slice A0 c.C c0) (hv' := .slice A3 l3 c3) (l' := lk) (lv' := .slice A4 c.S c4) hx
            obtain ⟨⟨e0, e1, e2, e3⟩, -⟩ := boxK h9
            rw [HK2.out]
            refine bodyPost_ret (v := .tuple #[.agg #[.slice A0 c.C c0, .slice A3 l3 c3, .bool lk, .slice A4 c.S c4], .int .i64 0]) (by simp [results, Try.f5, go_sem, e0, e1, e2, e3]) rfl ?_
            refine ⟨_, b0 ++ (slotBlocks Ls ++ (b1 ++ (b2 ++ slabBlocks Ll))), rfl, ⟨Ls, .slice A0 c.C c0, b0, .slice A3 l3 c3, b1, Ll, .slice A4 c.S c4, b2, rfl, rfl, HSO.out, HSV.out, KH.out, rfl, HLO.out, HLV.out, rfl⟩, ?_⟩
            rw [List.append_assoc, List.append_assoc, List.append_assoc, List.append_assoc]
            exact (h9.skip.sub (see_sub _ _ _ _ _ _)).perm (see_perm8 _ _ _ _ _ _)
end
end Go.Proofs.Ytmfemophafncnaa.See

/-
  Slices of words (uint64): what they read as, append, wainscotref00.EqWords; a slice that came in, with its reach. No condition but sizes.
-/
namespace Go.Proofs.Ytmfemophafncnaa
open Go.RowKit

theorem word_info : (Try.prog.info? 26).map (fun i => (i.zero, i.size, i.bytes)) = some (some (.int .u64 0), 1, 8) := by kernel_rfl
/-- words as values -/
def words (l : List Nat) : List Value := l.map fun (n : Nat) => .int .u64 (n : Int)
theorem words_len (l : List Nat) : (words l).length = l.length := by simp [words]
theorem words_get {l : List Nat} {i n : Nat} (h : l[i]? = some n) : (words l)[i]? = some (.int .u64 (n : Int)) := by simp [words, h]
theorem words_one (l : List Nat) : ∀ u ∈ words l, u.oneCell' = true := by
  intro u hu
  obtain ⟨n, _, rfl⟩ := List.mem_map.1 hu
  rfl
theorem words_append (a b : List Nat) : words a ++ words b = words (a ++ b) := by simp [words]
/-- a slice of words that the call owns -/
abbrev WordsOwn (ex : Bool) (v : Value) (l : List Nat) (bs : List (Nat × Obj)) : Prop := SlO ex 26 1 v l.length (words l) bs
/-- a slice that reads as words -/
abbrev WordsSrc (w : World) (v : Value) (l : List Nat) : Prop := Src w 1 v l.length (words l)
section
variable {W w : World} {m bs : List (Nat × Obj)} {v x : Value} {l l' : List Nat}
/-- append, of words -/
theorem wpList_app_words {ops : Array Oper} {rest : List Oper} {o : Oper} {a : Act} {Q : Exit → Act → World → Prop} (hgd : o.guard = none) (s x : Operand)
    (ho : o.op = .call { callee := .builtin .append, args := #[s, x], argTypes := #[38, 38] }) {v xv : Value} (hes : a.eval s = v) (hex : a.eval x = xv)
    (hs : WordsOwn true v l bs) (hO : Own W (bs ++ m) w) (hx : WordsSrc w xv l') (hlen : (l.length + l'.length) * 8 ≤ 140737488351232)
    (h : ∀ v' w' bs', WordsOwn true v' (l ++ l') bs' → Own W (bs' ++ m) w' → (v' = .slice none 0 0 ↔ v = .slice none 0 0 ∧ l' = []) → wpList Try.prog ops Q rest (a.put o.dst v') w') :
    wpList Try.prog ops Q (o :: rest) a w := by
  obtain ⟨i, hi, hz, hsz, hb⟩ := info_get word_info
  refine wpList_app hgd s x _ ho hes hex 26 i _ 1 8 Try.underlying38 hi hz hsz hb rfl (by omega) hs hO hx (words_one l') (by unfold maxLen; omega) (by omega) fun v' w' bs' h1 h2 h3 => ?_
  rw [words_append, ← List.length_append] at h1
  exact h v' w' bs' h1 h2 (by rw [h3, List.length_eq_zero_iff])
theorem WordsSrc.slice (h : WordsSrc w v l) : ∃ A c, v = .slice A l.length c := by
  rcases h.2 with ⟨rfl, hn⟩ | ⟨a, c, rfl, -⟩
  · exact ⟨none, 0, by rw [hn]⟩
  · exact ⟨_, _, rfl⟩
end
section
open Go.ChangeShapes Go.WideShapes Go.ChangeAt
variable {H : Type} {enc : TypeId × Value → H} {P : Program} {w : World} {base : Nat} {held : Bool}
/-- a slice of words that came in: what it reads as, and its reach -/
theorem open_words {t e : TypeId} {v : Value} {d : DataW H} {p : List MemPlace} {ts : List TypeId} {ds : List (DataW H)} (hsz : (DataW.weightsEach P ts ds).all (· ≤ reachBytes) = true) {j : Nat} (hj : ts[j]? = some t) (hd : ds[j]? = some d)
    (ht : P.underlying t = some (.slice e)) (he : P.underlying e = some (.int .u64)) (hc1 : P.cellsOf e = 1) (hb8 : P.bytesOf e = 8) (hone : v.cells.toList = [v])
    (h : DataW.Trod enc P w base (fun _ => true) held t v d p) (hlt : ∀ x ∈ p, x.block < w.heap.size) :
    ∃ g : List Nat, Src w 1 v g.length (words g) ∧ (∀ x ∈ g, x < 18446744073709551616) ∧ g.length * 8 ≤ 140737488351232 ∧ ∃ A c, v = .slice A g.length c ∧ g.length ≤ c ∧ c ≤ maxLen := by
  have hks : flatKinds P 4 e = some [some .u64] := by simp [flatKinds, he]
  obtain ⟨fuel, hf⟩ := h
  have hf0 := hf
  rw [hone] at hf
  rcases Deep.open_slice ht hf with ⟨h0, _⟩ | ⟨a, len, cap, m, n', D, Pl, hcs, hb, hl, hm, hmm, hx, hi⟩
  · simp only [List.cons.injEq, and_true] at h0
    subst h0
    exact ⟨[], ⟨rfl, .inl ⟨rfl, rfl⟩⟩, by simp, by simp, none, 0, rfl, Nat.le_refl _, by unfold maxLen; omega⟩
  · simp only [List.cons.injEq, and_true] at hcs
    subst hcs
    simp only [if_true] at hmm
    subst hmm
    obtain ⟨cap, rfl⟩ : ∃ cap, cap = m := ⟨m, rfl⟩
    simp only [Prod.mk.injEq] at hx
    have hd' := hd
    rw [hx.1] at hd'
    have hr := sized_slice hsz hj hd' ht
    rw [hb8] at hr
    simp only [List.length_map, List.length_range, reachBytes] at hr
    have hcap : len * 8 ≤ 140737488351232 := by omega
    have hall : ∀ i, i < len → ∃ x : Nat, w.cell? (a.add i) = some (.int .u64 (x : Int)) ∧ x < 18446744073709551616 := by
      intro i hil
      obtain ⟨cs', hc, ht'⟩ := hi i (by omega)
      obtain ⟨u, hu, n, rfl, hwf⟩ := trod_flat n' 4 e cs' _ _ ht' hks 0 _ rfl
      obtain ⟨_, hcl, hat⟩ := World.cells?_some hc
      have := hat 0 (by omega)
      rw [Go.Deep.add_add, hc1, Nat.mul_one, Nat.add_zero, hu] at this
      have h2 : 0 ≤ n ∧ n < 18446744073709551616 := by
        simp [Lit.wf, IntKind.min, IntKind.max, IntKind.signed, IntKind.bits] at hwf
        omega
      refine ⟨n.toNat, ?_, by omega⟩
      rw [this, show ((n.toNat : Nat) : Int) = n from by omega]
    let g : List Nat := (List.range len).map fun i => if h : i < len then (hall i h).choose else 0
    have hgl : g.length = len := by simp [g]
    have hgi : ∀ i x, g[i]? = some x → ∃ h : i < len, x = (hall i h).choose := by
      intro i x hix
      have hil : i < len := by
        have := (List.getElem?_eq_some_iff.1 hix).1
        omega
      simp only [g, List.getElem?_map, List.getElem?_range hil, Option.map_some, Option.some.injEq, dif_pos hil] at hix
      exact ⟨hil, hix.symm⟩
    refine ⟨g, ⟨by rw [words_len, Nat.mul_one], .inr ⟨a, cap, by rw [hgl], fun j u hu => ?_⟩⟩, fun x hx => ?_, by rw [hgl]; exact hcap, some a, cap, by rw [hgl], by rw [hgl]; exact hl, hm⟩
    · have hjl : j < g.length := by
        have := (List.getElem?_eq_some_iff.1 hu).1
        rw [words_len] at this
        exact this
      have hg1 : g[j]? = some (g[j]'hjl) := List.getElem?_eq_getElem hjl
      rw [words_get hg1] at hu
      simp only [Option.some.injEq] at hu
      subst hu
      obtain ⟨hil, hx⟩ := hgi j _ hg1
      rw [hx]
      exact (hall j hil).choose_spec.1
    · obtain ⟨i, hi', rfl⟩ := List.getElem_of_mem hx
      obtain ⟨hil, hx⟩ := hgi i _ (List.getElem?_eq_getElem hi')
      rw [hx]
      exact (hall i hil).choose_spec.2
end
end Go.Proofs.Ytmfemophafncnaa

/-
  Contracts: package mem. No condition. (Printed by mkmem.py.)
-/
namespace Go.Proofs.Ytmfemophafncnaa.Mem
open Go.RowKit
attribute [local go_sem ↓] Go.wp_at_zero Go.wp_at_succ
/-- words, as a block's cells -/
def wRow (g : List Nat) : Array Value := (words g).toArray
theorem wRow_get {g : List Nat} {i x : Nat} (h : g[i]? = some x) : (wRow g)[i]? = some (.int .u64 (x : Int)) := by simp [wRow, words, h]
theorem wRow_set (g : List Nat) (i x : Nat) : (wRow g).setIfInBounds i (.int .u64 (x : Int)) = wRow (g.set i x) := by
  unfold wRow words
  rw [List.map_set]
  simp
/-- a memory's own block -/
def mB (b0 b1 N k : Nat) : Nat × Obj := (b0, .cells #[.slice (some ⟨b1, 0, none⟩) N N, .int .i64 (k : Int)] 78)
/-- its words' block -/
def wB (b1 : Nat) (g : List Nat) : Nat × Obj := (b1, .cells (wRow g) 26)
/-- a word in a box -/
def uB (b : Nat) (x : Int) : Nat × Obj := (b, .cells #[.int .u64 x] 26)
section
variable {W w : World} {m : List (Nat × Obj)} {b0 b1 N k b : Nat} {g : List Nat}
theorem box_m (h : Own W (mB b0 b1 N k :: m) w) : w.cell? ⟨b0, 0, none⟩ = some (.slice (some ⟨b1, 0, none⟩) N N) ∧ w.cell? ⟨b0, 1, none⟩ = some (.int .i64 (k : Int)) ∧ w.frozen? ⟨b0, 1, none⟩ = false :=
  ⟨h.cell List.mem_cons_self 0, h.cell List.mem_cons_self 1, h.frozen List.mem_cons_self 1⟩
theorem set_m (h : Own W (mB b0 b1 N k :: m) w) (k' : Nat) : Own W (mB b0 b1 N k' :: m) (w.setCell ⟨b0, 1, none⟩ (.int .i64 (k' : Int))) := h.set 1 (.int .i64 (k' : Int))
theorem cell_w (h : Own W (wB b1 g :: m) w) {i x : Nat} (hx : g[i]? = some x) : w.cell? ⟨b1, i, none⟩ = some (.int .u64 (x : Int)) ∧ w.frozen? ⟨b1, i, none⟩ = false := by
  have h1 := h.cell List.mem_cons_self i
  rw [wRow_get hx] at h1
  exact ⟨h1, h.frozen List.mem_cons_self i⟩
theorem set_w (h : Own W (wB b1 g :: m) w) (i x : Nat) : Own W (wB b1 (g.set i x) :: m) (w.setCell ⟨b1, i, none⟩ (.int .u64 (x : Int))) := by
  have h1 := h.set i (.int .u64 (x : Int))
  rw [wRow_set] at h1
  exact h1
theorem box_u {x : Int} (h : Own W (uB b x :: m) w) : w.cell? ⟨b, 0, none⟩ = some (.int .u64 x) ∧ w.frozen? ⟨b, 0, none⟩ = false := ⟨h.cell List.mem_cons_self 0, h.frozen List.mem_cons_self 0⟩
theorem set_u {x : Int} (h : Own W (uB b x :: m) w) (y : Int) : Own W (uB b y :: m) (w.setCell ⟨b, 0, none⟩ (.int .u64 y)) := h.set 0 (.int .u64 y)
theorem sw {α : Type} (x y : α) (l : List α) : (x :: y :: l).Perm (y :: x :: l) := List.Perm.swap _ _ _
theorem len_spec (h : Own W (mB b0 b1 N k :: m) w) : Calls Try.prog 59 #[.pointer (some ⟨b0, 0, none⟩)] w fun e w' => e = .returned (.int .i64 (N : Int)) ∧ Own W (mB b0 b1 N k :: m) w' := by
  obtain ⟨y0, y1, f1⟩ := box_m h
  go_enter Try.func59, Try.ntmps59
  go_wp2_with fail
  go_ret
  exact ⟨rfl, h⟩
set_option maxRecDepth 100000 in
theorem access_bad (fv : Value) (q : Nat) (hq : q = 1 ∨ q = 2) (h : Own W (mB b0 b1 N k :: m) w) (i : Int) (hi : i < 0 ∨ (N : Int) - q < i) (hN2 : N ≤ 4096) (hk : k ≤ 1000000000) : Calls Try.prog 34 #[.pointer (some ⟨b0, 0, none⟩), .int .i64 i, .int .i64 q, fv] w fun e w' => e = .returned (.int .i64 9) ∧ Own W (mB b0 b1 N k :: m) w' := by
  obtain ⟨y0, y1, f1⟩ := box_m h
  have he := fun w => Lib.run_eql_slice_nil (P := Try.prog) w 38 26 (some ⟨b1, 0, none⟩) N N 0 0 Try.underlying38
  have hi' : i < 0 ∨ (¬ i < 0 ∧ (N : Int) - q < i) := by omega
  clear hi
  rcases hi' with hi | ⟨h0, hi⟩
  · have hd : decide (i < 0) = true := decide_eq_true hi
    rcases hq with rfl | rfl
    all_goals
      go_enter Try.func34, Try.ntmps34
      go_wp2_with fail
      go_ret
      exact ⟨rfl, h⟩
  · have hd : decide (i < 0) = false := decide_eq_false h0
    rcases hq with rfl | rfl
    · have h2 : (N : Int) - 1 < i := hi
      go_enter Try.func34, Try.ntmps34
      go_wp2_with fail
      go_ret
      exact ⟨rfl, h⟩
    · have h2 : (N : Int) - 2 < i := hi
      go_enter Try.func34, Try.ntmps34
      go_wp2_with fail
      go_ret
      exact ⟨rfl, h⟩
theorem up1 {α : Type} (x y : α) (l : List α) : (x :: y :: l).Perm (y :: x :: l) := List.Perm.swap _ _ _
theorem up2 {α : Type} (x1 x2 y : α) (l : List α) : (x1 :: x2 :: y :: l).Perm (y :: x1 :: x2 :: l) := ((up1 x2 y l).cons x1).trans (up1 _ _ _)
theorem up3 {α : Type} (x1 x2 x3 y : α) (l : List α) : (x1 :: x2 :: x3 :: y :: l).Perm (y :: x1 :: x2 :: x3 :: l) := ((up2 x2 x3 y l).cons x1).trans (up1 _ _ _)
theorem up4 {α : Type} (x1 x2 x3 x4 y : α) (l : List α) : (x1 :: x2 :: x3 :: x4 :: y :: l).Perm (y :: x1 :: x2 :: x3 :: x4 :: l) := ((up3 x2 x3 x4 y l).cons x1).trans (up1 _ _ _)
theorem up5 {α : Type} (x1 x2 x3 x4 x5 y : α) (l : List α) : (x1 :: x2 :: x3 :: x4 :: x5 :: y :: l).Perm (y :: x1 :: x2 :: x3 :: x4 :: x5 :: l) := ((up4 x2 x3 x4 x5 y l).cons x1).trans (up1 _ _ _)
theorem up6 {α : Type} (x1 x2 x3 x4 x5 x6 y : α) (l : List α) : (x1 :: x2 :: x3 :: x4 :: x5 :: x6 :: y :: l).Perm (y :: x1 :: x2 :: x3 :: x4 :: x5 :: x6 :: l) := ((up5 x2 x3 x4 x5 x6 y l).cons x1).trans (up1 _ _ _)
theorem eql_pair (w : World) (x y a b : Int) : (binOp .eql 126 (.agg #[.int .u64 x, .int .u64 y]) (.agg #[.int .u64 a, .int .u64 b])).run Try.prog w = .ok (.bool (decide (x = a ∧ y = b))) w := by
  have e1 : (Try.prog.fieldsOf 126).toList.map (fun f => (f.name == "_", f.type, f.offset)) = [(false, 26, 0), (false, 26, 1)] := by kernel_rfl
  rw [run_eql_struct, run_equalIn_struct w 9999 126 _ _ (by kernel_rfl) (by kernel_rfl)]
  obtain ⟨f1, f2, hf, e1, e2⟩ : ∃ f1 f2, (Try.prog.fieldsOf 126).toList = [f1, f2] ∧ (f1.name == "_", f1.type, f1.offset) = (false, 26, 0) ∧ (f2.name == "_", f2.type, f2.offset) = (false, 26, 1) := by
    match hl : (Try.prog.fieldsOf 126).toList, e1 with
    | [f1, f2], e1 => simp only [List.map_cons, List.map_nil, List.cons.injEq, and_true] at e1; exact ⟨f1, f2, rfl, e1.1, e1.2⟩
    | [], e1 => simp at e1
    | [_], e1 => simp at e1
    | _ :: _ :: _ :: _, e1 => simp at e1
  simp only [Prod.mk.injEq] at e1 e2
  obtain ⟨n1, t1, o1⟩ := e1
  obtain ⟨n2, t2, o2⟩ := e2
  have n1 : f1.name ≠ "_" := by simpa using n1
  have n2 : f2.name ≠ "_" := by simpa using n2
  rw [hf]
  have ha : Try.prog.underlying 26 = some (.int .u64) := Try.underlying26
  simp [Op.eqFields, n1, n2, t1, t2, o1, o2, part, run_equalIn_int, ha, isAgg]
  by_cases h1 : x = a <;> by_cases h2 : y = b <;> simp [h1, h2]
/-- a bool in a box -/
def bB (b : Nat) (x : Bool) : Nat × Obj := (b, .cells #[.bool x] 4)
theorem box_b {x : Bool} (h : Own W (bB b x :: m) w) : w.cell? ⟨b, 0, none⟩ = some (.bool x) ∧ w.frozen? ⟨b, 0, none⟩ = false := ⟨h.cell List.mem_cons_self 0, h.frozen List.mem_cons_self 0⟩
theorem set_b {x : Bool} (h : Own W (bB b x :: m) w) (y : Bool) : Own W (bB b y :: m) (w.setCell ⟨b, 0, none⟩ (.bool y)) := h.set 0 (.bool y)
/-! Load -/
set_option maxRecDepth 100000 in
theorem load1_spec (v : Int) (h : Own W (uB b v :: mB b0 b1 N k :: wB b1 g :: m) w) {i x : Nat} (hx : g[i]? = some x) (q : Nat) : Calls Try.prog 35 #[.slice (some ⟨b1, i, none⟩) 1 q, .pointer (some ⟨b, 0, none⟩)] w fun e w' => e = .returned (.tuple #[]) ∧ Own W (uB b x :: mB b0 b1 N k :: wB b1 g :: m) w' := by
  obtain ⟨y0, f0⟩ := box_u h
  obtain ⟨z0, -⟩ := cell_w h.skip.skip hx
  have h2 := set_u h (x : Int)
  clear hx
  go_enter Try.func35, Try.ntmps35
  go_wp2_with fail
  go_end0
  exact ⟨rfl, h2⟩
set_option maxRecDepth 100000 in
theorem access_load (v : Int) (h : Own W (uB b v :: mB b0 b1 N k :: wB b1 g :: m) w) {i x : Nat} (hx : g[i]? = some x) (hN : g.length = N) (hN2 : N ≤ 4096) (hk : k ≤ 1000000000) : Calls Try.prog 34 #[.pointer (some ⟨b0, 0, none⟩), .int .i64 i, .int .i64 1, .func (.func 35) #[] #[.pointer (some ⟨b, 0, none⟩)]] w fun e w' => e = .returned (.int .i64 0) ∧ Own W (uB b x :: mB b0 b1 N (k + 1) :: wB b1 g :: m) w' := by
  obtain ⟨y0, y1, f1⟩ := box_m h.skip
  have hlt : i + (1 - 1) < N := by rw [← hN]; exact (List.getElem?_eq_some_iff.1 hx).1
  have h2 := (set_m (h.perm (up1 _ _ _)) (k + 1)).perm (up1 _ _ _).symm
  have hi1 : (i : Int) ≤ (N : Int) - 1 := by omega
  have he := fun w => Lib.run_eql_slice_nil (P := Try.prog) w 38 26 (some ⟨b1, 0, none⟩) N N 0 0 Try.underlying38
  have HX := Lib.hid hx
  have H2 := Lib.hid h2
  clear hx h2 h hN
  go_enter Try.func34, Try.ntmps34
  go_wp2_with fail
  refine (load1_spec _ H2.out HX.out _).mono ?_
  rintro e w3 ⟨rfl, h3⟩
  go_wp2_with fail
  go_ret
  exact ⟨rfl, h3⟩
/-! Store -/
set_option maxRecDepth 100000 in
theorem store1_spec (v : Nat) (h : Own W (uB b (v : Int) :: mB b0 b1 N k :: wB b1 g :: m) w) {i x : Nat} (hx : g[i]? = some x) (q : Nat) : Calls Try.prog 44 #[.slice (some ⟨b1, i, none⟩) 1 q, .pointer (some ⟨b, 0, none⟩)] w fun e w' => e = .returned (.tuple #[]) ∧ Own W (uB b (v : Int) :: mB b0 b1 N k :: wB b1 (g.set i v) :: m) w' := by
  obtain ⟨y0, f0⟩ := box_u h
  obtain ⟨z0, z1⟩ := cell_w h.skip.skip hx
  have h2 := (set_w (h.perm (up2 _ _ _ _)) i v).perm (up2 _ _ _ _).symm
  clear hx
  go_enter Try.func44, Try.ntmps44
  go_wp2_with fail
  go_end0
  exact ⟨rfl, h2⟩
set_option maxRecDepth 100000 in
theorem access_store (v : Nat) (h : Own W (uB b (v : Int) :: mB b0 b1 N k :: wB b1 g :: m) w) {i x : Nat} (hx : g[i]? = some x) (hN : g.length = N) (hN2 : N ≤ 4096) (hk : k ≤ 1000000000) : Calls Try.prog 34 #[.pointer (some ⟨b0, 0, none⟩), .int .i64 i, .int .i64 1, .func (.func 44) #[] #[.pointer (some ⟨b, 0, none⟩)]] w fun e w' => e = .returned (.int .i64 0) ∧ Own W (uB b (v : Int) :: mB b0 b1 N (k + 1) :: wB b1 (g.set i v) :: m) w' := by
  obtain ⟨y0, y1, f1⟩ := box_m h.skip
  have hlt : i + (1 - 1) < N := by rw [← hN]; exact (List.getElem?_eq_some_iff.1 hx).1
  have h2 := (set_m (h.perm (up1 _ _ _)) (k + 1)).perm (up1 _ _ _).symm
  have hi1 : (i : Int) ≤ (N : Int) - 1 := by omega
  have he := fun w => Lib.run_eql_slice_nil (P := Try.prog) w 38 26 (some ⟨b1, 0, none⟩) N N 0 0 Try.underlying38
  have HX := Lib.hid hx
  have H2 := Lib.hid h2
  clear hx h2 h hN
  go_enter Try.func34, Try.ntmps34
  go_wp2_with fail
  refine (store1_spec _ H2.out HX.out _).mono ?_
  rintro e w3 ⟨rfl, h3⟩
  go_wp2_with fail
  go_ret
  exact ⟨rfl, h3⟩
/-! Cas2 -/
set_option maxRecDepth 100000 in
theorem cas21_spec (z : Bool) (ol se tw ot c0 c1 c2 c3 c4 : Nat) (h : Own W (bB c4 z :: uB c3 (ot : Int) :: uB c2 (tw : Int) :: uB c1 (se : Int) :: uB c0 (ol : Int) :: mB b0 b1 N k :: wB b1 g :: m) w) {i x y : Nat} (hx : g[i]? = some x) (hy : g[i + 1]? = some y) {t : Bool} {g' : List Nat} (ht : Hid (t = decide (x = ol ∧ y = se) ∧ g' = if x = ol ∧ y = se then (g.set i tw).set (i + 1) ot else g)) (q : Nat) : Calls Try.prog 100 #[.slice (some ⟨b1, i, none⟩) 2 q, .pointer (some ⟨c0, 0, none⟩), .pointer (some ⟨c1, 0, none⟩), .pointer (some ⟨c4, 0, none⟩), .pointer (some ⟨c2, 0, none⟩), .pointer (some ⟨c3, 0, none⟩)] w fun e w' => e = .returned (.tuple #[]) ∧ Own W (bB c4 t :: uB c3 (ot : Int) :: uB c2 (tw : Int) :: uB c1 (se : Int) :: uB c0 (ol : Int) :: mB b0 b1 N k :: wB b1 g' :: m) w' := by
  obtain ⟨y4, f4⟩ := box_b h
  obtain ⟨y3, f3⟩ := box_u h.skip
  obtain ⟨y2, f2⟩ := box_u h.skip.skip
  obtain ⟨y1, f1⟩ := box_u h.skip.skip.skip
  obtain ⟨y0, f0⟩ := box_u h.skip.skip.skip.skip
  obtain ⟨z0, z1⟩ := cell_w h.skip.skip.skip.skip.skip.skip hx
  obtain ⟨z2, z3⟩ := cell_w h.skip.skip.skip.skip.skip.skip hy
  have hg : (Try.prog.eqGuardType Try.prog.depth 126) = false := by kernel_rfl
  have hnd := h.nd
  simp only [bB, uB, mB, wB, List.map_cons, List.nodup_cons, List.mem_cons, not_or] at hnd
  obtain ⟨⟨-, -, p1, p0, -, pb, -⟩, ⟨-, -, -, -, r1, -⟩, ⟨-, -, -, r2, -⟩, -⟩ := hnd
  have n1 : b1 ≠ c4 := fun e => pb e.symm
  have n2 : c0 ≠ c4 := fun e => p0 e.symm
  have n3 : c1 ≠ c4 := fun e => p1 e.symm
  have n4 : c3 ≠ b1 := r1
  have n5 : c2 ≠ b1 := r2
  have n6 : b1 ≠ c3 := fun e => r1 e.symm
  have n7 : b1 ≠ c2 := fun e => r2 e.symm
  have HX := Lib.hid hx
  have HY := Lib.hid hy
  clear hx hy
  obtain ⟨ht, hgg⟩ := ht
  by_cases hc : x = ol ∧ y = se
  · rw [if_pos hc] at hgg
    rw [decide_eq_true hc] at ht
    subst ht hgg
    have heq : ∀ w, (binOp .eql 126 (.agg #[.int .u64 (x : Int), .int .u64 (y : Int)]) (.agg #[.int .u64 (ol : Int), .int .u64 (se : Int)])).run Try.prog w = .ok (.bool true) w := fun w => by rw [eql_pair, decide_eq_true ⟨by omega, by omega⟩]
    have h1 := (set_b h true).drew
    have H := Lib.hid h1
    clear hc h h1
    go_enter Try.func100, Try.ntmps100
    go_wp2_with fail
    go_region_held3 (fun w' => w'.cell? ⟨b1, i, none⟩ = some (.int .u64 (x : Int)) ∧ w'.cell? ⟨b1, i + 1, none⟩ = some (.int .u64 (y : Int)) ∧ w'.cell? ⟨c0, 0, none⟩ = some (.int .u64 (ol : Int)) ∧ w'.cell? ⟨c1, 0, none⟩ = some (.int .u64 (se : Int))) (first | (refine ⟨?_, ?_, ?_, ?_⟩ <;> assumption) | go_keep) (fail)
    have H1 := H.out
    obtain ⟨w1, hw1⟩ : ∃ w1, (w.setCell ⟨c4, 0, none⟩ (.bool true)).drew = w1 := ⟨_, rfl⟩
    rw [hw1] at H1 ⊢
    clear y0 y1 y2 y3 y4 f0 f1 f2 f3 f4 z0 z1 z2 z3 heq hw1 H
    obtain ⟨y4, f4⟩ := box_b H1
    go_wp2_with fail
    obtain ⟨y3, f3⟩ := box_u H1.skip
    obtain ⟨y2, f2⟩ := box_u H1.skip.skip
    obtain ⟨z0, z1⟩ := cell_w H1.skip.skip.skip.skip.skip.skip HX.out
    obtain ⟨z2, z3⟩ := cell_w H1.skip.skip.skip.skip.skip.skip HY.out
    have h5 := ((set_w (set_w (H1.perm (up6 _ _ _ _ _ _ _ _)) i tw) (i + 1) ot).perm (up6 _ _ _ _ _ _ _ _).symm).drew
    have H5 := Lib.hid h5
    clear h5 y4 f4 H1
    go_region_held3 (fun w' => w'.cell? ⟨c2, 0, none⟩ = some (.int .u64 (tw : Int)) ∧ w'.cell? ⟨c3, 0, none⟩ = some (.int .u64 (ot : Int))) (first | (refine ⟨?_, ?_⟩ <;> assumption) | go_keep) (fail)
    go_wp2_with fail
    go_end0
    exact ⟨rfl, H5.out⟩
  · rw [if_neg hc] at hgg
    rw [decide_eq_false hc] at ht
    subst ht hgg
    have heq : ∀ w, (binOp .eql 126 (.agg #[.int .u64 (x : Int), .int .u64 (y : Int)]) (.agg #[.int .u64 (ol : Int), .int .u64 (se : Int)])).run Try.prog w = .ok (.bool false) w := fun w => by rw [eql_pair, decide_eq_false (by omega)]
    have h1 := (set_b h false).drew
    have H := Lib.hid h1
    clear hc h h1
    go_enter Try.func100, Try.ntmps100
    go_wp2_with fail
    go_region_held3 (fun w' => w'.cell? ⟨b1, i, none⟩ = some (.int .u64 (x : Int)) ∧ w'.cell? ⟨b1, i + 1, none⟩ = some (.int .u64 (y : Int)) ∧ w'.cell? ⟨c0, 0, none⟩ = some (.int .u64 (ol : Int)) ∧ w'.cell? ⟨c1, 0, none⟩ = some (.int .u64 (se : Int))) (first | (refine ⟨?_, ?_, ?_, ?_⟩ <;> assumption) | go_keep) (fail)
    have H1 := H.out
    obtain ⟨w1, hw1⟩ : ∃ w1, (w.setCell ⟨c4, 0, none⟩ (.bool false)).drew = w1 := ⟨_, rfl⟩
    rw [hw1] at H1 ⊢
    clear y0 y1 y2 y3 y4 f0 f1 f2 f3 f4 z0 z1 z2 z3 heq hw1 H
    obtain ⟨y4, f4⟩ := box_b H1
    go_wp2_with fail
    go_end0
    exact ⟨rfl, H1⟩
set_option maxRecDepth 100000 in
theorem access_cas2 (z : Bool) (ol se tw ot c0 c1 c2 c3 c4 : Nat) (h : Own W (bB c4 z :: uB c3 (ot : Int) :: uB c2 (tw : Int) :: uB c1 (se : Int) :: uB c0 (ol : Int) :: mB b0 b1 N k :: wB b1 g :: m) w) {i x y : Nat} (hx : g[i]? = some x) (hy : g[i + 1]? = some y) {t : Bool} {g' : List Nat} (ht : Hid (t = decide (x = ol ∧ y = se) ∧ g' = if x = ol ∧ y = se then (g.set i tw).set (i + 1) ot else g)) (hN : g.length = N) (hN2 : N ≤ 4096) (hk : k ≤ 1000000000) : Calls Try.prog 34 #[.pointer (some ⟨b0, 0, none⟩), .int .i64 i, .int .i64 2, .func (.func 100) #[] #[.pointer (some ⟨c0, 0, none⟩), .pointer (some ⟨c1, 0, none⟩), .pointer (some ⟨c4, 0, none⟩), .pointer (some ⟨c2, 0, none⟩), .pointer (some ⟨c3, 0, none⟩)]] w fun e w' => e = .returned (.int .i64 0) ∧ Own W (bB c4 t :: uB c3 (ot : Int) :: uB c2 (tw : Int) :: uB c1 (se : Int) :: uB c0 (ol : Int) :: mB b0 b1 N (k + 1) :: wB b1 g' :: m) w' := by
  obtain ⟨y0, y1, f1⟩ := box_m h.skip.skip.skip.skip.skip
  have hlt : i + (2 - 1) < N := by rw [← hN]; exact (List.getElem?_eq_some_iff.1 hy).1
  have h2 := (set_m (h.perm (up5 _ _ _ _ _ _ _)) (k + 1)).perm (up5 _ _ _ _ _ _ _).symm
  have hi1 : (i : Int) ≤ (N : Int) - 2 := by omega
  have he := fun w => Lib.run_eql_slice_nil (P := Try.prog) w 38 26 (some ⟨b1, 0, none⟩) N N 0 0 Try.underlying38
  have HX := Lib.hid hx
  have HY := Lib.hid hy
  have H2 := Lib.hid h2
  clear hx h2 h hN hy
  go_enter Try.func34, Try.ntmps34
  go_wp2_with fail
  refine (cas21_spec _ _ _ _ _ _ _ _ _ _ H2.out HX.out HY.out ht _).mono ?_
  rintro e w3 ⟨rfl, h3⟩
  go_wp2_with fail
  go_ret
  exact ⟨rfl, h3⟩
set_option maxRecDepth 100000 in
theorem load_in  (h : Own W (mB b0 b1 N k :: wB b1 g :: m) w) {i x : Nat} (hx : g[i]? = some x) (hN : g.length = N) (hN2 : N ≤ 4096) (hk : k ≤ 1000000000) : Calls Try.prog 8 #[.pointer (some ⟨b0, 0, none⟩), .int .i64 (i : Int)] w fun e w' => e = .returned (.tuple #[.int .u64 (x : Int), .int .i64 0]) ∧ Own W (mB b0 b1 N (k + 1) :: wB b1 g :: m) w' := by
  have h1 := (h.new (.cells #[.int .u64 0] 26))
  obtain ⟨b, hb⟩ : ∃ b, w.heap.size = b := ⟨_, rfl⟩
  try simp only [World.size_alloc] at h1
  rw [hb] at h1
  have h1 : Own W (uB b 0 :: mB b0 b1 N k :: wB b1 g :: m) _ := h1
  have hac := access_load 0 h1 hx hN hN2 hk
  have HAC := Lib.hid hac
  clear hac h h1 hx hN
  go_enter Try.func8, Try.ntmps8
  go_wp2_with fail
  refine (HAC.out).mono ?_
  rintro e w3 ⟨rfl, h3⟩
  obtain ⟨y0, f0⟩ := box_u h3
  have h4 := set_u h3 (x : Int)
  obtain ⟨z0, -⟩ := box_u h4
  go_wp2_with fail
  exact bodyPost_ret (v := (.tuple #[.int .u64 (x : Int), .int .i64 0])) (by simp [results, Try.f8, go_sem, z0]) rfl ⟨rfl, h4.skip⟩
set_option maxRecDepth 100000 in
theorem load_bad  (h : Own W (mB b0 b1 N k :: wB b1 g :: m) w)  (i : Int) (hi : i < 0 ∨ (N : Int) - 1 < i) (hN2 : N ≤ 4096) (hk : k ≤ 1000000000) : Calls Try.prog 8 #[.pointer (some ⟨b0, 0, none⟩), .int .i64 i] w fun e w' => e = .returned (.tuple #[.int .u64 0, .int .i64 9]) ∧ Own W (mB b0 b1 N k :: wB b1 g :: m) w' := by
  have h1 := (h.new (.cells #[.int .u64 0] 26))
  obtain ⟨b, hb⟩ : ∃ b, w.heap.size = b := ⟨_, rfl⟩
  try simp only [World.size_alloc] at h1
  rw [hb] at h1
  have h1 : Own W (uB b 0 :: mB b0 b1 N k :: wB b1 g :: m) _ := h1
  have hac := fun fv => access_bad fv 1 (by omega) (h1.perm (up1 _ _ _)) i hi hN2 hk
  have HAC := Lib.hid hac
  clear hac h h1 hi
  go_enter Try.func8, Try.ntmps8
  go_wp2_with fail
  refine (HAC.out _).mono ?_
  rintro e w3 ⟨rfl, h3⟩
  have h3 := h3.perm (up1 _ _ _).symm
  obtain ⟨y0, f0⟩ := box_u h3
  have h4 := set_u h3 0
  obtain ⟨z0, -⟩ := box_u h4
  go_wp2_with fail
  exact bodyPost_ret (v := (.tuple #[.int .u64 0, .int .i64 9])) (by simp [results, Try.f8, go_sem, z0]) rfl ⟨rfl, h4.skip⟩
set_option maxRecDepth 100000 in
theorem store_in (v : Nat) (h : Own W (mB b0 b1 N k :: wB b1 g :: m) w) {i x : Nat} (hx : g[i]? = some x) (hN : g.length = N) (hN2 : N ≤ 4096) (hk : k ≤ 1000000000) : Calls Try.prog 17 #[.pointer (some ⟨b0, 0, none⟩), .int .i64 (i : Int), .int .u64 (v : Int)] w fun e w' => e = .returned (.int .i64 0) ∧ Own W (mB b0 b1 N (k + 1) :: wB b1 (g.set i v) :: m) w' := by
  have h1 := (h.new (.cells #[.int .u64 (v : Int)] 26))
  obtain ⟨b, hb⟩ : ∃ b, w.heap.size = b := ⟨_, rfl⟩
  try simp only [World.size_alloc] at h1
  rw [hb] at h1
  have h1 : Own W (uB b (v : Int) :: mB b0 b1 N k :: wB b1 g :: m) _ := h1
  have hac := access_store v h1 hx hN hN2 hk
  have HAC := Lib.hid hac
  clear hac h h1 hx hN
  go_enter Try.func17, Try.ntmps17
  go_wp2_with fail
  refine (HAC.out).mono ?_
  rintro e w3 ⟨rfl, h3⟩
  go_wp2_with fail
  go_ret
  exact ⟨rfl, h3.skip⟩
set_option maxRecDepth 100000 in
theorem store_bad (v : Nat) (h : Own W (mB b0 b1 N k :: wB b1 g :: m) w)  (i : Int) (hi : i < 0 ∨ (N : Int) - 1 < i) (hN2 : N ≤ 4096) (hk : k ≤ 1000000000) : Calls Try.prog 17 #[.pointer (some ⟨b0, 0, none⟩), .int .i64 i, .int .u64 (v : Int)] w fun e w' => e = .returned (.int .i64 9) ∧ Own W (mB b0 b1 N k :: wB b1 g :: m) w' := by
  have h1 := (h.new (.cells #[.int .u64 (v : Int)] 26))
  obtain ⟨b, hb⟩ : ∃ b, w.heap.size = b := ⟨_, rfl⟩
  try simp only [World.size_alloc] at h1
  rw [hb] at h1
  have h1 : Own W (uB b (v : Int) :: mB b0 b1 N k :: wB b1 g :: m) _ := h1
  have hac := fun fv => access_bad fv 1 (by omega) (h1.perm (up1 _ _ _)) i hi hN2 hk
  have HAC := Lib.hid hac
  clear hac h h1 hi
  go_enter Try.func17, Try.ntmps17
  go_wp2_with fail
  refine (HAC.out _).mono ?_
  rintro e w3 ⟨rfl, h3⟩
  have h3 := h3.perm (up1 _ _ _).symm
  go_wp2_with fail
  go_ret
  exact ⟨rfl, h3.skip⟩
set_option maxRecDepth 100000 in
theorem cas2_in (ol se tw ot : Nat) (h : Own W (mB b0 b1 N k :: wB b1 g :: m) w) {i x y : Nat} (hx : g[i]? = some x) (hy : g[i + 1]? = some y) {t : Bool} {g' : List Nat} (ht : Hid (t = decide (x = ol ∧ y = se) ∧ g' = if x = ol ∧ y = se then (g.set i tw).set (i + 1) ot else g)) (hN : g.length = N) (hN2 : N ≤ 4096) (hk : k ≤ 1000000000) : Calls Try.prog 98 #[.pointer (some ⟨b0, 0, none⟩), .int .i64 (i : Int), .int .u64 (ol : Int), .int .u64 (se : Int), .int .u64 (tw : Int), .int .u64 (ot : Int)] w fun e w' => e = .returned (.tuple #[.bool t, .int .i64 0]) ∧ Own W (mB b0 b1 N (k + 1) :: wB b1 g' :: m) w' := by
  have h1 := (((((h.new (.cells #[.int .u64 (ol : Int)] 26)).new (.cells #[.int .u64 (se : Int)] 26)).new (.cells #[.int .u64 (tw : Int)] 26)).new (.cells #[.int .u64 (ot : Int)] 26)).new (.cells #[.bool false] 4))
  obtain ⟨b, hb⟩ : ∃ b, w.heap.size = b := ⟨_, rfl⟩
  try simp only [World.size_alloc] at h1
  rw [hb] at h1
  have h1 : Own W (bB (b + 4) false :: uB (b + 3) (ot : Int) :: uB (b + 2) (tw : Int) :: uB (b + 1) (se : Int) :: uB b (ol : Int) :: mB b0 b1 N k :: wB b1 g :: m) _ := h1
  have hac := access_cas2 false ol se tw ot _ _ _ _ _ h1 hx hy ht hN hN2 hk
  have HAC := Lib.hid hac
  clear hac h h1 hx hy hN
  go_enter Try.func98, Try.ntmps98
  go_wp2_with fail
  refine (HAC.out).mono ?_
  rintro e w3 ⟨rfl, h3⟩
  obtain ⟨y0, f0⟩ := box_b h3
  have h4 := set_b h3 t
  obtain ⟨z0, -⟩ := box_b h4
  go_wp2_with fail
  exact bodyPost_ret (v := (.tuple #[.bool t, .int .i64 0])) (by simp [results, Try.f98, go_sem, z0]) rfl ⟨rfl, h4.skip.skip.skip.skip.skip⟩
set_option maxRecDepth 100000 in
theorem cas2_bad (ol se tw ot : Nat) (h : Own W (mB b0 b1 N k :: wB b1 g :: m) w)  (i : Int) (hi : i < 0 ∨ (N : Int) - 2 < i) (hN2 : N ≤ 4096) (hk : k ≤ 1000000000) : Calls Try.prog 98 #[.pointer (some ⟨b0, 0, none⟩), .int .i64 i, .int .u64 (ol : Int), .int .u64 (se : Int), .int .u64 (tw : Int), .int .u64 (ot : Int)] w fun e w' => e = .returned (.tuple #[.bool false, .int .i64 9]) ∧ Own W (mB b0 b1 N k :: wB b1 g :: m) w' := by
  have h1 := (((((h.new (.cells #[.int .u64 (ol : Int)] 26)).new (.cells #[.int .u64 (se : Int)] 26)).new (.cells #[.int .u64 (tw : Int)] 26)).new (.cells #[.int .u64 (ot : Int)] 26)).new (.cells #[.bool false] 4))
  obtain ⟨b, hb⟩ : ∃ b, w.heap.size = b := ⟨_, rfl⟩
  try simp only [World.size_alloc] at h1
  rw [hb] at h1
  have h1 : Own W (bB (b + 4) false :: uB (b + 3) (ot : Int) :: uB (b + 2) (tw : Int) :: uB (b + 1) (se : Int) :: uB b (ol : Int) :: mB b0 b1 N k :: wB b1 g :: m) _ := h1
  have hac := fun fv => access_bad fv 2 (by omega) (h1.perm (up5 _ _ _ _ _ _ _)) i hi hN2 hk
  have HAC := Lib.hid hac
  clear hac h h1 hi
  go_enter Try.func98, Try.ntmps98
  go_wp2_with fail
  refine (HAC.out _).mono ?_
  rintro e w3 ⟨rfl, h3⟩
  have h3 := h3.perm (up5 _ _ _ _ _ _ _).symm
  obtain ⟨y0, f0⟩ := box_b h3
  have h4 := set_b h3 false
  obtain ⟨z0, -⟩ := box_b h4
  go_wp2_with fail
  exact bodyPost_ret (v := (.tuple #[.bool false, .int .i64 9])) (by simp [results, Try.f98, go_sem, z0]) rfl ⟨rfl, h4.skip.skip.skip.skip.skip⟩
end
end Go.Proofs.Ytmfemophafncnaa.Mem

/-
  Contracts: mem.New, Words; slices.Clone of words. No condition.
-/
namespace Go.Proofs.Ytmfemophafncnaa.Mem
open Go.RowKit
attribute [local go_sem ↓] Go.wp_at_zero Go.wp_at_succ
section
variable {W w : World} {m : List (Nat × Obj)} {b0 b1 N k b : Nat} {g : List Nat} {v : Value}
set_option maxHeartbeats 400000 in
theorem clone_spec (h : Own W m w) (hv : WordsSrc w v g) (hlen : g.length * 8 ≤ 140737488351232) :
    Calls Try.prog 31 #[v] w fun e w' => ∃ v' bs', e = .returned v' ∧ WordsOwn true v' g bs' ∧ Own W (bs' ++ m) w' := by
  rcases hv.2 with ⟨rfl, hn⟩ | ⟨a, c, rfl, hc⟩
  · have hl : g = [] := List.eq_nil_of_length_eq_zero hn
    subst hl
    have he := Lib.run_eql_slice_nil (P := Try.prog) w 38 26 none 0 0 0 0 Try.underlying38
    go_enter Try.func31, Try.ntmps31
    go_wp2
    go_ret
    exact ⟨_, [], rfl, SlO.nil _ _ _, h⟩
  · have he := Lib.run_eql_slice_nil (P := Try.prog) w 38 26 (some a) g.length c 0 0 Try.underlying38
    have hn := h.new (.cells #[] 26)
    have hs0 : WordsOwn true (.slice (some ⟨w.heap.size, 0, none⟩) 0 0) [] [(w.heap.size, .cells #[] 26)] := SlO.made true 26 1 w.heap.size 0 #[] 0 (Nat.le_refl _) (by unfold maxLen; omega) rfl
    have hx := hv.below (w' := w.alloc (.cells #[] 26)) ((Below.refl _ _).alloc (Nat.le_refl _) _)
    clear hv hc
    go_enter Try.func31, Try.ntmps31
    go_wp2_with (at_builtin; refine wpList_app_words rfl _ _ rfl rfl rfl hs0 hn hx (by simpa using hlen) ?_; intro v' w' bs' h1 h2 h3; have H1 := Lib.hid h1; clear h1 h3)
    go_ret
    exact ⟨_, bs', rfl, H1.out, h2⟩
theorem src_row (h : Own W (wB b1 g :: m) w) : WordsSrc w (.slice (some ⟨b1, 0, none⟩) g.length g.length) g :=
  ⟨by rw [words_len, Nat.mul_one], .inr ⟨_, _, rfl, fun j u hj => by
    rw [add_lit0]
    have hjl : j < g.length := by
      have := (List.getElem?_eq_some_iff.1 hj).1
      rw [words_len] at this
      exact this
    have hg1 : g[j]? = some (g[j]'hjl) := List.getElem?_eq_getElem hjl
    rw [words_get hg1] at hj
    rw [(cell_w h hg1).1, ← hj]⟩⟩
theorem words_spec (h : Own W (mB b0 b1 N k :: wB b1 g :: m) w) (hN : g.length = N) (hN2 : N ≤ 4096) :
    Calls Try.prog 6 #[.pointer (some ⟨b0, 0, none⟩)] w fun e w' => ∃ v' bs', e = .returned v' ∧ WordsOwn true v' g bs' ∧ Own W (bs' ++ (mB b0 b1 N k :: wB b1 g :: m)) w' := by
  obtain ⟨y0, y1, f1⟩ := box_m h
  have hs := src_row h.skip
  have hc := clone_spec h hs (by omega)
  rw [hN] at hc
  have HC := Lib.hid hc
  clear hc hs h hN
  go_enter Try.func6, Try.ntmps6
  go_wp2_with fail
  refine HC.out.mono ?_
  rintro e w3 ⟨v', bs', rfl, h3, h4⟩
  obtain ⟨A, c, rfl, -, -⟩ := h3.slice
  have H3 := Lib.hid h3
  have H4 := Lib.hid h4
  clear h3 h4
  go_wp2_with fail
  go_ret
  exact ⟨_, bs', rfl, H3.out, H4.out⟩
theorem row_zero (n : Nat) : Array.replicate n (Value.int .u64 0) = wRow (List.replicate n 0) := by
  unfold wRow words
  simp
set_option maxRecDepth 100000 in
theorem new_spec (h : Own W m w) (h1 : 1 ≤ N) (h2 : N ≤ 4096) :
    Calls Try.prog 13 #[.int .i64 N] w fun e w' => ∃ b0 b1, e = .returned (.tuple #[.pointer (some ⟨b0, 0, none⟩), .int .i64 0]) ∧ Own W (mB b0 b1 N 0 :: wB b1 (List.replicate N 0) :: m) w' := by
  obtain ⟨i, hi, hzz, hs, hby⟩ := info_get word_info
  have hmk := fun W => run_make_rowN (P := Try.prog) 38 26 i _ Try.underlying38 hi hzz .i64 .i64 N N (Nat.le_refl _) (by rw [hby]; omega) (by omega) W
  rw [hs, Nat.mul_one, madeCells_const _ (.int .u64 0) _ (by simp [Value.cells]) (by intro j hj; obtain rfl : j = 0 := (by simp [Value.cells] at hj; omega); rfl), row_zero] at hmk
  clear hi hzz hs hby
  have h3 : Own W (wB w.heap.size (List.replicate N 0) :: m) _ := h.new (.cells (wRow (List.replicate N 0)) 26)
  have h4 := h3.new (.cells #[.slice (some ⟨w.heap.size, 0, none⟩) N N, .int .i64 0] 78)
  rw [World.size_alloc] at h4
  have hi1 : (1 : Int) ≤ N := by omega
  have hi2 : (N : Int) ≤ 4096 := by omega
  clear h h3
  go_enter Try.func13, Try.ntmps13
  go_wp2_with fail
  go_ret2
  exact ⟨_, _, rfl, h4⟩
end
end Go.Proofs.Ytmfemophafncnaa.Mem

/-
  chart.See, and the words of a memory, as known calls of the runner. No condition.
-/
namespace Go.Proofs.Ytmfemophafncnaa.Ex
open Go Mem See
open Go.RowKit
section
/-- which lists of a core are empty: of its slots, of its shelf, of its slabs -/
structure Sh where
  slots : List (Bool × Bool)
  shelf : Bool
  slabs : List Bool
def cn : Bool → Nat
  | true => 0
  | false => 1
def lsAV : Bool → Nat → Nat → AV
  | true, _, _ => .zsl
  | false, nm, q => .dsl nm (.len (.lvar q)) 1
def lsTB : Bool → Nat → List TB
  | true, _ => []
  | false, q => [.recs (.lvar q) [.int .i64] 3]
def slotAV : List (Bool × Bool) → Nat → Nat → Nat → List AV
  | [], _, _, _ => []
  | (e1, e2) :: r, b, q, nm => .sym .i64 (.var b) :: lsAV e1 nm q :: .sym .u64 (.var (b + 1)) :: lsAV e2 (nm + cn e1) (q + 1) :: slotAV r (b + 2) (q + 2) (nm + cn e1 + cn e2)
def slotTB : List (Bool × Bool) → Nat → List TB
  | [], _ => []
  | (e1, e2) :: r, q => lsTB e1 q ++ (lsTB e2 (q + 1) ++ slotTB r (q + 2))
def slotCn : List (Bool × Bool) → Nat
  | [] => 0
  | (e1, e2) :: r => cn e1 + cn e2 + slotCn r
def slabAV : List Bool → Nat → Nat → Nat → List AV
  | [], _, _, _ => []
  | e :: r, b, q, nm => .sym .i64 (.var b) :: .sym .i64 (.var (b + 1)) :: .bsym (.eq (.var (b + 2)) (.lit 0)) false :: .bsym (.eq (.var (b + 3)) (.lit 0)) false :: lsAV e nm q :: slabAV r (b + 4) (q + 1) (nm + cn e)
def slabTB : List Bool → Nat → List TB
  | [], _ => []
  | e :: r, q => lsTB e q ++ slabTB r (q + 1)
def Sh.n (s : Sh) : Nat := s.slots.length
def seeNews (s : Sh) (b q : Nat) : List TB :=
  .cells (slotAV s.slots b q (rel + 1)) 68 :: (slotTB s.slots q ++ (lsTB s.shelf (q + 2 * s.n) ++ (.cells (slabAV s.slabs (b + 2 * s.n + 1) (q + 2 * s.n + 1) (rel + 1 + slotCn s.slots + cn s.shelf + 1)) 50 :: slabTB s.slabs (q + 2 * s.n + 1))))
def seeRes (s : Sh) (b q : Nat) : AV :=
  .tup [.agg [.sl rel 0 s.n 4 .any, lsAV s.shelf (rel + 1 + slotCn s.slots) (q + 2 * s.n), .bsym (.eq (.var (b + 2 * s.n)) (.lit 0)) false, .sl (rel + 1 + slotCn s.slots + cn s.shelf) 0 s.slabs.length 5 .any], .int .i64 0]
/-- a core that is seen: its words are the slice of that name -/
def kcSee (nW qW : Nat) (ch : AV) (s : Sh) (b q : Nat) : Kc := { f := 5, args := [.dsl nW (.len (.lvar qW)) 1, ch], pre := [(nW, .recs (.lvar qW) [.int .u64] 26)], news := seeNews s b q, res := seeRes s b q }
/-- words of a memory -/
def kcWords (n0 n1 i qW : Nat) : Kc := { f := 6, args := [.ptr n0 0], pre := [(n0, .opb i n0 n1), (n1, .opb (i + 1) n0 n1)], post := [(n0, .opb i n0 n1), (n1, .opb (i + 1) n0 n1)], news := [.recs (.lvar qW) [.int .u64] 26], res := .dsl rel (.len (.lvar qW)) 1 }
/-! what numbers must be -/
def LsVal (σ : Nat → Int) (q : Nat) (L : List Int) : Prop := (σ (ln q)).toNat = L.length ∧ ∀ (i : Nat) x, L[i]? = some x → σ (lc q i 0) = x
def SlotVal (σ : Nat → Int) : List SlotP → List (Bool × Bool) → Nat → Nat → Prop
  | [], [], _, _ => True
  | s :: r, (e1, e2) :: t, b, q => (e1 = s.list.isEmpty ∧ e2 = s.parts.isEmpty) ∧ (σ b = s.slab ∧ σ (b + 1) = s.turn) ∧ (LsVal σ q s.list ∧ LsVal σ (q + 1) s.parts) ∧ SlotVal σ r t (b + 2) (q + 2)
  | _, _, _, _ => False
def SlabVal (σ : Nat → Int) : List SlabP → List Bool → Nat → Nat → Prop
  | [], [], _, _ => True
  | s :: r, e :: t, b, q => e = s.first.isEmpty ∧ (σ b = s.counts.inuse ∧ σ (b + 1) = s.counts.objects ∧ (s.counts.frozen = !(σ (b + 2) == 0)) ∧ s.counts.live = !(σ (b + 3) == 0)) ∧ LsVal σ q s.first ∧ SlabVal σ r t (b + 4) (q + 1)
  | _, _, _, _ => False
def SeeVal (σ : Nat → Int) (K : CoreP) (s : Sh) (b q : Nat) : Prop :=
  SlotVal σ K.slots s.slots b q ∧ (s.shelf = K.shelf.isEmpty ∧ LsVal σ (q + 2 * s.n) K.shelf ∧ K.locked = !(σ (b + 2 * s.n) == 0)) ∧ SlabVal σ K.slabs s.slabs (b + 2 * s.n + 1) (q + 2 * s.n + 1) ∧ 0 < s.n ∧ 0 < s.slabs.length
/-! blocks under names, from one on -/
def NamedAt (ρ : Ren) (nm : Nat) (ds : List (Nat × Obj)) : Prop := ∀ (i : Nat) d, ds[i]? = some d → ρ (nm + i) = some (d.1, objSize d.2)
theorem NamedAt.left {ρ : Ren} {nm : Nat} {a b : List (Nat × Obj)} (h : NamedAt ρ nm (a ++ b)) : NamedAt ρ nm a := fun i d hi => h i d (by rw [List.getElem?_append_left (List.getElem?_eq_some_iff.1 hi).1]; exact hi)
theorem NamedAt.right {ρ : Ren} {nm : Nat} {a b : List (Nat × Obj)} (h : NamedAt ρ nm (a ++ b)) : NamedAt ρ (nm + a.length) b := fun i d hi => by
  have := h (a.length + i) d (by rw [List.getElem?_append_right (by omega), Nat.add_sub_cancel_left]; exact hi)
  rw [← this]
  congr 1
  omega
def AllTR [Nums] (ρ : Ren) : List TB → List (Nat × Obj) → Prop
  | [], [] => True
  | t :: ts, d :: ds => TR ρ t (objSize d.2) (some d.2) ∧ AllTR ρ ts ds
  | _, _ => False
theorem AllTR.append [Nums] {ρ : Ren} : ∀ {a b : List TB} {x y : List (Nat × Obj)}, AllTR ρ a x → AllTR ρ b y → AllTR ρ (a ++ b) (x ++ y)
  | [], _, [], _, _, h => h
  | [], _, _ :: _, _, h, _ => h.elim
  | _ :: _, _, [], _, h, _ => h.elim
  | t :: a, _, d :: x, _, h, k => ⟨h.1, AllTR.append h.2 k⟩
theorem AllTR.get [Nums] {ρ : Ren} : ∀ {a : List TB} {x : List (Nat × Obj)}, AllTR ρ a x → ∀ (i : Nat) t d, a[i]? = some t → x[i]? = some d → TR ρ t (objSize d.2) (some d.2)
  | [], [], _, _, _, _, h, _ => by simp at h
  | [], _ :: _, h, _, _, _, _, _ => h.elim
  | _ :: _, [], h, _, _, _, _, _ => h.elim
  | t :: a, d :: x, h, 0, _, _, h1, h2 => by
    simp only [List.getElem?_cons_zero, Option.some.injEq] at h1 h2
    subst h1; subst h2
    exact h.1
  | t :: a, d :: x, h, i + 1, _, _, h1, h2 => AllTR.get h.2 i _ _ (by simpa using h1) (by simpa using h2)
variable [Nums]
/-- a list that is owned -/
theorem ls_own {v : Value} {L : List Int} {bs : List (Nat × Obj)} {e : Bool} (h : IntsOwn true v L bs) (he : e = L.isEmpty) : ∃ ds, ds.Sublist bs ∧ ds.length = cn e ∧
    ∀ (ρ : Ren) (nm q : Nat), NamedAt ρ nm ds → LsVal Nums.σ q L → VR ρ (lsAV e nm q) v ∧ AllTR ρ (lsTB e q) ds := by
  subst he
  cases L with
  | nil =>
    refine ⟨[], List.nil_sublist _, rfl, fun ρ nm q _ _ => ⟨?_, trivial⟩⟩
    obtain ⟨A, c, rfl, _, h2⟩ := SlO.slice h
    show VR ρ .zsl _
    unfold VR
    exact ⟨A, c, rfl, h2⟩
  | cons x L =>
    obtain ⟨g, cap, cur, rfl, rfl, h1, h2, ⟨h3, h4⟩, h5⟩ := SlO.form h (by simp)
    have h4 := h4 rfl
    refine ⟨[(g, .cells cur 3)], List.Sublist.refl _, rfl, fun ρ nm q hn hv => ?_⟩
    have hn := hn 0 _ rfl
    rw [Nat.add_zero] at hn
    have hn : ρ nm = some (g, cur.size) := hn
    refine ⟨?_, ?_, trivial⟩
    · show VR ρ (.dsl nm (.len (.lvar q)) 1) _
      unfold VR
      refine ⟨g, cur.size, _, cap, hn, rfl, h1, h2, h4.symm, ?_⟩
      simp only [SE.ev, SE.evN, hv.1]
    · refine ⟨cur, rfl, rfl, ?_, fun r j k hr hk => ?_⟩
      · simp only [SE.evN, hv.1, List.length_cons, List.length_nil, Nat.zero_add, Nat.mul_one]
        simp only [List.length_cons] at h1
        show L.length + 1 ≤ cur.size
        omega
      · simp only [SE.evN, hv.1] at hr
        have hj : j = 0 := by
          have := (List.getElem?_eq_some_iff.1 hk).1
          simp only [List.length_cons, List.length_nil] at this
          omega
        subst hj
        simp only [List.getElem?_cons_zero, Option.some.injEq] at hk
        subst hk
        simp only [List.length_cons, List.length_nil, Nat.zero_add, Nat.mul_one, Nat.add_zero, SE.evA]
        rw [hv.2 r _ (List.getElem?_eq_getElem hr)]
        have h6 : (cur.toList.take ((x :: L).length * 1))[r]? = (ints (x :: L))[r]? := by rw [h5]
        rw [List.getElem?_take, if_pos (by omega)] at h6
        rw [← Array.getElem?_toList, h6]
        unfold ints
        rw [List.getElem?_map, List.getElem?_eq_getElem hr]
        rfl
omit [Nums] in
theorem allOne_cons {v : AV} {l : List AV} (h : v.one = true) (hl : allOne l = true) : allOne (v :: l) = true := by
  unfold allOne
  rw [h]
  exact hl
omit [Nums] in
theorem lsAV_one (e : Bool) (nm q : Nat) : (lsAV e nm q).one = true := by cases e <;> rfl
theorem slots_own : ∀ {Ls : List SlotN} {t : List (Bool × Bool)} {b q : Nat}, SlotsOk Ls → SlotVal Nums.σ (Ls.map (·.x)) t b q → ∃ ds, ds.Sublist (slotBlocks Ls) ∧ ds.length = slotCn t ∧
    ∀ (ρ : Ren) (nm : Nat), NamedAt ρ nm ds → VRs ρ (slotAV t b q nm) (slotCells Ls) ∧ AllTR ρ (slotTB t q) ds ∧ allOne (slotAV t b q nm) = true
  | [], [], b, q, _, _ => ⟨[], List.nil_sublist _, rfl, fun ρ nm _ => ⟨VRs.nil, trivial, rfl⟩⟩
  | [], _ :: _, _, _, _, h => by simp [SlotVal] at h
  | s :: Ls, [], _, _, _, h => by simp [SlotVal] at h
  | s :: Ls, (e1, e2) :: t, b, q, ho, h => by
    simp only [List.map_cons, SlotVal] at h
    obtain ⟨⟨h1, h2⟩, ⟨h3, h4⟩, ⟨h5, h6⟩, h7⟩ := h
    obtain ⟨o1, o2⟩ := ho s List.mem_cons_self
    obtain ⟨d1, s1, n1, k1⟩ := ls_own o1 h1
    obtain ⟨d2, s2, n2, k2⟩ := ls_own o2 h2
    obtain ⟨d3, s3, n3, k3⟩ := slots_own (fun x hx => ho x (List.mem_cons_of_mem _ hx)) h7
    refine ⟨d1 ++ (d2 ++ d3), ?_, by simp only [List.length_append, slotCn, n1, n2, n3]; omega, fun ρ nm hn => ?_⟩
    · have : slotBlocks (s :: Ls) = s.lb ++ (s.pb ++ slotBlocks Ls) := by simp [slotBlocks]
      rw [this]
      exact s1.append (s2.append s3)
    · obtain ⟨v1, t1⟩ := k1 ρ nm q hn.left h5
      have hr := hn.right
      rw [n1] at hr
      obtain ⟨v2, t2⟩ := k2 ρ (nm + cn e1) (q + 1) hr.left h6
      have hr2 := hr.right
      rw [n2] at hr2
      obtain ⟨v3, t3, o3⟩ := k3 ρ (nm + cn e1 + cn e2) hr2
      refine ⟨?_, AllTR.append t1 (AllTR.append t2 t3), ?_⟩
      · have : slotCells (s :: Ls) = .int .i64 s.x.slab :: s.lv :: .int .u64 s.x.turn :: s.pv :: slotCells Ls := by simp [slotCells, SlotN.cells]
        rw [this]
        unfold slotAV
        refine VRs.cons ?_ (VRs.cons v1 (VRs.cons ?_ (VRs.cons v2 v3)))
        · unfold VR; simp only [SE.ev, h3]
        · unfold VR; simp only [SE.ev, h4]
      · exact allOne_cons rfl (allOne_cons (lsAV_one _ _ _) (allOne_cons rfl (allOne_cons (lsAV_one _ _ _) o3)))
theorem slabs_own : ∀ {Ls : List SlabN} {t : List Bool} {b q : Nat}, SlabsOk Ls → SlabVal Nums.σ (Ls.map (·.x)) t b q → ∃ ds, ds.Sublist (slabBlocks Ls) ∧
    ∀ (ρ : Ren) (nm : Nat), NamedAt ρ nm ds → VRs ρ (slabAV t b q nm) (slabCells Ls) ∧ AllTR ρ (slabTB t q) ds ∧ allOne (slabAV t b q nm) = true
  | [], [], b, q, _, _ => ⟨[], List.nil_sublist _, fun ρ nm _ => ⟨VRs.nil, trivial, rfl⟩⟩
  | [], _ :: _, _, _, _, h => by simp [SlabVal] at h
  | s :: Ls, [], _, _, _, h => by simp [SlabVal] at h
  | s :: Ls, e :: t, b, q, ho, h => by
    simp only [List.map_cons, SlabVal] at h
    obtain ⟨h1, ⟨h2, h3, h4, h5⟩, h6, h7⟩ := h
    obtain ⟨d1, s1, n1, k1⟩ := ls_own (ho s List.mem_cons_self) h1
    obtain ⟨d3, s3, k3⟩ := slabs_own (fun x hx => ho x (List.mem_cons_of_mem _ hx)) h7
    refine ⟨d1 ++ d3, ?_, fun ρ nm hn => ?_⟩
    · have : slabBlocks (s :: Ls) = s.b ++ slabBlocks Ls := by simp [slabBlocks]
      rw [this]
      exact s1.append s3
    · obtain ⟨v1, t1⟩ := k1 ρ nm q hn.left h6
      have hr := hn.right
      rw [n1] at hr
      obtain ⟨v3, t3, o3⟩ := k3 ρ (nm + cn e) hr
      refine ⟨?_, AllTR.append t1 t3, ?_⟩
      · have : slabCells (s :: Ls) = .int .i64 s.x.counts.inuse :: .int .i64 s.x.counts.objects :: .bool s.x.counts.frozen :: .bool s.x.counts.live :: s.v :: slabCells Ls := by simp [slabCells, SlabN.cells]
        rw [this]
        unfold slabAV
        refine VRs.cons ?_ (VRs.cons ?_ (VRs.cons ?_ (VRs.cons ?_ (VRs.cons v1 v3))))
        · unfold VR; simp only [SE.ev, h2]
        · unfold VR; simp only [SE.ev, h3]
        · unfold VR; simp only [Cnd.ev, SE.ev, h4]; cases (Nums.σ (b + 2) == 0) <;> rfl
        · unfold VR; simp only [Cnd.ev, SE.ev, h5]; cases (Nums.σ (b + 3) == 0) <;> rfl
      · exact allOne_cons rfl (allOne_cons rfl (allOne_cons rfl (allOne_cons rfl (allOne_cons (lsAV_one _ _ _) o3))))
omit [Nums] in
theorem slotVal_len {σ : Nat → Int} : ∀ {L : List SlotP} {t : List (Bool × Bool)} {b q : Nat}, SlotVal σ L t b q → L.length = t.length
  | [], [], _, _, _ => rfl
  | [], _ :: _, _, _, h => by simp [SlotVal] at h
  | _ :: _, [], _, _, h => by simp [SlotVal] at h
  | s :: L, (e1, e2) :: t, b, q, h => by
    simp only [SlotVal] at h
    simp [slotVal_len h.2.2.2]
omit [Nums] in
theorem slabVal_len {σ : Nat → Int} : ∀ {L : List SlabP} {t : List Bool} {b q : Nat}, SlabVal σ L t b q → L.length = t.length
  | [], [], _, _, _ => rfl
  | [], _ :: _, _, _, h => by simp [SlabVal] at h
  | _ :: _, [], _, _, h => by simp [SlabVal] at h
  | s :: L, e :: t, b, q, h => by
    simp only [SlabVal] at h
    simp [slabVal_len h.2.2.2]
/-- a slice of structs that is owned -/
theorem row_own {v : Value} {n sz : Nat} {e : TypeId} {xs : List Value} {bs : List (Nat × Obj)} (h : SlO true e sz v n xs bs) (hn : 0 < n) : ∃ d, bs = [d] ∧
    ∀ (ρ : Ren) (nm : Nat) (l : List AV), ρ nm = some (d.1, objSize d.2) → VRs ρ l xs → allOne l = true → VR ρ (.sl nm 0 n sz .any) v ∧ TR ρ (.cells l e) (objSize d.2) (some d.2) := by
  have hl := h.1
  obtain ⟨g, cap, cur, rfl, rfl, h1, h2, ⟨h3, h4⟩, h5⟩ := SlO.form h hn
  refine ⟨_, rfl, fun ρ nm l hnm hv ho => ⟨?_, cur, rfl, rfl, ?_, fun i u hu => ?_⟩⟩
  · unfold VR
    exact ⟨g, _, cap, hnm, rfl, h1, h2, trivial⟩
  · rw [hv.len, hl]
    have := Nat.mul_le_mul_right sz h1
    show n * sz ≤ cur.size
    omega
  · obtain ⟨y, hy, hyr⟩ := hv.get hu
    refine ⟨allOne_mem ho u (List.mem_of_getElem? hu), y, ?_, hyr⟩
    rw [← h5, List.getElem?_take] at hy
    split at hy
    · rw [← Array.getElem?_toList]; exact hy
    · cases hy
variable {c : Ch} {g : List Nat} {K : CoreP} {s : Sh} {b q qW nW : Nat}
omit [Nums] in
theorem fn_see : FnOk Try.prog 5 := ⟨Try.f5, _, Try.func5, by kernel_rfl, rfl⟩
omit [Nums] in
theorem fn_words : FnOk Try.prog 6 := ⟨Try.f6, _, Try.func6, by kernel_rfl, rfl⟩
theorem kc_see {ch : AV} {d e : Int} (hnW : nW < rel) (hsh : ch.shut = true) (hch : valOf Nums.σ ch = cV c d e) (hc : COk c d e) (hgw : W64 g) (hgl : g.length = c.words) (hgv : LsVal Nums.σ qW (g.map fun (x : Nat) => (x : Int)))
    (hK : seeP c g = some K) (hv : SeeVal Nums.σ K s b q) : KcOk Try.prog (kcSee nW qW ch s b q) := by
  refine kc_own fn_see (by intro p hp; cases hp) (by intro p hp; simp only [kcSee, List.mem_cons, List.not_mem_nil, or_false] at hp; subst hp; exact hnW) fun _ ρ W w m args' bs hF ha hO => ?_
  obtain ⟨bw, ow, sw, r, rfl, pw, tw, rfl⟩ := hF
  obtain ⟨y, y2, hy, hp, hch2⟩ := VRs.two ha
  unfold VR at hp
  obtain ⟨bw', zw, len, cap, pw', rfl, hlc, hcm, hz, hlen⟩ := hp
  rw [pw] at pw'
  cases pw'
  have hch3 := VR.shut hch2 hsh
  rw [hch] at hch3
  subst hch3
  obtain ⟨cur, hcur, hsz, hle, hat⟩ := tw
  simp only [Option.some.injEq] at hcur
  subst hcur
  simp only [SE.ev, SE.evN, hgv.1, List.length_map] at hlen hle hat
  have hlen : len = g.length := by omega
  subst hlen
  have hargs2 : args' = #[.slice (some ⟨bw, 0, none⟩) g.length cap, cV c d e] := by
    apply Array.ext'
    rw [hy]
  subst hargs2
  have hrd : Rd W ((bw, .cells cur 26) :: m) bw 0 g := fun ws hws j x hj => by
    have hjl := (List.getElem?_eq_some_iff.1 hj).1
    rw [hws.cell List.mem_cons_self]
    have := hat j 0 (.int .u64) hjl rfl
    simp only [List.length_cons, List.length_nil, Nat.zero_add, Nat.mul_one, Nat.add_zero, SE.evA] at this
    rw [Nat.zero_add, this, hgv.2 j (x : Int) (by simp [hj])]
    rfl
  refine (see_spec (W := W) (m := (bw, .cells cur 26) :: m) hO hc ⟨hrd, rfl, hgl, hgw, hlc, hcm⟩).mono ?_
  rintro e' w' hpost
  rw [hK] at hpost
  obtain ⟨v, bs, rfl, hCo, hO2⟩ := hpost
  obtain ⟨Ls, sv, b0, hv0, b1, Ll, lv, b2, rfl, hLs, hso, hsv, hsh1, hLl, hlo, hlv, rfl⟩ := hCo.out
  obtain ⟨v1, ⟨v2, v3, v4⟩, v5, v6, v7⟩ := hv
  rw [← hLs] at v1
  rw [← hLl] at v5
  have n1 : Ls.length = s.n := by have := slotVal_len v1; rwa [List.length_map] at this
  have n2 : Ll.length = s.slabs.length := by have := slabVal_len v5; rwa [List.length_map] at this
  obtain ⟨dd0, rfl, r0⟩ := row_own hsv (by omega)
  obtain ⟨dd2, rfl, r2⟩ := row_own hlv (by omega)
  obtain ⟨ds1, sb1, l1, k1⟩ := slots_own hso v1
  obtain ⟨ds2, sb2, l2, k2⟩ := ls_own hsh1 v2
  obtain ⟨ds3, sb3, k3⟩ := slabs_own hlo v5
  refine ⟨_, [dd0] ++ (ds1 ++ (ds2 ++ ([dd2] ++ ds3))), [(bw, .cells cur 26)], rfl, ?_, rfl, ?_, fun ρ' hk hd => ?_⟩
  · refine hO2.sub ?_
    exact ((List.Sublist.refl _).append (sb1.append (sb2.append ((List.Sublist.refl _).append sb3)))).append (List.Sublist.refl _)
  · -- lengths
    have hsl : ∀ (t : List (Bool × Bool)) (q : Nat), (slotTB t q).length = slotCn t := by
      intro t
      induction t with
      | nil => intro q; rfl
      | cons p t ih =>
        intro q
        obtain ⟨e1, e2⟩ := p
        simp only [slotTB, slotCn, List.length_append, ih]
        cases e1 <;> cases e2 <;> simp [lsTB, cn] <;> omega
    have hls : ∀ (e : Bool) (q : Nat), (lsTB e q).length = cn e := fun e q => by cases e <;> rfl
    have h3 : (slabTB s.slabs (b + 2 * s.n + 1)).length = ds3.length := by
      have hn : ∀ (ρ : Ren) {a : List TB} {x : List (Nat × Obj)}, AllTR ρ a x → a.length = x.length := by
        intro ρ a
        induction a with
        | nil => intro x h; cases x with
          | nil => rfl
          | cons _ _ => exact h.elim
        | cons t a ih => intro x h; cases x with
          | nil => exact h.elim
          | cons d x => simp [ih h.2]
      have hsb : ∀ (t : List Bool) (q q' : Nat), (slabTB t q).length = (slabTB t q').length := by
        intro t
        induction t with
        | nil => intro q q'; rfl
        | cons e t ih =>
          intro q q'
          simp only [slabTB, List.length_append, hls]
          rw [ih (q + 1) (q' + 1)]
      obtain ⟨_, t3, _⟩ := k3 (fun n => (ds3[n]?).map fun d => (d.1, objSize d.2)) 0 (fun i d hi => by simp [hi])
      rw [← hn _ t3]
      exact hsb _ _ _
    have h3' : (slabTB s.slabs (q + 2 * s.n + 1)).length = (slabTB s.slabs (b + 2 * s.n + 1)).length := by
      have hsb : ∀ (t : List Bool) (q q' : Nat), (slabTB t q).length = (slabTB t q').length := by
        intro t
        induction t with
        | nil => intro q q'; rfl
        | cons e t ih =>
          intro q q'
          simp only [slabTB, List.length_append, hls]
          rw [ih (q + 1) (q' + 1)]
      exact hsb _ _ _
    simp only [kcSee, seeNews, List.length_append, List.length_cons, List.length_nil, hsl, hls, l1, l2, h3', h3]
    omega
  · have hN : NamedAt ρ' rel ([dd0] ++ (ds1 ++ (ds2 ++ ([dd2] ++ ds3)))) := hd
    have a0 : ρ' rel = some (dd0.1, objSize dd0.2) := hN 0 _ rfl
    have h1 := hN.right
    have h2 := h1.right
    have h3 := h2.right
    have h4 := h3.right
    simp only [List.length_cons, List.length_nil, Nat.zero_add, l1, l2] at h1 h2 h3 h4
    obtain ⟨x1, x2, x3⟩ := k1 ρ' (rel + 1) h1.left
    obtain ⟨x4, x5⟩ := k2 ρ' (rel + 1 + slotCn s.slots) (q + 2 * s.n) h2.left v3
    have a2 : ρ' (rel + 1 + slotCn s.slots + cn s.shelf) = some (dd2.1, objSize dd2.2) := by
      have := h3.left 0 _ rfl
      rwa [Nat.add_zero] at this
    obtain ⟨x6, x7, x8⟩ := k3 ρ' (rel + 1 + slotCn s.slots + cn s.shelf + 1) h4
    obtain ⟨y1, y2⟩ := r0 ρ' rel _ a0 x1 x3
    obtain ⟨y3, y4⟩ := r2 ρ' (rel + 1 + slotCn s.slots + cn s.shelf) _ a2 x6 x8
    rw [n1] at y1
    rw [n2] at y3
    refine ⟨?_, fun i t d hi hd2 => ?_, fun p hp => by cases hp⟩
    · show VR ρ' (seeRes s b q) _
      unfold seeRes VR
      refine ⟨_, rfl, VRs.cons ?_ (VRs.cons (by unfold VR; rfl) VRs.nil)⟩
      unfold VR
      refine ⟨_, rfl, VRs.cons y1 (VRs.cons x4 (VRs.cons ?_ (VRs.cons y3 VRs.nil)))⟩
      unfold VR
      simp only [Cnd.ev, SE.ev, v4]
      cases (Nums.σ (b + 2 * s.n) == 0) <;> rfl
    · have hall : AllTR ρ' (seeNews s b q) ([dd0] ++ (ds1 ++ (ds2 ++ ([dd2] ++ ds3)))) := by
        unfold seeNews
        have h7 : AllTR ρ' (.cells (slabAV s.slabs (b + 2 * s.n + 1) (q + 2 * s.n + 1) (rel + 1 + slotCn s.slots + cn s.shelf + 1)) 50 :: slabTB s.slabs (q + 2 * s.n + 1)) (dd2 :: ds3) := ⟨y4, x7⟩
        exact ⟨y2, AllTR.append (x := ds1) (y := ds2 ++ (dd2 :: ds3)) x2 (AllTR.append x5 h7)⟩
      exact hall.get i t d hi hd2
theorem kc_words {i n0 n1 N : Nat} (hn0 : n0 < rel) (hn1 : n1 < rel) (hN : g.length = N) (hpos : 0 < N) (hN2 : N ≤ 4096) (hgv : LsVal Nums.σ qW (g.map fun (x : Nat) => (x : Int)))
    (h0 : ∀ b0 b1 o, Nums.Ω i b0 b1 o → ∃ k, (b0, o) = mB b0 b1 N k) (h1 : ∀ b0 b1 o, Nums.Ω (i + 1) b0 b1 o → (b1, o) = wB b1 g) : KcOk Try.prog (kcWords n0 n1 i qW) := by
  refine kc_own fn_words (by intro p hp; simp only [kcWords, List.mem_cons, List.not_mem_nil, or_false] at hp; exact hp.elim (fun h => h ▸ ⟨_, List.mem_cons_self⟩) (fun h => h ▸ ⟨_, List.mem_cons_of_mem _ List.mem_cons_self⟩))
    (by intro p hp; simp only [kcWords, List.mem_cons, List.not_mem_nil, or_false] at hp; rcases hp with rfl | rfl <;> assumption) fun hcs ρ W w m args' bs hF ha hO => ?_
  obtain ⟨b0, o0, s0, r, rfl, p0, t0, b1, o1, s1, r1, rfl, p1, t1, rfl⟩ := hF
  have w0 := opb_inv t0 p0 p1
  have w1 := opb_inv t1 p0 p1
  obtain ⟨y, hy, hp⟩ := ha.one
  obtain ⟨c0, z0, q0, rfl⟩ := hp.ptr_inv
  rw [p0] at q0
  cases q0
  have hargs2 : args' = #[.pointer (some ⟨b0, 0, none⟩)] := by apply Array.ext'; rw [hy]
  subst hargs2
  obtain ⟨k, e0⟩ := h0 _ _ _ w0
  have e1 := h1 _ _ _ w1
  have hO2 : Own W (mB b0 b1 N k :: wB b1 g :: m) w := by rw [← e0, ← e1]; exact hO
  refine (words_spec hO2 hN hN2).mono ?_
  rintro e w' ⟨v', bs', rfl, hv, h'⟩
  obtain ⟨gg, cap, cur, rfl, rfl, c1, c2, ⟨c3, c4⟩, c5⟩ := SlO.form hv (by omega)
  have c4 := c4 rfl
  rw [← e0, ← e1] at h'
  refine ⟨_, [(gg, .cells cur 26)], [(b0, o0), (b1, o1)], rfl, h', rfl, rfl, fun ρ' hk hd => ?_⟩
  have d0 : ρ' rel = some (gg, cur.size) := hd 0 _ rfl
  refine ⟨?_, fun j t d hj hd2 => ?_, fun p hp => ?_⟩
  · show VR ρ' (.dsl rel (.len (.lvar qW)) 1) _
    unfold VR
    refine ⟨gg, cur.size, _, cap, d0, rfl, c1, c2, c4.symm, ?_⟩
    simp only [SE.ev, SE.evN, hgv.1, List.length_map]
  · match j with
    | 0 =>
      simp only [kcWords, List.getElem?_cons_zero, Option.some.injEq] at hj hd2
      subst hj; subst hd2
      refine ⟨cur, rfl, rfl, ?_, fun r j' k' hr hk' => ?_⟩
      · simp only [SE.evN, hgv.1, List.length_map, List.length_cons, List.length_nil, Nat.zero_add, Nat.mul_one]
        show g.length ≤ cur.size
        omega
      · simp only [SE.evN, hgv.1, List.length_map] at hr
        have hj0 : j' = 0 := by
          have := (List.getElem?_eq_some_iff.1 hk').1
          simp only [List.length_cons, List.length_nil] at this
          omega
        subst hj0
        simp only [List.getElem?_cons_zero, Option.some.injEq] at hk'
        subst hk'
        simp only [List.length_cons, List.length_nil, Nat.zero_add, Nat.mul_one, Nat.add_zero, SE.evA]
        rw [hgv.2 r (g[r] : Int) (by simp [List.getElem?_eq_getElem hr])]
        have h6 : (cur.toList.take (g.length * 1))[r]? = (words g)[r]? := by rw [c5]
        rw [List.getElem?_take, if_pos (by omega), words_get (List.getElem?_eq_getElem hr)] at h6
        rw [← Array.getElem?_toList, h6]
        rfl
    | j + 1 => simp [kcWords] at hj
  · simp only [kcWords, List.mem_cons, List.not_mem_nil, or_false] at hp
    have q0 := hk _ _ hn0 p0
    have q1 := hk _ _ hn1 p1
    rcases hp with rfl | rfl
    · exact ⟨b0, o0, s0, by simp, p0, opb_mk q0 q1 w0⟩
    · exact ⟨b1, o1, s1, by simp, p1, opb_mk q0 q1 w1⟩
end
end Go.Proofs.Ytmfemophafncnaa.Ex
