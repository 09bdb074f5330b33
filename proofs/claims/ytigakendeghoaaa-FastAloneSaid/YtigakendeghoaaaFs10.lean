/-
  Texts of this claim, joined. No condition.
-/
import Derived.Test.YtigakendeghoaaaFs7
import Derived.Test.YtigakendeghoaaaFs9
/-
  Contracts: the document's counts (wainscotref17): may, Pack, Counts.
-/
namespace Go.Proofs.Ytigakendeghoaaa.See
open Go.RowKit
attribute [local go_sem ↓] Go.wp_at_zero Go.wp_at_succ
section
variable {W w : World} {m : List (Nat × Obj)}
set_option maxHeartbeats 1000000 in
theorem rmay_spec (h : Own W m w) (a b : Int) (f l : Bool) : Calls Try.prog 123 #[.agg #[.int .i64 a, .int .i64 b, .bool f, .bool l]] w fun e w' => e = .returned (.bool (mayB a b f l)) ∧ Own W m w' := by
  have h0 := h.alloc (.cells #[.int .i64 a, .int .i64 b, .bool f, .bool l] 80)
  cases hm : mayB a b f l with
  | true =>
    rcases of_decide_eq_true hm with ⟨rfl, h1, h2, h3, h4⟩ | ⟨rfl, rfl, rfl, rfl⟩
    · clear hm
      go_enter Try.func123, Try.ntmps123
      go_wp2_with fail
      go_ret
      exact ⟨rfl, h0⟩
    · clear hm
      go_enter Try.func123, Try.ntmps123
      go_wp2_with fail
      go_ret
      exact ⟨rfl, h0⟩
  | false =>
    have hm := of_decide_eq_false hm
    cases l with
    | false =>
      have hn : ¬ (a = 0 ∧ b = 0 ∧ f = false) := fun hh => hm (.inr ⟨hh.1, hh.2.1, hh.2.2, rfl⟩)
      by_cases ha : a = 0
      · by_cases hb : b = 0
        · have hf : f = true := by
            cases f
            · exact absurd ⟨ha, hb, rfl⟩ hn
            · rfl
          subst ha hb hf
          clear hm hn
          go_enter Try.func123, Try.ntmps123
          go_wp2_with fail
          go_ret
          exact ⟨rfl, h0⟩
        · have hbb : (b == 0) = false := beq_eq_false_iff_ne.2 hb
          subst ha
          clear hm hn
          go_enter Try.func123, Try.ntmps123
          go_wp2_with fail
          go_ret
          exact ⟨rfl, h0⟩
      · have hab : (a == 0) = false := beq_eq_false_iff_ne.2 ha
        clear hm hn
        go_enter Try.func123, Try.ntmps123
        go_wp2_with fail
        go_ret
        exact ⟨rfl, h0⟩
    | true =>
      have hn : ¬ (1 ≤ b ∧ b ≤ 16 ∧ 0 ≤ a ∧ a ≤ b) := fun hh => hm (.inl ⟨rfl, hh⟩)
      clear hm
      rcases (show b < 1 ∨ (1 ≤ b ∧ 16 < b) ∨ (1 ≤ b ∧ b ≤ 16 ∧ a < 0) ∨ (1 ≤ b ∧ b ≤ 16 ∧ 0 ≤ a ∧ b < a) by omega) with h1 | ⟨h1, h2⟩ | ⟨h1, h2, h3⟩ | ⟨h1, h2, h3, h4⟩
      all_goals
        clear hn
        try have h5 : ¬ a ≤ b := by omega
        go_enter Try.func123, Try.ntmps123
        go_wp2_with fail
        go_ret
        exact ⟨rfl, h0⟩
/-- the word of counts -/
def packW (A B : Nat) (f l : Bool) : Nat := A + 256 * B + (if f then 65536 else 0) + (if l then 131072 else 0)
set_option maxHeartbeats 1000000 in
theorem rpack_ok (h : Own W m w) (A B : Nat) (ha : A ≤ 255) (hb : B ≤ 255) (f l : Bool) (hm : mayB A B f l = true) : Calls Try.prog 108 #[.agg #[.int .i64 A, .int .i64 B, .bool f, .bool l]] w fun e w' => e = .returned (.tuple #[.int .u64 (packW A B f l), .int .i64 0]) ∧ Own W m w' := by
  have h1 := h.new (.cells #[.int .i64 A, .int .i64 B, .bool f, .bool l] 80)
  obtain ⟨g, hg⟩ : ∃ g, w.heap.size = g := ⟨_, rfl⟩
  rw [hg] at h1
  have hmm := fun ws (hs : Own W ((g, Obj.cells #[.int .i64 A, .int .i64 B, .bool f, .bool l] 80 (0, 0)) :: m) ws) => rmay_spec hs A B f l
  rw [hm] at hmm
  have HM := Lib.hid hmm
  clear hm hmm
  cases f <;> cases l
  all_goals
    go_enter Try.func108, Try.ntmps108
    go_wp2_with fail
    refine (HM.out _ h1).mono ?_
    rintro e w3 ⟨rfl, h3⟩
    have z := h3.cell List.mem_cons_self
    have z0 := z 0
    have z1 := z 1
    have z2 := z 2
    have z3 := z 3
    simp at z0 z1 z2 z3
    clear z
    go_wp2_with fail
    go_ret2
    exact ⟨by simp [packW] <;> rfl, h3.skip⟩
theorem rpack_bad (h : Own W m w) (a b : Int) (f l : Bool) (hm : mayB a b f l = false) : Calls Try.prog 108 #[.agg #[.int .i64 a, .int .i64 b, .bool f, .bool l]] w fun e w' => e = .returned (.tuple #[.int .u64 0, .int .i64 2]) ∧ Own W m w' := by
  have h1 := h.new (.cells #[.int .i64 a, .int .i64 b, .bool f, .bool l] 80)
  obtain ⟨g, hg⟩ : ∃ g, w.heap.size = g := ⟨_, rfl⟩
  rw [hg] at h1
  have hmm := fun ws (hs : Own W ((g, Obj.cells #[.int .i64 a, .int .i64 b, .bool f, .bool l] 80 (0, 0)) :: m) ws) => rmay_spec hs a b f l
  rw [hm] at hmm
  have HM := Lib.hid hmm
  clear hm hmm
  go_enter Try.func108, Try.ntmps108
  go_wp2_with fail
  refine (HM.out _ h1).mono ?_
  rintro e w3 ⟨rfl, h3⟩
  go_wp2_with fail
  go_ret2
  exact ⟨rfl, h3.skip⟩
theorem packW_nat (x A B F L : Nat) (f l : Bool) (hx : x < 262144) (hA : x % 256 = A) (hB : x / 256 % 256 = B) (hF : x / 65536 % 2 = F) (hL : x / 131072 % 2 = L) (hf : decide (F = 1) = f) (hl : decide (L = 1) = l) : packW A B f l = x := by
  unfold packW
  subst hf hl
  rcases (show F = 0 ∨ F = 1 by omega) with h | h <;> rcases (show L = 0 ∨ L = 1 by omega) with h' | h' <;> rw [h, h'] <;> simp <;> omega
theorem packW_lt (A B : Nat) (f l : Bool) (ha : A ≤ 255) (hb : B ≤ 255) : packW A B f l < 262144 := by
  unfold packW
  cases f <;> cases l <;> simp <;> omega
theorem countsOf_rmay (x A B : Nat) (f l : Bool) (hA : x % 256 = A) (hB : x / 256 % 256 = B) (hf : decide (x / 65536 % 2 = 1) = f) (hl : decide (x / 131072 % 2 = 1) = l) :
    countsOf x = if mayB A B f l = true ∧ packW A B f l = x then some ⟨A, B, f, l⟩ else none := by
  subst hA hB hf hl
  by_cases hx : x < 262144
  · rw [countsOf_may x hx]
    have hp := packW_nat x _ _ _ _ _ _ hx rfl rfl rfl rfl rfl rfl
    simp only [hp, and_true]
  · rw [countsOf_big x (by omega), if_neg]
    rintro ⟨-, h2⟩
    have := packW_lt (x % 256) (x / 256 % 256) (decide (x / 65536 % 2 = 1)) (decide (x / 131072 % 2 = 1)) (by omega) (by omega)
    omega
set_option maxRecDepth 100000 in
set_option maxHeartbeats 2000000 in
theorem rcounts_spec (h : Own W m w) (x : Nat) (hx : x < 18446744073709551616) : Calls Try.prog 88 #[.int .u64 x] w fun e w' => e = .returned (countsV x) ∧ Own W m w' := by
  obtain ⟨A, hA⟩ : ∃ A, x % 256 = A := ⟨_, rfl⟩
  obtain ⟨B, hB⟩ : ∃ B, x / 256 % 256 = B := ⟨_, rfl⟩
  obtain ⟨F, hF⟩ : ∃ F, x / 65536 % 2 = F := ⟨_, rfl⟩
  obtain ⟨L, hL⟩ : ∃ L, x / 131072 % 2 = L := ⟨_, rfl⟩
  obtain ⟨f, hf⟩ : ∃ f, decide (F = 1) = f := ⟨_, rfl⟩
  obtain ⟨l, hl⟩ : ∃ l, decide (L = 1) = l := ⟨_, rfl⟩
  have hc := countsOf_rmay x A B f l hA hB (by rw [hF]; exact hf) (by rw [hL]; exact hl)
  have A255 : A ≤ 255 := by omega
  have B255 : B ≤ 255 := by omega
  have d0 : IntKind.u64.wrap ((x : Int) / 256) = ((x / 256 : Nat) : Int) := by
    rw [IntKind.wrap_u64]
    omega
  have d1 : IntKind.u64.wrap ((x : Int) / 65536) = ((x / 65536 : Nat) : Int) := by
    rw [IntKind.wrap_u64]
    omega
  have d2 : IntKind.u64.wrap ((x : Int) / 131072) = ((x / 131072 : Nat) : Int) := by
    rw [IntKind.wrap_u64]
    omega
  obtain ⟨Q0, q0⟩ : ∃ Q, x / 256 = Q := ⟨_, rfl⟩
  obtain ⟨Q1, q1⟩ : ∃ Q, x / 65536 = Q := ⟨_, rfl⟩
  obtain ⟨Q2, q2⟩ : ∃ Q, x / 131072 = Q := ⟨_, rfl⟩
  rw [q0] at d0 hB
  rw [q1] at d1 hF
  rw [q2] at d2 hL
  have hAi : (x : Int) % 256 = (A : Int) := by omega
  have hBi : (Q0 : Int) % 256 = (B : Int) := by omega
  have hFi : (Q1 : Int) % 2 = (F : Int) := by omega
  have hLi : (Q2 : Int) % 2 = (L : Int) := by omega
  have b3 : ((F : Int) == 1) = f := by
    rw [← hf]
    by_cases h : F = 1
    · subst h; rfl
    · rw [beq_eq_false_iff_ne.2 (by omega), decide_eq_false h]
  have b4 : ((L : Int) == 1) = l := by
    rw [← hl]
    by_cases h : L = 1
    · subst h; rfl
    · rw [beq_eq_false_iff_ne.2 (by omega), decide_eq_false h]
  have h1 := h.new (.cells #[.int .i64 0, .int .i64 0, .bool false, .bool false] 80)
  have h2 := h1.new (.cells #[.int .i64 A, .int .i64 B, .bool f, .bool l] 80)
  simp only [World.size_alloc] at h2
  obtain ⟨g, hg⟩ : ∃ g, w.heap.size = g := ⟨_, rfl⟩
  rw [hg] at h1 h2
  unfold countsV
  clear hA hB hF hL hf hl q0 q1 q2 hx h h1
  by_cases hmay : mayB A B f l = true
  · have hm := fun ws (hs : Own W ((g + 1, Obj.cells #[.int .i64 A, .int .i64 B, .bool f, .bool l] 80 (0, 0)) :: (g, Obj.cells #[.int .i64 0, .int .i64 0, .bool false, .bool false] 80 (0, 0)) :: m) ws) => rpack_ok hs A B A255 B255 f l hmay
    have HM := Lib.hid hm
    by_cases hp : packW A B f l = x
    · rw [if_pos ⟨hmay, hp⟩] at hc
      rw [hc]
      have hb : (((packW A B f l : Nat) : Int) == (x : Int)) = true := by simp [hp]
      clear hm hmay hc hp
      go_enter Try.func88, Try.ntmps88
      go_wp2_with fail
      refine (HM.out _ h2).mono ?_
      rintro e w3 ⟨rfl, h3⟩
      have q := h3.cell List.mem_cons_self
      have u := h3.frozen (List.mem_cons_of_mem _ List.mem_cons_self)
      have q0 := q 0
      have q1 := q 1
      have q2 := q 2
      have q3 := q 3
      have u0 := u 0
      have u1 := u 1
      have u2 := u 2
      have u3 := u 3
      simp at q0 q1 q2 q3
      have z := h3.cell (List.mem_cons_of_mem _ List.mem_cons_self)
      have z0 := z 0
      have z1 := z 1
      have z2 := z 2
      have z3 := z 3
      simp at z0 z1 z2 z3
      clear q u z b3 b4 hAi hBi hFi hLi d0 d1 d2
      go_wp2_with fail
      have h4 : Own W ([(g + 1, Obj.cells #[.int .i64 A, .int .i64 B, .bool f, .bool l] 80 (0, 0))] ++ (g, Obj.cells #[.int .i64 0, .int .i64 0, .bool false, .bool false] 80 (0, 0)) :: m) w3 := h3
      have h5 := (((h4.setIn 0 (.int .i64 A)).setIn 1 (.int .i64 B)).setIn 2 (.bool f)).setIn 3 (.bool l)
      have ec := h5.cell (List.mem_append_right _ List.mem_cons_self)
      have e0 := ec 0
      have e1 := ec 1
      have e2 := ec 2
      have e3 := ec 3
      simp at e0 e1 e2 e3
      exact bodyPost_ret (v := .tuple #[.agg #[(.int .i64 A), (.int .i64 B), (.bool f), (.bool l)], .bool true]) (by simp [results, Try.f88, go_sem, e0, e1, e2, e3]) rfl ⟨rfl, h5.drop1.dropL⟩
    · rw [if_neg (by intro hh; exact hp hh.2)] at hc
      rw [hc]
      have hb : (((packW A B f l : Nat) : Int) == (x : Int)) = false := by simp; omega
      clear hm hmay hc hp
      go_enter Try.func88, Try.ntmps88
      go_wp2_with fail
      refine (HM.out _ h2).mono ?_
      rintro e w3 ⟨rfl, h3⟩
      have q := h3.cell List.mem_cons_self
      have u := h3.frozen (List.mem_cons_of_mem _ List.mem_cons_self)
      have q0 := q 0
      have q1 := q 1
      have q2 := q 2
      have q3 := q 3
      have u0 := u 0
      have u1 := u 1
      have u2 := u 2
      have u3 := u 3
      simp at q0 q1 q2 q3
      have z := h3.cell (List.mem_cons_of_mem _ List.mem_cons_self)
      have z0 := z 0
      have z1 := z 1
      have z2 := z 2
      have z3 := z 3
      simp at z0 z1 z2 z3
      clear q u z b3 b4 hAi hBi hFi hLi d0 d1 d2
      go_wp2_with fail
      have h4 : Own W ([(g + 1, Obj.cells #[.int .i64 A, .int .i64 B, .bool f, .bool l] 80 (0, 0))] ++ (g, Obj.cells #[.int .i64 0, .int .i64 0, .bool false, .bool false] 80 (0, 0)) :: m) w3 := h3
      have h5 := (((h4.setIn 0 (.int .i64 0)).setIn 1 (.int .i64 0)).setIn 2 (.bool false)).setIn 3 (.bool false)
      have ec := h5.cell (List.mem_append_right _ List.mem_cons_self)
      have e0 := ec 0
      have e1 := ec 1
      have e2 := ec 2
      have e3 := ec 3
      simp at e0 e1 e2 e3
      exact bodyPost_ret (v := .tuple #[.agg #[(.int .i64 0), (.int .i64 0), (.bool false), (.bool false)], .bool false]) (by simp [results, Try.f88, go_sem, e0, e1, e2, e3]) rfl ⟨rfl, h5.drop1.dropL⟩
  · rw [if_neg (by intro hh; exact hmay hh.1)] at hc
    rw [hc]
    have hm := fun ws (hs : Own W ((g + 1, Obj.cells #[.int .i64 A, .int .i64 B, .bool f, .bool l] 80 (0, 0)) :: (g, Obj.cells #[.int .i64 0, .int .i64 0, .bool false, .bool false] 80 (0, 0)) :: m) ws) => rpack_bad hs A B f l (by simpa using hmay)
    have HM := Lib.hid hm
    clear hm hmay hc
    go_enter Try.func88, Try.ntmps88
    go_wp2_with fail
    refine (HM.out _ h2).mono ?_
    rintro e w3 ⟨rfl, h3⟩
    have u := h3.frozen (List.mem_cons_of_mem _ List.mem_cons_self)
    have u0 := u 0
    have u1 := u 1
    have u2 := u 2
    have u3 := u 3
    have z := h3.cell (List.mem_cons_of_mem _ List.mem_cons_self)
    have z0 := z 0
    have z1 := z 1
    have z2 := z 2
    have z3 := z 3
    simp at z0 z1 z2 z3
    clear u z b3 b4 hAi hBi hFi hLi d0 d1 d2
    go_wp2_with fail
    have h4 : Own W ([(g + 1, Obj.cells #[.int .i64 A, .int .i64 B, .bool f, .bool l] 80 (0, 0))] ++ (g, Obj.cells #[.int .i64 0, .int .i64 0, .bool false, .bool false] 80 (0, 0)) :: m) w3 := h3
    have h5 := (((h4.setIn 0 (.int .i64 0)).setIn 1 (.int .i64 0)).setIn 2 (.bool false)).setIn 3 (.bool false)
    have ec := h5.cell (List.mem_append_right _ List.mem_cons_self)
    have e0 := ec 0
    have e1 := ec 1
    have e2 := ec 2
    have e3 := ec 3
    simp at e0 e1 e2 e3
    exact bodyPost_ret (v := .tuple #[.agg #[(.int .i64 0), (.int .i64 0), (.bool false), (.bool false)], .bool false]) (by simp [results, Try.f88, go_sem, e0, e1, e2, e3]) rfl ⟨rfl, h5.drop1.dropL⟩
end
end Go.Proofs.Ytigakendeghoaaa.See

/-
  Contract: a slab (reader.slab). No condition.
-/
namespace Go.Proofs.Ytigakendeghoaaa.See
open Go.RowKit
open chartPlaces (Ok)
attribute [local go_sem ↓] Go.wp_at_zero Go.wp_at_succ
section
variable {W w : World} {M m : List (Nat × Obj)} {B o N k b : Nat} {g : List Nat} {c : Ch} {d e : Int}
/-- what slab answers -/
def SlabPost (W : World) (m : List (Nat × Obj)) (r : Option SlabP) (e : Ending) (w' : World) : Prop := match r with
  | some x => ∃ v bs, e = .returned (.tuple #[.agg #[.int .i64 x.counts.inuse, .int .i64 x.counts.objects, .bool x.counts.frozen, .bool x.counts.live, v], .bool true]) ∧ Hid (IntsOwn true v x.first bs) ∧ Own W (bs ++ m) w'
  | none => e = .returned (.tuple #[.agg #[.int .i64 0, .int .i64 0, .bool false, .bool false, .slice none 0 0], .bool false]) ∧ Own W m w'
/-- a slab's block -/
def lBlk (b : Nat) (a o : Int) (f l : Bool) (v : Value) : Nat × Obj := (b, .cells #[.int .i64 a, .int .i64 o, .bool f, .bool l, v] 82)
theorem box5 {b : Nat} {a o : Int} {f l : Bool} {v : Value} (h : Own W (lBlk b a o f l v :: m) w) : (w.cell? ⟨b, 0, none⟩ = some (.int .i64 a) ∧ w.cell? ⟨b, 1, none⟩ = some (.int .i64 o) ∧ w.cell? ⟨b, 2, none⟩ = some (.bool f) ∧ w.cell? ⟨b, 3, none⟩ = some (.bool l) ∧ w.cell? ⟨b, 4, none⟩ = some v) ∧ (w.frozen? ⟨b, 0, none⟩ = false ∧ w.frozen? ⟨b, 1, none⟩ = false ∧ w.frozen? ⟨b, 2, none⟩ = false ∧ w.frozen? ⟨b, 3, none⟩ = false ∧ w.frozen? ⟨b, 4, none⟩ = false) :=
  ⟨⟨h.cell List.mem_cons_self 0, h.cell List.mem_cons_self 1, h.cell List.mem_cons_self 2, h.cell List.mem_cons_self 3, h.cell List.mem_cons_self 4⟩, ⟨h.frozen List.mem_cons_self 0, h.frozen List.mem_cons_self 1, h.frozen List.mem_cons_self 2, h.frozen List.mem_cons_self 3, h.frozen List.mem_cons_self 4⟩⟩
theorem lset {b : Nat} {a o a' o' : Int} {f l f' l' : Bool} {v v' : Value} (h : Own W (lBlk b a o f l v :: m) w) : Own W (lBlk b a' o' f' l' v' :: m) (((((w.setCell ⟨b, 0, none⟩ (.int .i64 a')).setCell ⟨b, 1, none⟩ (.int .i64 o')).setCell ⟨b, 2, none⟩ (.bool f')).setCell ⟨b, 3, none⟩ (.bool l')).setCell ⟨b, 4, none⟩ v') := by
  have h1 := ((((h.set 0 (.int .i64 a')).set 1 (.int .i64 o')).set 2 (.bool f')).set 3 (.bool l')).set 4 v'
  exact h1
theorem lset4 {b : Nat} {a o a' o' : Int} {f l f' l' : Bool} {v : Value} (h : Own W (lBlk b a o f l v :: m) w) : Own W (lBlk b a' o' f' l' v :: m) ((((w.setCell ⟨b, 0, none⟩ (.int .i64 a')).setCell ⟨b, 1, none⟩ (.int .i64 o')).setCell ⟨b, 2, none⟩ (.bool f')).setCell ⟨b, 3, none⟩ (.bool l')) := by
  have h1 := (((h.set 0 (.int .i64 a')).set 1 (.int .i64 o')).set 2 (.bool f')).set 3 (.bool l')
  exact h1
theorem lsetv {b : Nat} {a o : Int} {f l : Bool} {v v' : Value} (h : Own W (lBlk b a o f l v :: m) w) : Own W (lBlk b a o f l v' :: m) (w.setCell ⟨b, 4, none⟩ v') := h.set 4 v'
set_option maxRecDepth 100000 in
set_option maxHeartbeats 4000000 in
theorem rslab_spec (h : Own W m w) (hc : COk c d e) (hw : WOk W m B o N k g c) (s : Nat) (hs : s < c.S) :
    Calls Try.prog 67 #[rV B o N k c d e, .int .i64 s] w (SlabPost W m (slabP c g s)) := by
  obtain ⟨n1, n2, n3, n4, n5, n6⟩ := hc.nums
  have h1 := (h.new (.cells #[.slice (some ⟨B, o, none⟩) N k, .int .i64 c.C, .int .i64 c.S, .int .i64 c.O, .int .i64 d, .int .i64 e, .int .u64 c.key] 84)).new (.cells #[.int .i64 0, .int .i64 0, .bool false, .bool false, .slice none 0 0] 82)
  obtain ⟨b, hb⟩ : ∃ b, w.heap.size = b := ⟨_, rfl⟩
  simp only [World.size_alloc] at h1
  rw [hb] at h1
  have h1 : Own W (lBlk (b + 1) 0 0 false false (.slice none 0 0) :: (rBlk b B o N k c d e :: m)) _ := h1
  obtain ⟨y0, y1, y2, y3, y4, y5, y6⟩ := box7 h1.skip
  have hN := hw.n
  unfold Ch.words at hN
  have hii : 0 ≤ (s : Int) ∧ (s : Int) < (c.S : Int) := by omega
  obtain ⟨p, hp⟩ : ∃ p : Nat, 4 * c.C + 4 + 4 * s = p := ⟨_, rfl⟩
  have hpi : 4 * (c.C : Int) + 4 + 4 * (s : Int) = (p : Int) := by omega
  have HPI := Lib.hid hpi
  have hpN : p + 1 < N := by omega
  have hp0 : (0 : Int) ≤ (p : Int) := by omega
  have hp1 : (p : Int) < (N : Int) := by omega
  have hp2 : (p : Int) + 1 < (N : Int) := by omega
  have hp5 : (0 : Int) ≤ (p : Int) + 1 := by omega
  have hpb : p ≤ 200 := by omega
  obtain ⟨x0, hx0⟩ : ∃ x, g[p]? = some x := ⟨_, List.getElem?_eq_getElem (by rw [hw.len]; omega)⟩
  obtain ⟨x1, hx1⟩ : ∃ x, g[p + 1]? = some x := ⟨_, List.getElem?_eq_getElem (by rw [hw.len]; omega)⟩
  have a0 : at_ g (4 * c.C + 4 + 4 * s) = x0 := by unfold at_; rw [hp, List.getD_eq_getElem?_getD, hx0]; rfl
  have a1 : at_ g (4 * c.C + 4 + 4 * s + 1) = x1 := by unfold at_; rw [hp, List.getD_eq_getElem?_getD, hx1]; rfl
  have hcs := fun ws (hws : Own W (lBlk (b + 1) 0 0 false false (.slice none 0 0) :: (rBlk b B o N k c d e :: m)) ws) => counts_spec hws x1 (hw.w64 x1 (List.mem_of_getElem? hx1))
  have HG : Hid (∀ ws, Own W m ws → ws.cell? ⟨B, o + p, none⟩ = some (.int .u64 (x0 : Int)) ∧ ws.cell? ⟨B, o + (p + 1), none⟩ = some (.int .u64 (x1 : Int))) := fun ws hws => ⟨hw.rd ws hws p x0 hx0, hw.rd ws hws (p + 1) x1 hx1⟩
  unfold slabP
  rw [a0, a1]
  unfold countsV at hcs
  have HC := Lib.hid hc
  have HW := Lib.hid hw
  have HI := Lib.hid hii
  have H1 := Lib.hid h1
  clear hN hp hpi hx0 hx1 a0 a1 hw hc hii h1 h
-- BODY
  cases hh : countsOf x1 with
  | none =>
    rw [hh] at hcs
    have HH := Lib.hid hcs
    simp only
    clear hh hcs
    unfold rV
    go_enter Try.func67, Try.ntmps67
    go_wp2_with fail
    refine (Apart.first_ok HC.out.ok HI.out H1.out).mono ?_
    rintro r w2 ⟨rfl, h2⟩
    rw [HPI.out]
    clear y0 y1 y2 y3 y4 y5 y6
    obtain ⟨y0, y1, y2, y3, y4, y5, y6⟩ := box7 h2.skip
    obtain ⟨q0, q1⟩ := HG.out _ h2.skip.skip
    go_wp2_with fail
    refine (HH.out _ h2).mono ?_
    rintro r w3 ⟨rfl, h3⟩
    clear y0 y1 y2 y3 y4 y5 y6 q0 q1
    obtain ⟨y0, y1, y2, y3, y4, y5, y6⟩ := box7 h3.skip
    obtain ⟨q0, q1⟩ := HG.out _ h3.skip.skip
    obtain ⟨⟨z0, z1, z2, z3, z4⟩, ⟨f0, f1, f2, f3, f4⟩⟩ := box5 h3
    go_wp2_with fail
    have h8 := lset4 (a' := 0) (o' := 0) (f' := false) (l' := false) h3
    have h9 := lset (a' := 0) (o' := 0) (f' := false) (l' := false) (v' := (.slice none 0 0)) h8
    obtain ⟨⟨e0, e1, e2, e3, e4⟩, -⟩ := box5 h9
    exact bodyPost_ret (v := .tuple #[.agg #[.int .i64 0, .int .i64 0, .bool false, .bool false, (.slice none 0 0)], .bool false]) (by simp [results, Try.f67, go_sem, e0, e1, e2, e3, e4]) rfl ⟨rfl, h9.skip.skip⟩
  | some v =>
    obtain ⟨n0, n1', fr, li⟩ := v
    rw [hh] at hcs
    simp only at hcs ⊢
    have HH := Lib.hid hcs
    clear hh hcs
    by_cases hbig : c.O < x0
    · have hbi : (c.O : Int) < (x0 : Int) := by omega
      rw [if_pos hbig]
      unfold rV
      go_enter Try.func67, Try.ntmps67
      go_wp2_with fail
      refine (Apart.first_ok HC.out.ok HI.out H1.out).mono ?_
      rintro r w2 ⟨rfl, h2⟩
      rw [HPI.out]
      clear y0 y1 y2 y3 y4 y5 y6
      obtain ⟨y0, y1, y2, y3, y4, y5, y6⟩ := box7 h2.skip
      obtain ⟨q0, q1⟩ := HG.out _ h2.skip.skip
      go_wp2_with fail
      refine (HH.out _ h2).mono ?_
      rintro r w3 ⟨rfl, h3⟩
      clear y0 y1 y2 y3 y4 y5 y6 q0 q1
      obtain ⟨y0, y1, y2, y3, y4, y5, y6⟩ := box7 h3.skip
      obtain ⟨q0, q1⟩ := HG.out _ h3.skip.skip
      obtain ⟨⟨z0, z1, z2, z3, z4⟩, ⟨f0, f1, f2, f3, f4⟩⟩ := box5 h3
      go_wp2_with fail
      have h8 := lset4 (a' := (n0 : Int)) (o' := (n1' : Int)) (f' := fr) (l' := li) h3
      have h9 := lset (a' := 0) (o' := 0) (f' := false) (l' := false) (v' := (.slice none 0 0)) h8
      obtain ⟨⟨e0, e1, e2, e3, e4⟩, -⟩ := box5 h9
      exact bodyPost_ret (v := .tuple #[.agg #[.int .i64 0, .int .i64 0, .bool false, .bool false, (.slice none 0 0)], .bool false]) (by simp [results, Try.f67, go_sem, e0, e1, e2, e3, e4]) rfl ⟨rfl, h9.skip.skip⟩
    · have hbi : ¬ (c.O : Int) < (x0 : Int) := by omega
      have hx16 : (x0 : Int) ≤ 16 := by omega
      rw [if_neg hbig]
      have hrl := fun ws (hws : Own W (lBlk (b + 1) n0 n1' fr li (.slice none 0 0) :: (rBlk b B o N k c d e :: m)) ws) => rlist_spec hws HC.out ((HW.out.more (m' := [rBlk b B o N k c d e])).more (m' := [lBlk (b + 1) n0 n1' fr li (.slice none 0 0)])) s hs ((x0 : Int) - 1) (by omega)
      cases hl : listP c g s ((x0 : Int) - 1) with
      | none =>
        rw [hl] at hrl
        have HRL := Lib.hid hrl
        simp only
        clear hl hrl
        unfold rV
        go_enter Try.func67, Try.ntmps67
        go_wp2_with fail
        refine (Apart.first_ok HC.out.ok HI.out H1.out).mono ?_
        rintro r w2 ⟨rfl, h2⟩
        rw [HPI.out]
        clear y0 y1 y2 y3 y4 y5 y6
        obtain ⟨y0, y1, y2, y3, y4, y5, y6⟩ := box7 h2.skip
        obtain ⟨q0, q1⟩ := HG.out _ h2.skip.skip
        go_wp2_with fail
        refine (HH.out _ h2).mono ?_
        rintro r w3 ⟨rfl, h3⟩
        clear y0 y1 y2 y3 y4 y5 y6 q0 q1
        obtain ⟨y0, y1, y2, y3, y4, y5, y6⟩ := box7 h3.skip
        obtain ⟨q0, q1⟩ := HG.out _ h3.skip.skip
        obtain ⟨⟨z0, z1, z2, z3, z4⟩, ⟨f0, f1, f2, f3, f4⟩⟩ := box5 h3
        go_wp2_with fail
        have h4 := lset4 (a' := (n0 : Int)) (o' := (n1' : Int)) (f' := fr) (l' := li) h3
        refine (HRL.out _ h4).mono ?_
        rintro r w6 ⟨rfl, h6⟩
        clear y0 y1 y2 y3 y4 y5 y6 q0 q1 z0 z1 z2 z3 z4 f0 f1 f2 f3 f4 h2 h3 h4
        obtain ⟨⟨z0, z1, z2, z3, z4⟩, ⟨f0, f1, f2, f3, f4⟩⟩ := box5 h6
        go_wp2_with fail
        have h8 := lsetv (v' := .slice none 0 0) h6
        have h9 := lset (a' := 0) (o' := 0) (f' := false) (l' := false) (v' := (.slice none 0 0)) h8
        obtain ⟨⟨e0, e1, e2, e3, e4⟩, -⟩ := box5 h9
        exact bodyPost_ret (v := .tuple #[.agg #[.int .i64 0, .int .i64 0, .bool false, .bool false, (.slice none 0 0)], .bool false]) (by simp [results, Try.f67, go_sem, e0, e1, e2, e3, e4]) rfl ⟨rfl, h9.skip.skip⟩
      | some l1 =>
        rw [hl] at hrl
        have HRL := Lib.hid hrl
        simp only
        clear hl hrl
        unfold rV
        go_enter Try.func67, Try.ntmps67
        go_wp2_with fail
        refine (Apart.first_ok HC.out.ok HI.out H1.out).mono ?_
        rintro r w2 ⟨rfl, h2⟩
        rw [HPI.out]
        clear y0 y1 y2 y3 y4 y5 y6
        obtain ⟨y0, y1, y2, y3, y4, y5, y6⟩ := box7 h2.skip
        obtain ⟨q0, q1⟩ := HG.out _ h2.skip.skip
        go_wp2_with fail
        refine (HH.out _ h2).mono ?_
        rintro r w3 ⟨rfl, h3⟩
        clear y0 y1 y2 y3 y4 y5 y6 q0 q1
        obtain ⟨y0, y1, y2, y3, y4, y5, y6⟩ := box7 h3.skip
        obtain ⟨q0, q1⟩ := HG.out _ h3.skip.skip
        obtain ⟨⟨z0, z1, z2, z3, z4⟩, ⟨f0, f1, f2, f3, f4⟩⟩ := box5 h3
        go_wp2_with fail
        have h4 := lset4 (a' := (n0 : Int)) (o' := (n1' : Int)) (f' := fr) (l' := li) h3
        refine (HRL.out _ h4).mono ?_
        rintro r w6 ⟨v7, b7, rfl, K7, h6⟩
        obtain ⟨A7, c7, hv7, -, -⟩ := K7.out.slice
        subst hv7
        clear y0 y1 y2 y3 y4 y5 y6 q0 q1 z0 z1 z2 z3 z4 f0 f1 f2 f3 f4 h2 h3 h4
        have h7 : Own W (lBlk (b + 1) n0 n1' fr li (.slice none 0 0) :: (b7 ++ (rBlk b B o N k c d e :: m))) w6 := h6.perm List.perm_middle
        obtain ⟨⟨z0, z1, z2, z3, z4⟩, ⟨f0, f1, f2, f3, f4⟩⟩ := box5 h7
        go_wp2_with fail
        have h8 := lsetv (v' := .slice A7 l1.length c7) h7
        have h9 := lset (a' := (n0 : Int)) (o' := (n1' : Int)) (f' := fr) (l' := li) (v' := (.slice A7 l1.length c7)) h8
        obtain ⟨⟨e0, e1, e2, e3, e4⟩, -⟩ := box5 h9
        exact bodyPost_ret (v := .tuple #[.agg #[.int .i64 (n0 : Int), .int .i64 (n1' : Int), .bool fr, .bool li, (.slice A7 l1.length c7)], .bool true]) (by simp [results, Try.f67, go_sem, e0, e1, e2, e3, e4]) rfl ⟨_, b7, rfl, K7, h9.skip.drop1⟩
-- BODYEND
end
end Go.Proofs.Ytigakendeghoaaa.See

/-
  Contract: a slab, the document's (wainscotref21.slab). No condition. (Printed by mkrslab.py.)
-/
namespace Go.Proofs.Ytigakendeghoaaa.See
open Go.RowKit
open Apart (chV chB ChAt box6 box6')
open chartPlaces (Ok)
attribute [local go_sem ↓] Go.wp_at_zero Go.wp_at_succ
section
variable {W w : World} {M m : List (Nat × Obj)} {B o N k b : Nat} {g : List Nat} {c : Ch} {d e : Int}
/-- what slab answers -/
def RSlabPost (W : World) (m : List (Nat × Obj)) (r : Option SlabP) (e : Ending) (w' : World) : Prop := match r with
  | some x => ∃ v bs, e = .returned (.tuple #[.agg #[.int .i64 x.counts.inuse, .int .i64 x.counts.objects, .bool x.counts.frozen, .bool x.counts.live, v], .int .i64 0]) ∧ Hid (IntsOwn true v x.first bs) ∧ Own W (bs ++ m) w'
  | none => e = .returned (.tuple #[.agg #[.int .i64 0, .int .i64 0, .bool false, .bool false, .slice none 0 0], .int .i64 150]) ∧ Own W m w'
/-- the numbers' block -/
def nBlk (b : Nat) (a o : Int) (f l : Bool) : Nat × Obj := (b, .cells #[.int .i64 a, .int .i64 o, .bool f, .bool l] 80)
theorem boxn {b : Nat} {a o : Int} {f l : Bool} (h : Own W (nBlk b a o f l :: m) w) : w.cell? ⟨b, 0, none⟩ = some (.int .i64 a) ∧ w.cell? ⟨b, 1, none⟩ = some (.int .i64 o) ∧ w.cell? ⟨b, 2, none⟩ = some (.bool f) ∧ w.cell? ⟨b, 3, none⟩ = some (.bool l) :=
  ⟨h.cell List.mem_cons_self 0, h.cell List.mem_cons_self 1, h.cell List.mem_cons_self 2, h.cell List.mem_cons_self 3⟩
theorem lset_2 {b1 : Nat} {x : Nat × Obj} {a o a' o' : Int} {f l f' l' : Bool} {v v' : Value} (h : Own W (x :: lBlk b1 a o f l v :: m) w) : Own W (lBlk b1 a' o' f' l' v' :: x :: m) (((((w.setCell ⟨b1, 0, none⟩ (.int .i64 a')).setCell ⟨b1, 1, none⟩ (.int .i64 o')).setCell ⟨b1, 2, none⟩ (.bool f')).setCell ⟨b1, 3, none⟩ (.bool l')).setCell ⟨b1, 4, none⟩ v') := lset (h.perm (List.Perm.swap _ _ _))
set_option maxRecDepth 100000 in
set_option maxHeartbeats 4000000 in
theorem r1slab_spec (h : Own W m w) (hc : COk c d e) (hw : WOk W m B o N k g c) (s : Nat) (hs : s < c.S) :
    Calls Try.prog 70 #[.slice (some ⟨B, o, none⟩) N k, cV c d e, .int .i64 s] w (RSlabPost W m (slabP c g s)) := by
  obtain ⟨n1, n2, n3, n4, n5, n6⟩ := hc.nums
  have h1 := (h.new (.cells #[.int .i64 c.C, .int .i64 c.S, .int .i64 c.O, .int .i64 d, .int .i64 e, .int .u64 c.key] 24)).new (.cells #[.int .i64 0, .int .i64 0, .bool false, .bool false, .slice none 0 0] 82)
  obtain ⟨b, hb⟩ : ∃ b, w.heap.size = b := ⟨_, rfl⟩
  simp only [World.size_alloc] at h1
  rw [hb] at h1
  have h1 : Own W (lBlk (b + 1) 0 0 false false (.slice none 0 0) :: (chB b c.C c.S c.O d e c.key :: m)) _ := h1
  obtain ⟨y0, y1, y2, y3, y4, y5⟩ := box6 h1.skip
  have hN := hw.n
  unfold Ch.words at hN
  have hii : 0 ≤ (s : Int) ∧ (s : Int) < (c.S : Int) := by omega
  obtain ⟨p, hp⟩ : ∃ p : Nat, 4 * c.C + 4 + 4 * s = p := ⟨_, rfl⟩
  have hpi : 4 * (c.C : Int) + 4 + 4 * (s : Int) = (p : Int) := by omega
  have HPI := Lib.hid hpi
  have hpN : p + 1 < N := by omega
  have hp0 : (0 : Int) ≤ (p : Int) := by omega
  have hp1 : (p : Int) < (N : Int) := by omega
  have hp2 : (p : Int) + 1 < (N : Int) := by omega
  have hp5 : (0 : Int) ≤ (p : Int) + 1 := by omega
  have hpb : p ≤ 200 := by omega
  obtain ⟨x0, hx0⟩ : ∃ x, g[p]? = some x := ⟨_, List.getElem?_eq_getElem (by rw [hw.len]; omega)⟩
  obtain ⟨x1, hx1⟩ : ∃ x, g[p + 1]? = some x := ⟨_, List.getElem?_eq_getElem (by rw [hw.len]; omega)⟩
  have hBlt : B < w.heap.size := World.block_lt_of_cell? w _ (hw.rd w h p x0 hx0)
  rw [hb] at hBlt
  have a0 : at_ g (4 * c.C + 4 + 4 * s) = x0 := by unfold at_; rw [hp, List.getD_eq_getElem?_getD, hx0]; rfl
  have a1 : at_ g (4 * c.C + 4 + 4 * s + 1) = x1 := by unfold at_; rw [hp, List.getD_eq_getElem?_getD, hx1]; rfl
  have hcs := fun ws (hws : Own W (lBlk (b + 1) 0 0 false false (.slice none 0 0) :: (chB b c.C c.S c.O d e c.key :: m)) ws) => rcounts_spec hws x1 (hw.w64 x1 (List.mem_of_getElem? hx1))
  have HG : Hid (∀ m' ws, Own W (m' ++ m) ws → ws.cell? ⟨B, o + p, none⟩ = some (.int .u64 (x0 : Int)) ∧ ws.cell? ⟨B, o + (p + 1), none⟩ = some (.int .u64 (x1 : Int))) := fun m' ws hws => ⟨hw.rd.more (m' := m') ws hws p x0 hx0, hw.rd.more (m' := m') ws hws (p + 1) x1 hx1⟩
  unfold slabP
  rw [a0, a1]
  unfold countsV at hcs
  have HC := Lib.hid hc
  have HW := Lib.hid hw
  have HI := Lib.hid hii
  have H1 := Lib.hid h1
  clear hN hp hpi hx0 hx1 a0 a1 hw hc hii h1 h
  cases hh : countsOf x1 with
  | none =>
    rw [hh] at hcs
    have HH := Lib.hid hcs
    simp only
    clear hh hcs
    unfold cV chV
    go_enter Try.func70, Try.ntmps70
    go_wp2_with fail
    refine (Apart.rfirst_ok HC.out.ok HI.out H1.out).mono ?_
    rintro r w2 ⟨rfl, h2⟩
    rw [HPI.out]
    clear y0 y1 y2 y3 y4 y5
    obtain ⟨y0, y1, y2, y3, y4, y5⟩ := box6 h2.skip
    obtain ⟨q0, q1⟩ := HG.out [] _ h2.skip.skip
    go_wp2_with fail
    refine (HH.out _ h2).mono ?_
    rintro r w3 ⟨rfl, h3⟩
    clear y0 y1 y2 y3 y4 y5 q0 q1
    have z0 := h3.cell List.mem_cons_self 0
    have hlt1 : b + 1 < w3.heap.size := World.block_lt_of_cell? w3 _ z0
    have h4 := h3.new (.cells #[.int .i64 0, .int .i64 0, .bool false, .bool false] 80)
    obtain ⟨b2, hb2⟩ : ∃ b2, w3.heap.size = b2 := ⟨_, rfl⟩
    rw [hb2] at h4 hlt1
    have h4 : Own W (nBlk b2 0 0 false false :: lBlk (b + 1) 0 0 false false (.slice none 0 0) :: (chB b c.C c.S c.O d e c.key :: m)) _ := h4
    have KK : Hid (B ≠ b2 ∧ b2 ≠ B ∧ b ≠ b2 ∧ b2 ≠ b ∧ b + 1 ≠ b2 ∧ b2 ≠ b + 1 ∧ b + 1 ≠ B ∧ B ≠ b + 1 ∧ b ≠ b + 1 ∧ b + 1 ≠ b) := by
      show _ ∧ _
      omega
    go_wp2_with fail
    obtain ⟨w5, hw5⟩ : ∃ w5, w3.alloc (.cells #[.int .i64 0, .int .i64 0, .bool false, .bool false] 80) = w5 := ⟨_, rfl⟩
    rw [hw5] at h4 ⊢
    have H5 := Lib.hid h4
    clear h2 h3 h4 hw5 hb2 z0
    obtain ⟨y0, y1, y2, y3, y4, y5⟩ := box6 H5.out.skip.skip
    obtain ⟨q0, q1⟩ := HG.out [] _ H5.out.skip.skip.skip
    clear hlt1 hp5 hp2 hpN hpb HH HI HPI H1 hBlt hb q1 y0 y1 y3 y4 y5
    go_quiet (fail)
    have h6 := H5.out.drewN nq
    clear y2 q0
    obtain ⟨w6, hw6⟩ : ∃ w6, w5.drewN nq = w6 := ⟨_, rfl⟩
    rw [hw6] at h6 ⊢
    have H6 := Lib.hid h6
    clear hw6 h6 H5
    obtain ⟨k1, k2, k3, k4, k5, k6, k7, k8, k9, k10⟩ := KK.out
    obtain ⟨y0, y1, y2, y3, y4, y5⟩ := box6 H6.out.skip.skip
    obtain ⟨q0, q1⟩ := HG.out [] _ H6.out.skip.skip.skip
    obtain ⟨⟨z0, z1, z2, z3, z4⟩, ⟨f0, f1, f2, f3, f4⟩⟩ := box5 H6.out.skip
    obtain ⟨e0, e1, e2, e3⟩ := boxn H6.out
    go_wp2_with fail
    have h9 := lset_2 (a' := 0) (o' := 0) (f' := false) (l' := false) (v' := (.slice none 0 0)) H6.out
    obtain ⟨⟨t0, t1, t2, t3, t4⟩, -⟩ := box5 h9
    exact bodyPost_ret (v := .tuple #[.agg #[.int .i64 0, .int .i64 0, .bool false, .bool false, (.slice none 0 0)], .int .i64 150]) (by simp [results, Try.f70, go_sem, t0, t1, t2, t3, t4]) rfl ⟨rfl, h9.skip.skip.skip⟩
  | some v =>
    obtain ⟨n0, n1', fr, li⟩ := v
    rw [hh] at hcs
    simp only at hcs ⊢
    have HH := Lib.hid hcs
    clear hh hcs
    by_cases hbig : c.O < x0
    · have hbi : decide ((c.O : Int) < (x0 : Int)) = true := decide_eq_true (by omega)
      rw [if_pos hbig]
      unfold cV chV
      go_enter Try.func70, Try.ntmps70
      go_wp2_with fail
      refine (Apart.rfirst_ok HC.out.ok HI.out H1.out).mono ?_
      rintro r w2 ⟨rfl, h2⟩
      rw [HPI.out]
      clear y0 y1 y2 y3 y4 y5
      obtain ⟨y0, y1, y2, y3, y4, y5⟩ := box6 h2.skip
      obtain ⟨q0, q1⟩ := HG.out [] _ h2.skip.skip
      go_wp2_with fail
      refine (HH.out _ h2).mono ?_
      rintro r w3 ⟨rfl, h3⟩
      clear y0 y1 y2 y3 y4 y5 q0 q1
      have z0 := h3.cell List.mem_cons_self 0
      have hlt1 : b + 1 < w3.heap.size := World.block_lt_of_cell? w3 _ z0
      have h4 := h3.new (.cells #[.int .i64 (n0 : Int), .int .i64 (n1' : Int), .bool fr, .bool li] 80)
      obtain ⟨b2, hb2⟩ : ∃ b2, w3.heap.size = b2 := ⟨_, rfl⟩
      rw [hb2] at h4 hlt1
      have h4 : Own W (nBlk b2 (n0 : Int) (n1' : Int) fr li :: lBlk (b + 1) 0 0 false false (.slice none 0 0) :: (chB b c.C c.S c.O d e c.key :: m)) _ := h4
      have KK : Hid (B ≠ b2 ∧ b2 ≠ B ∧ b ≠ b2 ∧ b2 ≠ b ∧ b + 1 ≠ b2 ∧ b2 ≠ b + 1 ∧ b + 1 ≠ B ∧ B ≠ b + 1 ∧ b ≠ b + 1 ∧ b + 1 ≠ b) := by
        show _ ∧ _
        omega
      go_wp2_with fail
      obtain ⟨w5, hw5⟩ : ∃ w5, w3.alloc (.cells #[.int .i64 (n0 : Int), .int .i64 (n1' : Int), .bool fr, .bool li] 80) = w5 := ⟨_, rfl⟩
      rw [hw5] at h4 ⊢
      have H5 := Lib.hid h4
      clear h2 h3 h4 hw5 hb2 z0
      obtain ⟨y0, y1, y2, y3, y4, y5⟩ := box6 H5.out.skip.skip
      obtain ⟨q0, q1⟩ := HG.out [] _ H5.out.skip.skip.skip
      clear hlt1 hp5 hp2 hpN hpb HH HI HPI H1 hBlt hb q1 y0 y1 y3 y4 y5
      go_quiet (fail)
      have h6 := H5.out.drewN nq
      clear y2 q0
      obtain ⟨w6, hw6⟩ : ∃ w6, w5.drewN nq = w6 := ⟨_, rfl⟩
      rw [hw6] at h6 ⊢
      have H6 := Lib.hid h6
      clear hw6 h6 H5
      obtain ⟨k1, k2, k3, k4, k5, k6, k7, k8, k9, k10⟩ := KK.out
      obtain ⟨y0, y1, y2, y3, y4, y5⟩ := box6 H6.out.skip.skip
      obtain ⟨q0, q1⟩ := HG.out [] _ H6.out.skip.skip.skip
      obtain ⟨⟨z0, z1, z2, z3, z4⟩, ⟨f0, f1, f2, f3, f4⟩⟩ := box5 H6.out.skip
      obtain ⟨e0, e1, e2, e3⟩ := boxn H6.out
      go_wp2_with fail
      have h9 := lset_2 (a' := 0) (o' := 0) (f' := false) (l' := false) (v' := (.slice none 0 0)) H6.out
      obtain ⟨⟨t0, t1, t2, t3, t4⟩, -⟩ := box5 h9
      exact bodyPost_ret (v := .tuple #[.agg #[.int .i64 0, .int .i64 0, .bool false, .bool false, (.slice none 0 0)], .int .i64 150]) (by simp [results, Try.f70, go_sem, t0, t1, t2, t3, t4]) rfl ⟨rfl, h9.skip.skip.skip⟩
    · have hbi : decide ((c.O : Int) < (x0 : Int)) = false := decide_eq_false (by omega)
      have hx16 : (x0 : Int) ≤ 16 := by omega
      have hw1 : IntKind.i64.wrap (IntKind.i64.wrap (x0 : Int) - 1) = (x0 : Int) - 1 := by rw [IntWalk.i64_in (n := (x0 : Int)), IntWalk.i64_in] <;> omega
      have HW1 := Lib.hid hw1
      clear hw1
      rw [if_neg hbig]
      have hrl := fun b2 ws (hws : Own W (nBlk b2 n0 n1' fr li :: lBlk (b + 1) 0 0 false false (.slice none 0 0) :: (chB b c.C c.S c.O d e c.key :: m)) ws) => r1list_spec hws HC.out (((HW.out.more (m' := [chB b c.C c.S c.O d e c.key])).more (m' := [lBlk (b + 1) 0 0 false false (.slice none 0 0)])).more (m' := [nBlk b2 n0 n1' fr li])) s hs ((x0 : Int) - 1) (by omega)
      cases hl : listP c g s ((x0 : Int) - 1) with
      | none =>
        rw [hl] at hrl
        have HRL := Lib.hid hrl
        simp only
        clear hl hrl
        unfold cV chV
        go_enter Try.func70, Try.ntmps70
        go_wp2_with fail
        refine (Apart.rfirst_ok HC.out.ok HI.out H1.out).mono ?_
        rintro r w2 ⟨rfl, h2⟩
        rw [HPI.out]
        clear y0 y1 y2 y3 y4 y5
        obtain ⟨y0, y1, y2, y3, y4, y5⟩ := box6 h2.skip
        obtain ⟨q0, q1⟩ := HG.out [] _ h2.skip.skip
        go_wp2_with fail
        refine (HH.out _ h2).mono ?_
        rintro r w3 ⟨rfl, h3⟩
        clear y0 y1 y2 y3 y4 y5 q0 q1
        have z0 := h3.cell List.mem_cons_self 0
        have hlt1 : b + 1 < w3.heap.size := World.block_lt_of_cell? w3 _ z0
        have h4 := h3.new (.cells #[.int .i64 (n0 : Int), .int .i64 (n1' : Int), .bool fr, .bool li] 80)
        obtain ⟨b2, hb2⟩ : ∃ b2, w3.heap.size = b2 := ⟨_, rfl⟩
        rw [hb2] at h4 hlt1
        have h4 : Own W (nBlk b2 (n0 : Int) (n1' : Int) fr li :: lBlk (b + 1) 0 0 false false (.slice none 0 0) :: (chB b c.C c.S c.O d e c.key :: m)) _ := h4
        have KK : Hid (B ≠ b2 ∧ b2 ≠ B ∧ b ≠ b2 ∧ b2 ≠ b ∧ b + 1 ≠ b2 ∧ b2 ≠ b + 1 ∧ b + 1 ≠ B ∧ B ≠ b + 1 ∧ b ≠ b + 1 ∧ b + 1 ≠ b) := by
          show _ ∧ _
          omega
        go_wp2_with fail
        obtain ⟨w5, hw5⟩ : ∃ w5, w3.alloc (.cells #[.int .i64 (n0 : Int), .int .i64 (n1' : Int), .bool fr, .bool li] 80) = w5 := ⟨_, rfl⟩
        rw [hw5] at h4 ⊢
        have H5 := Lib.hid h4
        clear h2 h3 h4 hw5 hb2 z0
        obtain ⟨y0, y1, y2, y3, y4, y5⟩ := box6 H5.out.skip.skip
        obtain ⟨q0, q1⟩ := HG.out [] _ H5.out.skip.skip.skip
        clear hlt1 hp5 hp2 hpN hpb HH HI HPI H1 hBlt hb q1 y0 y1 y3 y4 y5
        go_quiet (fail)
        have h6 := H5.out.drewN nq
        clear y2 q0
        obtain ⟨w6, hw6⟩ : ∃ w6, w5.drewN nq = w6 := ⟨_, rfl⟩
        rw [hw6] at h6 ⊢
        have H6 := Lib.hid h6
        clear hw6 h6 H5
        obtain ⟨k1, k2, k3, k4, k5, k6, k7, k8, k9, k10⟩ := KK.out
        obtain ⟨y0, y1, y2, y3, y4, y5⟩ := box6 H6.out.skip.skip
        obtain ⟨q0, q1⟩ := HG.out [] _ H6.out.skip.skip.skip
        obtain ⟨⟨z0, z1, z2, z3, z4⟩, ⟨f0, f1, f2, f3, f4⟩⟩ := box5 H6.out.skip
        obtain ⟨e0, e1, e2, e3⟩ := boxn H6.out
        go_wp2_with fail
        clear k1 k2 k3 k4 k5 k6 k7 k8 k9 k10 h1 h4 z0 z1 z2 z3 z4 f0 f1 f2 f3 f4 e0 e1 e2 e3 q1
        go_region_held3 (fun w' => w'.cell? ⟨b, 0, none⟩ = some (.int .i64 c.C) ∧ w'.cell? ⟨b, 1, none⟩ = some (.int .i64 c.S) ∧ w'.cell? ⟨b, 2, none⟩ = some (.int .i64 c.O) ∧ w'.cell? ⟨b, 3, none⟩ = some (.int .i64 d) ∧ w'.cell? ⟨b, 4, none⟩ = some (.int .i64 e) ∧ w'.cell? ⟨b, 5, none⟩ = some (.int .u64 c.key) ∧ w'.cell? ⟨B, o + p, none⟩ = some (.int .u64 (x0 : Int))) (first | (refine ⟨?_, ?_, ?_, ?_, ?_, ?_, ?_⟩ <;> assumption) | go_keep)
          (first | (go_at_call 85; rw [HW1.out]; refine (HRL.out _ _ H6.out.drew).mono ?_; rintro r w7 ⟨rfl, h7⟩; obtain ⟨k1, k2, k3, k4, k5, k6, k7, k8, k9, k10⟩ := KK.out; obtain ⟨y0, y1, y2, y3, y4, y5⟩ := box6 h7.skip.skip; obtain ⟨q0, q1⟩ := HG.out [] _ h7.skip.skip.skip; obtain ⟨⟨z0, z1, z2, z3, z4⟩, ⟨f0, f1, f2, f3, f4⟩⟩ := box5 h7.skip; obtain ⟨e0, e1, e2, e3⟩ := boxn h7))
        go_wp2_with fail
        have h9 := lset_2 (a' := 0) (o' := 0) (f' := false) (l' := false) (v' := (.slice none 0 0)) h7
        obtain ⟨⟨t0, t1, t2, t3, t4⟩, -⟩ := box5 h9
        exact bodyPost_ret (v := .tuple #[.agg #[.int .i64 0, .int .i64 0, .bool false, .bool false, (.slice none 0 0)], .int .i64 150]) (by simp [results, Try.f70, go_sem, t0, t1, t2, t3, t4]) rfl ⟨rfl, h9.skip.skip.skip⟩
      | some l1 =>
        rw [hl] at hrl
        have HRL := Lib.hid hrl
        simp only
        clear hl hrl
        unfold cV chV
        go_enter Try.func70, Try.ntmps70
        go_wp2_with fail
        refine (Apart.rfirst_ok HC.out.ok HI.out H1.out).mono ?_
        rintro r w2 ⟨rfl, h2⟩
        rw [HPI.out]
        clear y0 y1 y2 y3 y4 y5
        obtain ⟨y0, y1, y2, y3, y4, y5⟩ := box6 h2.skip
        obtain ⟨q0, q1⟩ := HG.out [] _ h2.skip.skip
        go_wp2_with fail
        refine (HH.out _ h2).mono ?_
        rintro r w3 ⟨rfl, h3⟩
        clear y0 y1 y2 y3 y4 y5 q0 q1
        have z0 := h3.cell List.mem_cons_self 0
        have hlt1 : b + 1 < w3.heap.size := World.block_lt_of_cell? w3 _ z0
        have h4 := h3.new (.cells #[.int .i64 (n0 : Int), .int .i64 (n1' : Int), .bool fr, .bool li] 80)
        obtain ⟨b2, hb2⟩ : ∃ b2, w3.heap.size = b2 := ⟨_, rfl⟩
        rw [hb2] at h4 hlt1
        have h4 : Own W (nBlk b2 (n0 : Int) (n1' : Int) fr li :: lBlk (b + 1) 0 0 false false (.slice none 0 0) :: (chB b c.C c.S c.O d e c.key :: m)) _ := h4
        have KK : Hid (B ≠ b2 ∧ b2 ≠ B ∧ b ≠ b2 ∧ b2 ≠ b ∧ b + 1 ≠ b2 ∧ b2 ≠ b + 1 ∧ b + 1 ≠ B ∧ B ≠ b + 1 ∧ b ≠ b + 1 ∧ b + 1 ≠ b) := by
          show _ ∧ _
          omega
        go_wp2_with fail
        obtain ⟨w5, hw5⟩ : ∃ w5, w3.alloc (.cells #[.int .i64 (n0 : Int), .int .i64 (n1' : Int), .bool fr, .bool li] 80) = w5 := ⟨_, rfl⟩
        rw [hw5] at h4 ⊢
        have H5 := Lib.hid h4
        clear h2 h3 h4 hw5 hb2 z0
        obtain ⟨y0, y1, y2, y3, y4, y5⟩ := box6 H5.out.skip.skip
        obtain ⟨q0, q1⟩ := HG.out [] _ H5.out.skip.skip.skip
        clear hlt1 hp5 hp2 hpN hpb HH HI HPI H1 hBlt hb q1 y0 y1 y3 y4 y5
        go_quiet (fail)
        have h6 := H5.out.drewN nq
        clear y2 q0
        obtain ⟨w6, hw6⟩ : ∃ w6, w5.drewN nq = w6 := ⟨_, rfl⟩
        rw [hw6] at h6 ⊢
        have H6 := Lib.hid h6
        clear hw6 h6 H5
        obtain ⟨k1, k2, k3, k4, k5, k6, k7, k8, k9, k10⟩ := KK.out
        obtain ⟨y0, y1, y2, y3, y4, y5⟩ := box6 H6.out.skip.skip
        obtain ⟨q0, q1⟩ := HG.out [] _ H6.out.skip.skip.skip
        obtain ⟨⟨z0, z1, z2, z3, z4⟩, ⟨f0, f1, f2, f3, f4⟩⟩ := box5 H6.out.skip
        obtain ⟨e0, e1, e2, e3⟩ := boxn H6.out
        go_wp2_with fail
        clear k1 k2 k3 k4 k5 k6 k7 k8 k9 k10 h1 h4 z0 z1 z2 z3 z4 f0 f1 f2 f3 f4 e0 e1 e2 e3 q1
        go_region_held3 (fun w' => w'.cell? ⟨b, 0, none⟩ = some (.int .i64 c.C) ∧ w'.cell? ⟨b, 1, none⟩ = some (.int .i64 c.S) ∧ w'.cell? ⟨b, 2, none⟩ = some (.int .i64 c.O) ∧ w'.cell? ⟨b, 3, none⟩ = some (.int .i64 d) ∧ w'.cell? ⟨b, 4, none⟩ = some (.int .i64 e) ∧ w'.cell? ⟨b, 5, none⟩ = some (.int .u64 c.key) ∧ w'.cell? ⟨B, o + p, none⟩ = some (.int .u64 (x0 : Int))) (first | (refine ⟨?_, ?_, ?_, ?_, ?_, ?_, ?_⟩ <;> assumption) | go_keep)
          (first | (go_at_call 85; rw [HW1.out]; refine (HRL.out _ _ H6.out.drew).mono ?_; rintro r w7 ⟨v7, b7, rfl, K7, h6⟩; obtain ⟨k1, k2, k3, k4, k5, k6, k7, k8, k9, k10⟩ := KK.out; obtain ⟨A7, c7, hv7, -, -⟩ := K7.out.slice; subst hv7; have h7 := h6.perm (p3 _ _ _ _ _); obtain ⟨y0, y1, y2, y3, y4, y5⟩ := box6 h7.skip.skip; obtain ⟨q0, q1⟩ := HG.out _ _ h7.skip.skip.skip; obtain ⟨⟨z0, z1, z2, z3, z4⟩, ⟨f0, f1, f2, f3, f4⟩⟩ := box5 h7.skip; obtain ⟨e0, e1, e2, e3⟩ := boxn h7))
        go_wp2_with fail
        have h9 := lset_2 (a' := (n0 : Int)) (o' := (n1' : Int)) (f' := fr) (l' := li) (v' := (.slice A7 l1.length c7)) h7
        obtain ⟨⟨t0, t1, t2, t3, t4⟩, -⟩ := box5 h9
        exact bodyPost_ret (v := .tuple #[.agg #[.int .i64 (n0 : Int), .int .i64 (n1' : Int), .bool fr, .bool li, (.slice A7 l1.length c7)], .int .i64 0]) (by simp [results, Try.f70, go_sem, t0, t1, t2, t3, t4]) rfl ⟨_, b7, rfl, K7, h9.skip.skip.skip⟩
end
end Go.Proofs.Ytigakendeghoaaa.See

/-
  A core that was seen: what its value owns; append of its parts. No condition.
-/
namespace Go.Proofs.Ytigakendeghoaaa.See
open Go.RowKit
theorem slot_info : (Try.prog.info? 78).map (fun i => (i.zero, i.size, i.bytes)) = some (some (.agg #[.int .i64 0, .slice none 0 0, .int .u64 0, .slice none 0 0]), 4, 64) := by kernel_rfl
theorem slab_info : (Try.prog.info? 82).map (fun i => (i.zero, i.size, i.bytes)) = some (some (.agg #[.int .i64 0, .int .i64 0, .bool false, .bool false, .slice none 0 0]), 5, 48) := by kernel_rfl
/-- a slot, with what it owns -/
structure SlotN where
  x : SlotP
  lv : Value
  lb : List (Nat × Obj)
  pv : Value
  pb : List (Nat × Obj)
def SlotN.cells (s : SlotN) : List Value := [.int .i64 s.x.slab, s.lv, .int .u64 s.x.turn, s.pv]
def slotCells (L : List SlotN) : List Value := L.flatMap SlotN.cells
def slotBlocks (L : List SlotN) : List (Nat × Obj) := L.flatMap fun s => s.lb ++ s.pb
def SlotsOk (L : List SlotN) : Prop := ∀ s ∈ L, IntsOwn true s.lv s.x.list s.lb ∧ IntsOwn true s.pv s.x.parts s.pb
/-- a slab, with what it owns -/
structure SlabN where
  x : SlabP
  v : Value
  b : List (Nat × Obj)
def SlabN.cells (s : SlabN) : List Value := [.int .i64 s.x.counts.inuse, .int .i64 s.x.counts.objects, .bool s.x.counts.frozen, .bool s.x.counts.live, s.v]
def slabCells (L : List SlabN) : List Value := L.flatMap SlabN.cells
def slabBlocks (L : List SlabN) : List (Nat × Obj) := L.flatMap SlabN.b
def SlabsOk (L : List SlabN) : Prop := ∀ s ∈ L, IntsOwn true s.v s.x.first s.b
theorem slotCells_append (a b : List SlotN) : slotCells (a ++ b) = slotCells a ++ slotCells b := by simp [slotCells]
theorem slabCells_append (a b : List SlabN) : slabCells (a ++ b) = slabCells a ++ slabCells b := by simp [slabCells]
theorem slotBlocks_append (a b : List SlotN) : slotBlocks (a ++ b) = slotBlocks a ++ slotBlocks b := by simp [slotBlocks]
theorem slabBlocks_append (a b : List SlabN) : slabBlocks (a ++ b) = slabBlocks a ++ slabBlocks b := by simp [slabBlocks]
abbrev SlotsV (v : Value) (L : List SlotN) (bs : List (Nat × Obj)) : Prop := SlO true 78 4 v L.length (slotCells L) bs
abbrev SlabsV (v : Value) (L : List SlabN) (bs : List (Nat × Obj)) : Prop := SlO true 82 5 v L.length (slabCells L) bs
/-- a core's value -/
def CoreO (v : Value) (K : CoreP) (bs : List (Nat × Obj)) : Prop := ∃ (Ls : List SlotN) (sv : Value) (b0 : List (Nat × Obj)) (hv : Value) (b1 : List (Nat × Obj)) (Ll : List SlabN) (lv : Value) (b2 : List (Nat × Obj)),
  v = .agg #[sv, hv, .bool K.locked, lv] ∧ Ls.map (·.x) = K.slots ∧ SlotsOk Ls ∧ SlotsV sv Ls b0 ∧ IntsOwn true hv K.shelf b1 ∧ Ll.map (·.x) = K.slabs ∧ SlabsOk Ll ∧ SlabsV lv Ll b2 ∧ bs = b0 ++ (slotBlocks Ls ++ (b1 ++ (b2 ++ slabBlocks Ll)))
section
variable {P : Program} {W w : World} {m bs : List (Nat × Obj)} {v xv : Value} {xs news : List Value} {e size n k bytes : Nat}
/-- append, of structs of any cells -/
theorem app_struct {ops : Array Oper} {rest : List Oper} {o : Oper} {a : Act} {Q : Exit → Act → World → Prop} (hgd : o.guard = none) (s x : Operand) (t : TypeId)
    (ho : o.op = .call { callee := .builtin .append, args := #[s, x], argTypes := #[t, t] }) (hes : a.eval s = v) (hex : a.eval x = xv)
    (z : Value) (hinfo : (P.info? e).map (fun i => (i.zero, i.size, i.bytes)) = some (some z, size, bytes)) (ht : P.underlying t = some (.slice e)) (hzs : z.cells.size = size) (hsz : 0 < size) (hb : bytes ≤ 200)
    (hs : SlO true e size v n xs bs) (hO : Own W (bs ++ m) w) (hx : Src w size xv k news) (h1 : ∀ u ∈ news, u.oneCell' = true) (hlen : n + k ≤ 60000)
    (h : ∀ v' w' bs', SlO true e size v' (n + k) (xs ++ news) bs' → Own W (bs' ++ m) w' → wpList P ops Q rest (a.put o.dst v') w') :
    wpList P ops Q (o :: rest) a w := by
  obtain ⟨i, hi, hz, hsz', hby⟩ := info_get hinfo
  have hbb : (n + k) * bytes ≤ 60000 * 200 := Nat.mul_le_mul hlen hb
  exact wpList_app hgd s x t ho hes hex e i z size bytes ht hi hz hsz' hby hzs hsz hs hO hx h1 (by unfold maxLen; omega) (by omega) fun v' w' bs' h1 h2 _ => h v' w' bs' h1 h2
/-- a struct that the code writes down, in a block of its own -/
theorem src_vals (w : World) (e : TypeId) (l : List Value) : Src (w.alloc (.cells l.toArray e)) l.length (.slice (some ⟨w.heap.size, 0, none⟩) 1 1) 1 l := by
  refine ⟨by simp, .inr ⟨_, _, rfl, fun j u hj => ?_⟩⟩
  rw [add_lit0]
  simp [hj]
theorem IntsOwn.one {ex : Bool} {v : Value} {l : List Int} {b : List (Nat × Obj)} (h : IntsOwn ex v l b) : v.oneCell' = true := by
  obtain ⟨A, c, rfl, -, -⟩ := SlO.slice h
  rfl
end
end Go.Proofs.Ytigakendeghoaaa.See

/-
  Contract: chart.See. No condition.
-/
namespace Go.Proofs.Ytigakendeghoaaa.See
open Go.RowKit
open Apart (chV chB box6 ChAt)
open chartPlaces (Ok)
attribute [local go_sem ↓] Go.wp_at_zero Go.wp_at_succ
/-- a core's block -/
def kBlk (b : Nat) (sv hv : Value) (l : Bool) (lv : Value) : Nat × Obj := (b, .cells #[sv, hv, .bool l, lv] 40)
section
variable {W w : World} {M m : List (Nat × Obj)} {B o N k b : Nat} {g : List Nat} {c : Ch} {d e : Int}
theorem boxK {b : Nat} {sv hv lv : Value} {l : Bool} (h : Own W (kBlk b sv hv l lv :: m) w) : (w.cell? ⟨b, 0, none⟩ = some sv ∧ w.cell? ⟨b, 1, none⟩ = some hv ∧ w.cell? ⟨b, 2, none⟩ = some (.bool l) ∧ w.cell? ⟨b, 3, none⟩ = some lv) ∧ (w.frozen? ⟨b, 0, none⟩ = false ∧ w.frozen? ⟨b, 1, none⟩ = false ∧ w.frozen? ⟨b, 2, none⟩ = false ∧ w.frozen? ⟨b, 3, none⟩ = false) :=
  ⟨⟨h.cell List.mem_cons_self 0, h.cell List.mem_cons_self 1, h.cell List.mem_cons_self 2, h.cell List.mem_cons_self 3⟩, ⟨h.frozen List.mem_cons_self 0, h.frozen List.mem_cons_self 1, h.frozen List.mem_cons_self 2, h.frozen List.mem_cons_self 3⟩⟩
theorem kset {b : Nat} {sv hv lv sv' hv' lv' : Value} {l l' : Bool} (h : Own W (kBlk b sv hv l lv :: m) w) : Own W (kBlk b sv' hv' l' lv' :: m) ((((w.setCell ⟨b, 0, none⟩ sv').setCell ⟨b, 1, none⟩ hv').setCell ⟨b, 2, none⟩ (.bool l')).setCell ⟨b, 3, none⟩ lv') := by
  have h1 := (((h.set 0 sv').set 1 hv').set 2 (.bool l')).set 3 lv'
  exact h1
theorem upto_step {α : Type} {f : Nat → Option α} {n : Nat} {l : List α} {x : α} (h : upto f n = some l) (hx : f n = some x) : upto f (n + 1) = some (l ++ [x]) := by
  unfold upto
  rw [h, hx]
theorem see_perm1 {α : Type} (a b c d : List α) : (a ++ (b ++ (c ++ d))).Perm (c ++ (a ++ (b ++ d))) :=
  (List.Perm.append_left a (perm_swap b c d)).trans (perm_swap a c _)
theorem see_perm2 {α : Type} (a b c d : List α) (x : α) (e : List α) : (a ++ (b ++ (c ++ (d ++ x :: e)))).Perm (x :: (a ++ (b ++ (c ++ (d ++ e))))) := by
  have h : ∀ (l : List α) (m : List α), m.Perm (x :: e) → (l ++ m).Perm (x :: (l ++ e)) := fun l m hm => (List.Perm.append_left l hm).trans List.perm_middle
  have h1 : (d ++ x :: e).Perm (x :: (d ++ e)) := List.perm_middle
  have h2 : (c ++ (d ++ x :: e)).Perm (x :: (c ++ (d ++ e))) := (List.Perm.append_left c h1).trans List.perm_middle
  have h3 : (b ++ (c ++ (d ++ x :: e))).Perm (x :: (b ++ (c ++ (d ++ e)))) := (List.Perm.append_left b h2).trans List.perm_middle
  exact (List.Perm.append_left a h3).trans List.perm_middle
theorem see_perm3 (a lb pb : List (Nat × Obj)) (Ls : List SlotN) (y : Nat × Obj) (e : List (Nat × Obj)) {x : SlotP} {lv pv : Value} : (y :: (a ++ (lb ++ (pb ++ (slotBlocks Ls ++ e))))).Perm (a ++ ((slotBlocks Ls ++ slotBlocks [⟨x, lv, lb, pv, pb⟩]) ++ y :: e)) := by
  have e1 : slotBlocks [⟨x, lv, lb, pv, pb⟩] = lb ++ pb := by simp [slotBlocks]
  rw [e1]
  have h1 : (lb ++ (pb ++ (slotBlocks Ls ++ e))).Perm (slotBlocks Ls ++ (lb ++ (pb ++ e))) := (List.Perm.append_left lb (perm_swap pb _ e)).trans (perm_swap lb _ _)
  have h2 : ((slotBlocks Ls ++ (lb ++ pb)) ++ y :: e).Perm (y :: ((slotBlocks Ls ++ (lb ++ pb)) ++ e)) := List.perm_middle
  have h3 : ((slotBlocks Ls ++ (lb ++ pb)) ++ e) = slotBlocks Ls ++ (lb ++ (pb ++ e)) := by simp [List.append_assoc]
  rw [h3] at h2
  refine (List.Perm.cons y (List.Perm.append_left a h1)).trans ?_
  exact (List.perm_middle.symm).trans (List.Perm.append_left a h2.symm)
theorem kset0 {b : Nat} {sv hv lv sv' : Value} {l : Bool} (h : Own W (kBlk b sv hv l lv :: m) w) : Own W (kBlk b sv' hv l lv :: m) (w.setCell ⟨b, 0, none⟩ sv') := h.set 0 sv'
theorem kset1 {b : Nat} {sv hv lv hv' : Value} {l : Bool} (h : Own W (kBlk b sv hv l lv :: m) w) : Own W (kBlk b sv hv' l lv :: m) (w.setCell ⟨b, 1, none⟩ hv') := h.set 1 hv'
theorem kset3 {b : Nat} {sv hv lv lv' : Value} {l : Bool} (h : Own W (kBlk b sv hv l lv :: m) w) : Own W (kBlk b sv hv l lv' :: m) (w.setCell ⟨b, 3, none⟩ lv') := h.set 3 lv'
theorem see_perm4 {α : Type} (a b c : List α) (x y z u : α) (m : List α) : (a ++ (b ++ (c ++ (x :: (y :: (z :: (u :: m))))))).Perm (x :: (y :: (z :: (u :: (a ++ (b ++ (c ++ m))))))) := by
  have h1 : (c ++ ([x, y, z, u] ++ m)).Perm ([x, y, z, u] ++ (c ++ m)) := perm_swap _ _ _
  have h2 : (b ++ ([x, y, z, u] ++ (c ++ m))).Perm ([x, y, z, u] ++ (b ++ (c ++ m))) := perm_swap _ _ _
  have h3 : (a ++ ([x, y, z, u] ++ (b ++ (c ++ m)))).Perm ([x, y, z, u] ++ (a ++ (b ++ (c ++ m)))) := perm_swap _ _ _
  exact (List.Perm.append_left a ((List.Perm.append_left b h1).trans h2)).trans h3
theorem see_perm5 {α : Type} (a b c : List α) (x : α) (e : List α) : (a ++ (b ++ (c ++ x :: e))).Perm (x :: (a ++ (b ++ (c ++ e)))) := by
  have h1 : (c ++ x :: e).Perm (x :: (c ++ e)) := List.perm_middle
  have h2 : (b ++ (c ++ x :: e)).Perm (x :: (b ++ (c ++ e))) := (List.Perm.append_left b h1).trans List.perm_middle
  exact (List.Perm.append_left a h2).trans List.perm_middle
theorem see_perm6 (a lb : List (Nat × Obj)) (Ll : List SlabN) (y : Nat × Obj) (e : List (Nat × Obj)) {x : SlabP} {v : Value} : (y :: (a ++ (lb ++ (slabBlocks Ll ++ e)))).Perm (a ++ ((slabBlocks Ll ++ slabBlocks [⟨x, v, lb⟩]) ++ y :: e)) := by
  have e1 : slabBlocks [⟨x, v, lb⟩] = lb := by simp [slabBlocks]
  rw [e1]
  have h1 : (lb ++ (slabBlocks Ll ++ e)).Perm (slabBlocks Ll ++ (lb ++ e)) := perm_swap lb _ e
  have h2 : ((slabBlocks Ll ++ lb) ++ y :: e).Perm (y :: ((slabBlocks Ll ++ lb) ++ e)) := List.perm_middle
  rw [List.append_assoc (slabBlocks Ll) lb e] at h2
  refine (List.Perm.cons y (List.Perm.append_left a h1)).trans ?_
  exact (List.perm_middle.symm).trans (List.Perm.append_left a h2.symm)
theorem see_perm7 {α : Type} (a l : List α) (x y z : α) (e : List α) : (a ++ (l ++ (x :: (y :: (z :: e))))).Perm (z :: (a ++ (l ++ (x :: (y :: e))))) := by
  have h1 : (x :: (y :: (z :: e))).Perm (z :: (x :: (y :: e))) := (List.Perm.cons x (List.Perm.swap _ _ _)).trans (List.Perm.swap _ _ _)
  have h2 : (l ++ (x :: (y :: (z :: e)))).Perm (z :: (l ++ (x :: (y :: e)))) := (List.Perm.append_left l h1).trans List.perm_middle
  exact (List.Perm.append_left a h2).trans List.perm_middle
theorem see_mv {α : Type} (a l p q e : List α) : (a ++ (l ++ (p ++ (q ++ e)))).Perm (q ++ (a ++ (l ++ (p ++ e)))) :=
  ((List.Perm.append_left a (List.Perm.append_left l (perm_swap p q e))).trans (List.Perm.append_left a (perm_swap l q _))).trans (perm_swap a q _)
theorem see_perm8 {α : Type} (a l p q r e : List α) : (a ++ (l ++ (p ++ (q ++ (r ++ e))))).Perm (q ++ (r ++ (p ++ (a ++ (l ++ e))))) := by
  refine (see_mv a l p q _).trans (List.Perm.append_left q ?_)
  refine (see_mv a l p r _).trans (List.Perm.append_left r ?_)
  exact (List.Perm.append_left a (perm_swap l p e)).trans (perm_swap a p _)
theorem see_sub {α : Type} (a l : List α) (x y z : α) (e : List α) : (a ++ (l ++ e)).Sublist (a ++ (l ++ (x :: (y :: (z :: e))))) :=
  (List.Sublist.refl a).append ((List.Sublist.refl l).append (((List.sublist_cons_self z e).trans (List.sublist_cons_self y _)).trans (List.sublist_cons_self x _)))
/-- what See answers -/
def SeePost (W : World) (m : List (Nat × Obj)) (r : Option CoreP) (e : Ending) (w' : World) : Prop := match r with
  | some K => ∃ v bs, e = .returned (.tuple #[v, .int .i64 0]) ∧ Hid (CoreO v K bs) ∧ Own W (bs ++ m) w'
  | none => e = .returned (.tuple #[.agg #[.slice none 0 0, .slice none 0 0, .bool false, .slice none 0 0], .int .i64 150]) ∧ Own W m w'
theorem words_eq (c : Ch) : 4 * (c.C : Int) + 4 + 4 * (c.S : Int) + (c.S : Int) * (c.O : Int) = (c.words : Int) := by
  unfold Ch.words
  push_cast
  rfl
set_option maxRecDepth 100000 in
set_option maxHeartbeats 8000000 in
theorem see_spec (h : Own W m w) (hc : COk c d e) (hw : WOk W m B o N k g c) :
    Calls Try.prog 36 #[.slice (some ⟨B, o, none⟩) N k, cV c d e] w (SeePost W m (seeP c g)) := by
  obtain ⟨n1, n2, n3, n4, n5, n6⟩ := hc.nums
  have h1 := (h.new (.cells #[.int .i64 c.C, .int .i64 c.S, .int .i64 c.O, .int .i64 d, .int .i64 e, .int .u64 c.key] 24)).new (.cells #[.slice none 0 0, .slice none 0 0, .bool false, .slice none 0 0] 40)
  obtain ⟨b, hb⟩ : ∃ b, w.heap.size = b := ⟨_, rfl⟩
  simp only [World.size_alloc] at h1
  rw [hb] at h1
  have h1 : Own W (kBlk (b + 1) (.slice none 0 0) (.slice none 0 0) false (.slice none 0 0) :: (chB b c.C c.S c.O d e c.key :: m)) _ := h1
  obtain ⟨y0, y1, y2, y3, y4, y5⟩ := box6 h1.skip
  have hN := hw.n
  have hwq := words_eq c
  rw [← hN] at hwq
  have hn32 : 32 ≤ N ∨ N < 32 := by omega
  obtain ⟨p, hp⟩ : ∃ p : Nat, 4 * c.C = p := ⟨_, rfl⟩
  have hpi : 4 * (c.C : Int) = (p : Int) := by omega
  obtain ⟨p1, hpp1⟩ : ∃ p1 : Nat, p + 1 = p1 := ⟨_, rfl⟩
  have hpi1 : 4 * (c.C : Int) + 1 = (p1 : Int) := by omega
  have hpN : p1 < N := by rw [hN]; unfold Ch.words; omega
  have hp2 : (0 : Int) ≤ (p1 : Int) := by omega
  have hp3 : (p1 : Int) < (N : Int) := by omega
  have HPI := Lib.hid hpi
  have HPI1 := Lib.hid hpi1
  have hp0 : (0 : Int) ≤ (p : Int) := by omega
  have hp1 : (p : Int) < (N : Int) := by omega
  obtain ⟨x0, hx0⟩ : ∃ x, g[p]? = some x := ⟨_, List.getElem?_eq_getElem (by rw [hw.len]; omega)⟩
  obtain ⟨x1, hx1⟩ : ∃ x, g[p1]? = some x := ⟨_, List.getElem?_eq_getElem (by rw [hw.len]; omega)⟩
  have a0 : at_ g (4 * c.C) = x0 := by unfold at_; rw [hp, List.getD_eq_getElem?_getD, hx0]; rfl
  have a1 : at_ g (4 * c.C + 1) = x1 := by unfold at_; rw [hp, hpp1, List.getD_eq_getElem?_getD, hx1]; rfl
  have HG : Hid (∀ ws, Own W m ws → ws.cell? ⟨B, o + p, none⟩ = some (.int .u64 (x0 : Int)) ∧ ws.cell? ⟨B, o + p1, none⟩ = some (.int .u64 (x1 : Int))) := fun ws hws => ⟨hw.rd ws hws p x0 hx0, hw.rd ws hws p1 x1 hx1⟩
  have HX1 : Hid (x1 < 18446744073709551616) := hw.w64 x1 (List.mem_of_getElem? hx1)
  obtain ⟨lk, hlk⟩ : ∃ lk, decide (x0 ≠ 0) = lk := ⟨_, rfl⟩
  have hlk2 : ((x0 : Int) != 0) = lk := by
    rw [← hlk]
    by_cases h0 : x0 = 0
    · subst h0; rfl
    · have : (x0 : Int) ≠ 0 := by omega
      simp [h0, this]
  have hR : seeP c g = match upto (slotP c g) c.C with
      | none => none
      | some a => match shelfP c g with
        | none => none
        | some l => match upto (slabP c g) c.S with
          | none => none
          | some b => some ⟨a, l, lk, b⟩ := by
    unfold seeP
    rw [a0, hlk]
    rfl
  obtain ⟨R, hRR⟩ : ∃ R, seeP c g = R := ⟨_, rfl⟩
  rw [hRR] at hR ⊢
  have HR := Lib.hid hR
  have HA1 := Lib.hid a1
  have HC := Lib.hid hc
  have HW := Lib.hid hw
  have HWQ := Lib.hid hwq
  have H1 := Lib.hid h1
  clear hpp1 hN hp hpi hpi1 hx0 hx1 a0 a1 hw hc h1 h hn32 hlk hR hRR hwq
  unfold cV chV
  go_enter Try.func36, Try.ntmps36
  go_wp2_with fail
  refine (Apart.check_ok HC.out.ok H1.out).mono ?_
  rintro r w2 ⟨rfl, h2⟩
  clear y0 y1 y2 y3 y4 y5
  obtain ⟨y0, y1, y2, y3, y4, y5⟩ := box6 h2.skip
  go_wp2_with fail
  refine (Apart.words_ok HC.out.ok h2).mono ?_
  rintro r w3 ⟨rfl, h3⟩
  rw [HWQ.out]
  clear y0 y1 y2 y3 y4 y5 h2
  obtain ⟨y0, y1, y2, y3, y4, y5⟩ := box6 h3.skip
  have h4 := h3.new (.cells #[.slice (some ⟨B, o, none⟩) N k, .int .i64 c.C, .int .i64 c.S, .int .i64 c.O, .int .i64 d, .int .i64 e, .int .u64 c.key] 84)
  obtain ⟨q, hq⟩ : ∃ q, w3.heap.size = q := ⟨_, rfl⟩
  rw [hq] at h4
  have h4 : Own W (rBlk q B o N k c d e :: (kBlk (b + 1) (.slice none 0 0) (.slice none 0 0) false (.slice none 0 0) :: (chB b c.C c.S c.O d e c.key :: m))) _ := h4
  obtain ⟨v0, v1, v2, v3, v4, v5⟩ := box6 h4.skip.skip
  go_wp2_with fail
  refine (Apart.lock_ok HC.out.ok h4).mono ?_
  rintro r w5 ⟨rfl, h5⟩
  rw [HPI.out]
  clear y0 y1 y2 y3 y4 y5 v0 v1 v2 v3 v4 v5 hq h3 h4
  obtain ⟨q0, q1⟩ := HG.out _ h5.skip.skip.skip
  have h6 := h5.new (.cells #[.slice none 0 0, .slice none 0 0, .bool lk, .slice none 0 0] 40)
  obtain ⟨t, ht⟩ : ∃ t, w5.heap.size = t := ⟨_, rfl⟩
  rw [ht] at h6
  have h6 : Own W (kBlk t (.slice none 0 0) (.slice none 0 0) lk (.slice none 0 0) :: (rBlk q B o N k c d e :: (kBlk (b + 1) (.slice none 0 0) (.slice none 0 0) false (.slice none 0 0) :: (chB b c.C c.S c.O d e c.key :: m)))) _ := h6
  obtain ⟨y0, y1, y2, y3, y4, y5⟩ := box6 h6.skip.skip.skip
  go_wp2_with fail
  have H6 := Lib.hid h6
  clear q0 q1 ht h5 h6 y0 y1 y2 y3 y4 y5
  go_loopw [39] (fun iv wr => ∃ (i : Nat) (Ls : List SlotN) (sv : Value) (b0 : List (Nat × Obj)), iv = .int .i64 i ∧ i ≤ c.C ∧ Hid (Ls.length = i) ∧ Hid (upto (slotP c g) i = some (Ls.map (·.x))) ∧ Hid (SlotsOk Ls) ∧ Hid (SlotsV sv Ls b0) ∧ Own W (b0 ++ (slotBlocks Ls ++ (kBlk t sv (.slice none 0 0) lk (.slice none 0 0) :: (rBlk q B o N k c d e :: (kBlk (b + 1) (.slice none 0 0) (.slice none 0 0) false (.slice none 0 0) :: (chB b c.C c.S c.O d e c.key :: m)))))) wr) (fun iv _ => c.C - (intOf iv).toNat)
  case atStart => exact ⟨0, [], .slice none 0 0, [], rfl, by omega, rfl, rfl, (fun s hs => by cases hs), SlO.nil _ _ _, H6.out⟩
  case round =>
    clear H6
    obtain ⟨i, Ls, sv, b0, rfl, hi, HLI, HUP, HSO, HSV, hr⟩ := hrel
    obtain ⟨A0, c0, hv0, -, -⟩ := HSV.out.slice
    rw [HLI.out] at hv0
    subst hv0
    have HSV2 : Hid (SlO true 78 4 (.slice A0 i c0) i (slotCells Ls) b0) := by have := HSV.out; unfold SlotsV at this; rw [HLI.out] at this; exact this
    by_cases hlt : i < c.C
    · have hlti : (i : Int) < (c.C : Int) := by omega
      have hsl := rslot_spec hr HC.out (((HW.out.more (m' := [kBlk t (.slice A0 i c0) (.slice none 0 0) lk (.slice none 0 0), rBlk q B o N k c d e, kBlk (b + 1) (.slice none 0 0) (.slice none 0 0) false (.slice none 0 0), chB b c.C c.S c.O d e c.key])).more (m' := slotBlocks Ls)).more (m' := b0)) i hlt
      obtain ⟨y0, y1, y2, y3, y4, y5, y6⟩ := box7 hr.dropL.dropL.skip
      cases hsp : slotP c g i with
      | none =>
        rw [hsp] at hsl
        have HSL := Lib.hid hsl
        have hnone : upto (slotP c g) c.C = none := upto_none hsp hlt
        have hk := HR.out
        rw [hnone] at hk
        simp only at hk
        subst hk
        clear hsl hsp hnone
        go_wp2_with fail
        refine HSL.out.mono ?_
        rintro r w7 ⟨rfl, h7⟩
        clear y0 y1 y2 y3 y4 y5 y6
        have h8 := h7.alloc (.cells #[.int .i64 0, .slice none 0 0, .int .u64 0, .slice none 0 0] 78)
        obtain ⟨⟨z0, z1, z2, z3⟩, ⟨f0, f1, f2, f3⟩⟩ := boxK h8.dropL.dropL.skip.skip
        go_wp2_with fail
        have h9 := kset (sv' := .slice none 0 0) (hv' := .slice none 0 0) (l' := false) (lv' := .slice none 0 0) h8.dropL.dropL.skip.skip
        obtain ⟨⟨e0, e1, e2, e3⟩, -⟩ := boxK h9
        exact bodyPost_ret (v := .tuple #[.agg #[.slice none 0 0, .slice none 0 0, .bool false, .slice none 0 0], .int .i64 150]) (by simp [results, Try.f36, go_sem, e0, e1, e2, e3]) rfl ⟨rfl, h9.skip.skip⟩
      | some x =>
        rw [hsp] at hsl
        have HSL := Lib.hid hsl
        have HUP2 := Lib.hid (upto_step HUP.out hsp)
        clear hsl hsp
        go_wp2_with fail
        refine HSL.out.mono ?_
        rintro r w7 ⟨lv, lb, pv, pb, rfl, KL, KP, h7⟩
        obtain ⟨A1, c1, hv1, -, -⟩ := KL.out.slice
        obtain ⟨A2, c2, hv2, -, -⟩ := KP.out.slice
        obtain ⟨l1, hl1⟩ : ∃ l1, x.list.length = l1 := ⟨_, rfl⟩
        obtain ⟨l2, hl2⟩ : ∃ l2, x.parts.length = l2 := ⟨_, rfl⟩
        rw [hl1] at hv1
        rw [hl2] at hv2
        subst hv1 hv2
        clear y0 y1 y2 y3 y4 y5 y6 hl1 hl2
        have h8 : Own W (b0 ++ (lb ++ (pb ++ (slotBlocks Ls ++ (kBlk t (.slice A0 i c0) (.slice none 0 0) lk (.slice none 0 0) :: (rBlk q B o N k c d e :: (kBlk (b + 1) (.slice none 0 0) (.slice none 0 0) false (.slice none 0 0) :: (chB b c.C c.S c.O d e c.key :: m)))))))) w7 := h7.perm (see_perm1 _ _ _ _)
        have h9 := h8.alloc (.cells #[.int .i64 x.slab, .slice A1 l1 c1, .int .u64 x.turn, .slice A2 l2 c2] 78)
        have H10 := Lib.hid (h9.alloc (.cells #[.int .i64 x.slab, .slice A1 l1 c1, .int .u64 x.turn, .slice A2 l2 c2] 78))
        have hsrc := src_vals (w7.alloc (.cells #[.int .i64 x.slab, .slice A1 l1 c1, .int .u64 x.turn, .slice A2 l2 c2] 78)) 78 [.int .i64 x.slab, .slice A1 l1 c1, .int .u64 x.turn, .slice A2 l2 c2]
        rw [World.size_alloc] at hsrc
        have HSRC := Lib.hid hsrc
        have hone : ∀ u ∈ [Value.int .i64 x.slab, .slice A1 l1 c1, .int .u64 x.turn, .slice A2 l2 c2], u.oneCell' = true := by
          intro u hu
          simp at hu
          rcases hu with rfl | rfl | rfl | rfl <;> rfl
        have HONE := Lib.hid hone
        obtain ⟨⟨z0, z1, z2, z3⟩, ⟨f0, f1, f2, f3⟩⟩ := boxK h9.dropL.dropL.dropL.dropL
        clear hsrc hone h7 h8 h9
        go_wp2_with (at_builtin; refine app_struct rfl _ _ 37 rfl rfl rfl _ slot_info Try.underlying37 rfl (by omega) (by omega) HSV2.out H10.out HSRC.out HONE.out (by omega) ?_; intro v' w' bs' k1 k2; have K1 := Lib.hid k1; obtain ⟨A9, c9, hv9, -, -⟩ := k1.slice; subst hv9; have K2 := Lib.hid k2; clear z0 z1 z2 z3 f0 f1 f2 f3; obtain ⟨⟨z0, z1, z2, z3⟩, ⟨f0, f1, f2, f3⟩⟩ := boxK k2.dropL.dropL.dropL.dropL; clear k1 k2)
        have hst := (kset0 (sv' := .slice A9 (i + 1) c9) (K2.out.perm (see_perm2 _ _ _ _ _ _)))
        refine ⟨⟨i + 1, Ls ++ [⟨x, .slice A1 l1 c1, lb, .slice A2 l2 c2, pb⟩], .slice A9 (i + 1) c9, bs', by go_num, by omega, ?_, ?_, ?_, ?_, ?_⟩, by simp [intOf]; omega⟩
        · show _ = _
          rw [List.length_append, HLI.out]
          rfl
        · show _ = _
          rw [List.map_append]
          exact HUP2.out
        · show SlotsOk _
          intro s hs
          rcases List.mem_append.1 hs with hs | hs
          · exact HSO.out s hs
          · rw [List.mem_singleton] at hs
            subst hs
            exact ⟨KL.out, KP.out⟩
        · show SlotsV _ _ _
          unfold SlotsV
          rw [List.length_append, HLI.out, slotCells_append]
          exact K1.out
        · refine hst.perm ?_
          rw [slotBlocks_append]
          exact see_perm3 _ _ _ _ _ _
    · have hiC : i = c.C := by omega
      subst hiC
      have hlti : ¬ (c.C : Int) < (c.C : Int) := by omega
      have hch := fun ws (hws : Own W (b0 ++ (slotBlocks Ls ++ (kBlk t (.slice A0 c.C c0) (.slice none 0 0) lk (.slice none 0 0) :: (rBlk q B o N k c d e :: (kBlk (b + 1) (.slice none 0 0) (.slice none 0 0) false (.slice none 0 0) :: (chB b c.C c.S c.O d e c.key :: m)))))) ws) => rchain_s hws HC.out (((HW.out.more (m' := [kBlk t (.slice A0 c.C c0) (.slice none 0 0) lk (.slice none 0 0), rBlk q B o N k c d e, kBlk (b + 1) (.slice none 0 0) (.slice none 0 0) false (.slice none 0 0), chB b c.C c.S c.O d e c.key])).more (m' := slotBlocks Ls)).more (m' := b0)) x1 HX1.out
      have hpe : chain shelfOf (nextAt c g) c.S (c.S + 1) [] x1 = shelfP c g := by
        unfold shelfP
        rw [HA1.out]
      rw [hpe] at hch
      have HRW := Lib.hid hr
      obtain ⟨y0, y1, y2, y3, y4, y5, y6⟩ := box7 hr.dropL.dropL.skip; obtain ⟨v0, v1, v2, v3, v4, v5⟩ := box6 hr.dropL.dropL.skip.skip.skip; obtain ⟨q0, q1⟩ := HG.out _ hr.dropL.dropL.skip.skip.skip.skip
      have hk := HR.out
      rw [HUP.out] at hk
      simp only at hk
      clear hpe hr
      cases hsh : shelfP c g with
      | none =>
        rw [hsh] at hch hk
        simp only at hk
        subst hk
        have HCH := Lib.hid hch
        clear hch hsh
        go_wp2_with fail
        go_region_held3 (fun w' => (w'.cell? ⟨q, 0, none⟩ = some (.slice (some ⟨B, o, none⟩) N k) ∧ w'.cell? ⟨q, 1, none⟩ = some (.int .i64 c.C) ∧ w'.cell? ⟨q, 2, none⟩ = some (.int .i64 c.S) ∧ w'.cell? ⟨q, 3, none⟩ = some (.int .i64 c.O) ∧ w'.cell? ⟨q, 4, none⟩ = some (.int .i64 d) ∧ w'.cell? ⟨q, 5, none⟩ = some (.int .i64 e) ∧ w'.cell? ⟨q, 6, none⟩ = some (.int .u64 c.key)) ∧ (w'.cell? ⟨b, 0, none⟩ = some (.int .i64 c.C) ∧ w'.cell? ⟨b, 1, none⟩ = some (.int .i64 c.S) ∧ w'.cell? ⟨b, 2, none⟩ = some (.int .i64 c.O) ∧ w'.cell? ⟨b, 3, none⟩ = some (.int .i64 d) ∧ w'.cell? ⟨b, 4, none⟩ = some (.int .i64 e) ∧ w'.cell? ⟨b, 5, none⟩ = some (.int .u64 c.key)) ∧ w'.cell? ⟨B, o + p1, none⟩ = some (.int .u64 (x1 : Int))) (first | (refine ⟨⟨?_, ?_, ?_, ?_, ?_, ?_, ?_⟩, ⟨?_, ?_, ?_, ?_, ?_, ?_⟩, ?_⟩ <;> assumption) | go_keep)
          (first | (go_at_call 16; refine (Apart.shelf_ok HC.out.ok HRW.out.drew).mono ?_; rintro r w7 ⟨rfl, h7⟩; rw [HPI1.out]; obtain ⟨y0, y1, y2, y3, y4, y5, y6⟩ := box7 h7.dropL.dropL.skip; obtain ⟨v0, v1, v2, v3, v4, v5⟩ := box6 h7.dropL.dropL.skip.skip.skip; obtain ⟨q0, q1⟩ := HG.out _ h7.dropL.dropL.skip.skip.skip.skip) |
            (go_at_call 65; refine (HCH.out _ h7).mono ?_; rintro r w8 ⟨rfl, h8⟩; obtain ⟨y0, y1, y2, y3, y4, y5, y6⟩ := box7 h8.dropL.dropL.skip; obtain ⟨v0, v1, v2, v3, v4, v5⟩ := box6 h8.dropL.dropL.skip.skip.skip; obtain ⟨q0, q1⟩ := HG.out _ h8.dropL.dropL.skip.skip.skip.skip))
        clear y0 y1 y2 y3 y4 y5 y6 v0 v1 v2 v3 v4 v5 q0 q1
        obtain ⟨⟨z0, z1, z2, z3⟩, ⟨f0, f1, f2, f3⟩⟩ := boxK h8.dropL.dropL.skip.skip
        go_wp2_with fail
        have h9 := kset (sv' := .slice none 0 0) (hv' := .slice none 0 0) (l' := false) (lv' := .slice none 0 0) h8.dropL.dropL.skip.skip
        obtain ⟨⟨e0, e1, e2, e3⟩, -⟩ := boxK h9
        exact bodyPost_ret (v := .tuple #[.agg #[.slice none 0 0, .slice none 0 0, .bool false, .slice none 0 0], .int .i64 150]) (by simp [results, Try.f36, go_sem, e0, e1, e2, e3]) rfl ⟨rfl, h9.skip.skip⟩
      | some sl =>
        rw [hsh] at hch hk
        simp only at hk
        have HCH := Lib.hid hch
        have HK := Lib.hid hk
        clear hch hsh hk
        go_wp2_with fail
        go_region_held3 (fun w' => (w'.cell? ⟨q, 0, none⟩ = some (.slice (some ⟨B, o, none⟩) N k) ∧ w'.cell? ⟨q, 1, none⟩ = some (.int .i64 c.C) ∧ w'.cell? ⟨q, 2, none⟩ = some (.int .i64 c.S) ∧ w'.cell? ⟨q, 3, none⟩ = some (.int .i64 c.O) ∧ w'.cell? ⟨q, 4, none⟩ = some (.int .i64 d) ∧ w'.cell? ⟨q, 5, none⟩ = some (.int .i64 e) ∧ w'.cell? ⟨q, 6, none⟩ = some (.int .u64 c.key)) ∧ (w'.cell? ⟨b, 0, none⟩ = some (.int .i64 c.C) ∧ w'.cell? ⟨b, 1, none⟩ = some (.int .i64 c.S) ∧ w'.cell? ⟨b, 2, none⟩ = some (.int .i64 c.O) ∧ w'.cell? ⟨b, 3, none⟩ = some (.int .i64 d) ∧ w'.cell? ⟨b, 4, none⟩ = some (.int .i64 e) ∧ w'.cell? ⟨b, 5, none⟩ = some (.int .u64 c.key)) ∧ w'.cell? ⟨B, o + p1, none⟩ = some (.int .u64 (x1 : Int))) (first | (refine ⟨⟨?_, ?_, ?_, ?_, ?_, ?_, ?_⟩, ⟨?_, ?_, ?_, ?_, ?_, ?_⟩, ?_⟩ <;> assumption) | go_keep)
          (first | (go_at_call 16; refine (Apart.shelf_ok HC.out.ok HRW.out.drew).mono ?_; rintro r w7 ⟨rfl, h7⟩; rw [HPI1.out]; obtain ⟨y0, y1, y2, y3, y4, y5, y6⟩ := box7 h7.dropL.dropL.skip; obtain ⟨v0, v1, v2, v3, v4, v5⟩ := box6 h7.dropL.dropL.skip.skip.skip; obtain ⟨q0, q1⟩ := HG.out _ h7.dropL.dropL.skip.skip.skip.skip) |
            (go_at_call 65; refine (HCH.out _ h7).mono ?_; rintro r w8 ⟨hv, b1, rfl, KH, h8⟩; obtain ⟨y0, y1, y2, y3, y4, y5, y6⟩ := box7 h8.dropL.dropL.dropL.skip; obtain ⟨v0, v1, v2, v3, v4, v5⟩ := box6 h8.dropL.dropL.dropL.skip.skip.skip; obtain ⟨q0, q1⟩ := HG.out _ h8.dropL.dropL.dropL.skip.skip.skip.skip))
        obtain ⟨A3, c3, hhv, -, -⟩ := KH.out.slice
        obtain ⟨l3, hl3⟩ : ∃ l3, sl.length = l3 := ⟨_, rfl⟩
        rw [hl3] at hhv
        subst hhv
        have h9 := h8.perm (see_perm4 _ _ _ _ _ _ _ _)
        have h10 := kset1 (hv' := .slice A3 l3 c3) h9
        clear y0 y1 y2 y3 y4 y5 y6 v0 v1 v2 v3 v4 v5 q0 q1 hl3 h7 h8
        obtain ⟨⟨z0, z1, z2, z3⟩, ⟨f0, f1, f2, f3⟩⟩ := boxK h9
        obtain ⟨v0, v1, v2, v3, v4, v5⟩ := box6 h10.skip.skip.skip
        go_wp2_with fail
        obtain ⟨wz, hwz⟩ : ∃ wz, w8.setCell ⟨t, 1, none⟩ (.slice A3 l3 c3) = wz := ⟨_, rfl⟩
        rw [hwz] at h10 ⊢
        have H10 := Lib.hid h10
        clear z0 z1 z2 z3 f0 f1 f2 f3 v0 v1 v2 v3 v4 v5 h9 h10 hwz
        obtain ⟨w0, hw0⟩ : ∃ w0 : World, w0 = wr := ⟨_, rfl⟩
        subst hw0
        go_loopw [75] (fun iv wr => ∃ (i : Nat) (Ll : List SlabN) (lv : Value) (b2 : List (Nat × Obj)), iv = .int .i64 i ∧ i ≤ c.S ∧ Hid (Ll.length = i) ∧ Hid (upto (slabP c g) i = some (Ll.map (·.x))) ∧ Hid (SlabsOk Ll) ∧ Hid (SlabsV lv Ll b2) ∧ Own W (b2 ++ (slabBlocks Ll ++ (kBlk t (.slice A0 c.C c0) (.slice A3 l3 c3) lk lv :: (rBlk q B o N k c d e :: (kBlk (b + 1) (.slice none 0 0) (.slice none 0 0) false (.slice none 0 0) :: (chB b c.C c.S c.O d e c.key :: (b1 ++ (b0 ++ (slotBlocks Ls ++ m))))))))) wr) (fun iv _ => c.S - (intOf iv).toNat)
        case atStart => exact ⟨0, [], .slice none 0 0, [], rfl, by omega, rfl, rfl, (fun s hs => by cases hs), SlO.nil _ _ _, H10.out⟩
        case round =>
          clear H10
          obtain ⟨i, Ll, lv, b2, rfl, hi2, HLI2, HUP2, HLO, HLV, hr⟩ := hrel
          obtain ⟨A4, c4, hv4, -, -⟩ := HLV.out.slice
          rw [HLI2.out] at hv4
          subst hv4
          have HLV2 : Hid (SlO true 82 5 (.slice A4 i c4) i (slabCells Ll) b2) := by have := HLV.out; unfold SlabsV at this; rw [HLI2.out] at this; exact this
          by_cases hlt2 : i < c.S
          · have hlti2 : (i : Int) < (c.S : Int) := by omega
            have hsl := rslab_spec hr HC.out ((((((HW.out.more (m' := slotBlocks Ls)).more (m' := b0)).more (m' := b1)).more (m' := [kBlk t (.slice A0 c.C c0) (.slice A3 l3 c3) lk (.slice A4 i c4), rBlk q B o N k c d e, kBlk (b + 1) (.slice none 0 0) (.slice none 0 0) false (.slice none 0 0), chB b c.C c.S c.O d e c.key])).more (m' := slabBlocks Ll)).more (m' := b2)) i hlt2
            obtain ⟨y0, y1, y2, y3, y4, y5, y6⟩ := box7 hr.dropL.dropL.skip
            cases hsp : slabP c g i with
            | none =>
              rw [hsp] at hsl
              have HSL := Lib.hid hsl
              have hnone : upto (slabP c g) c.S = none := upto_none hsp hlt2
              have hk := HK.out
              rw [hnone] at hk
              simp only at hk
              subst hk
              clear hsl hsp hnone
              go_wp2_with fail
              refine HSL.out.mono ?_
              rintro r w9 ⟨rfl, h9⟩
              clear y0 y1 y2 y3 y4 y5 y6
              have h11 := h9.alloc (.cells #[.int .i64 0, .int .i64 0, .bool false, .bool false, .slice none 0 0] 82)
              obtain ⟨⟨z0, z1, z2, z3⟩, ⟨f0, f1, f2, f3⟩⟩ := boxK h11.dropL.dropL.skip.skip
              go_wp2_with fail
              have h12 := kset (sv' := .slice none 0 0) (hv' := .slice none 0 0) (l' := false) (lv' := .slice none 0 0) h11.dropL.dropL.skip.skip
              obtain ⟨⟨e0, e1, e2, e3⟩, -⟩ := boxK h12
              exact bodyPost_ret (v := .tuple #[.agg #[.slice none 0 0, .slice none 0 0, .bool false, .slice none 0 0], .int .i64 150]) (by simp [results, Try.f36, go_sem, e0, e1, e2, e3]) rfl ⟨rfl, h12.skip.skip.dropL.dropL.dropL⟩
            | some x =>
              rw [hsp] at hsl
              have HSL := Lib.hid hsl
              have HUP3 := Lib.hid (upto_step HUP2.out hsp)
              clear hsl hsp
              go_wp2_with fail
              refine HSL.out.mono ?_
              rintro r w9 ⟨lv, lb, rfl, KL, h9⟩
              obtain ⟨A1, c1, hv1, -, -⟩ := KL.out.slice
              obtain ⟨l1, hl1⟩ : ∃ l1, x.first.length = l1 := ⟨_, rfl⟩
              rw [hl1] at hv1
              subst hv1
              clear y0 y1 y2 y3 y4 y5 y6 hl1
              have h11 : Own W (b2 ++ (lb ++ (slabBlocks Ll ++ (kBlk t (.slice A0 c.C c0) (.slice A3 l3 c3) lk (.slice A4 i c4) :: (rBlk q B o N k c d e :: (kBlk (b + 1) (.slice none 0 0) (.slice none 0 0) false (.slice none 0 0) :: (chB b c.C c.S c.O d e c.key :: (b1 ++ (b0 ++ (slotBlocks Ls ++ m)))))))))) w9 := h9.swap
              have h12 := h11.alloc (.cells #[.int .i64 x.counts.inuse, .int .i64 x.counts.objects, .bool x.counts.frozen, .bool x.counts.live, .slice A1 l1 c1] 82)
              have H13 := Lib.hid (h12.alloc (.cells #[.int .i64 x.counts.inuse, .int .i64 x.counts.objects, .bool x.counts.frozen, .bool x.counts.live, .slice A1 l1 c1] 82))
              have hsrc := src_vals (w9.alloc (.cells #[.int .i64 x.counts.inuse, .int .i64 x.counts.objects, .bool x.counts.frozen, .bool x.counts.live, .slice A1 l1 c1] 82)) 82 [.int .i64 x.counts.inuse, .int .i64 x.counts.objects, .bool x.counts.frozen, .bool x.counts.live, .slice A1 l1 c1]
              rw [World.size_alloc] at hsrc
              have HSRC := Lib.hid hsrc
              have hone : ∀ u ∈ ([.int .i64 x.counts.inuse, .int .i64 x.counts.objects, .bool x.counts.frozen, .bool x.counts.live, .slice A1 l1 c1] : List Value), u.oneCell' = true := by
                intro u hu
                simp at hu
                rcases hu with rfl | rfl | rfl | rfl | rfl <;> rfl
              have HONE := Lib.hid hone
              obtain ⟨⟨z0, z1, z2, z3⟩, ⟨f0, f1, f2, f3⟩⟩ := boxK h12.dropL.dropL.dropL
              clear hsrc hone h9 h11 h12
              go_wp2_with (at_builtin; refine app_struct rfl _ _ 38 rfl rfl rfl _ slab_info Try.underlying38 rfl (by omega) (by omega) HLV2.out H13.out HSRC.out HONE.out (by omega) ?_; intro v' w' bs' k1 k2; have K1 := Lib.hid k1; obtain ⟨A9, c9, hv9, -, -⟩ := k1.slice; subst hv9; have K2 := Lib.hid k2; clear z0 z1 z2 z3 f0 f1 f2 f3; obtain ⟨⟨z0, z1, z2, z3⟩, ⟨f0, f1, f2, f3⟩⟩ := boxK k2.dropL.dropL.dropL; clear k1 k2)
              have hst := (kset3 (lv' := .slice A9 (i + 1) c9) (K2.out.perm (see_perm5 _ _ _ _ _)))
              refine ⟨⟨i + 1, Ll ++ [⟨x, .slice A1 l1 c1, lb⟩], .slice A9 (i + 1) c9, bs', by go_num, by omega, ?_, ?_, ?_, ?_, ?_⟩, by simp [intOf]; omega⟩
              · show _ = _
                rw [List.length_append, HLI2.out]
                rfl
              · show _ = _
                rw [List.map_append]
                exact HUP3.out
              · show SlabsOk _
                intro s hs
                rcases List.mem_append.1 hs with hs | hs
                · exact HLO.out s hs
                · rw [List.mem_singleton] at hs
                  subst hs
                  exact KL.out
              · show SlabsV _ _ _
                unfold SlabsV
                rw [List.length_append, HLI2.out, slabCells_append]
                exact K1.out
              · refine hst.perm ?_
                rw [slabBlocks_append]
                exact see_perm6 _ _ _ _ _
          · have hiS : i = c.S := by omega
            subst hiS
            have hlti2 : ¬ (c.S : Int) < (c.S : Int) := by omega
            have hk := HK.out
            rw [HUP2.out] at hk
            simp only at hk
            have HK2 := Lib.hid hk
            have ht2 := hr.dropL.dropL
            obtain ⟨⟨z0, z1, z2, z3⟩, ⟨f0, f1, f2, f3⟩⟩ := boxK ht2
            obtain ⟨⟨g0, g1, g2, g3⟩, ⟨u0, u1, u2, u3⟩⟩ := boxK ht2.skip.skip
            clear hk
            go_wp2_with fail
            have hx := hr.perm (see_perm7 _ _ _ _ _ _)
            have h9 := kset (sv' := .slice A0 c.C c0) (hv' := .slice A3 l3 c3) (l' := lk) (lv' := .slice A4 c.S c4) hx
            obtain ⟨⟨e0, e1, e2, e3⟩, -⟩ := boxK h9
            rw [HK2.out]
            refine bodyPost_ret (v := .tuple #[.agg #[.slice A0 c.C c0, .slice A3 l3 c3, .bool lk, .slice A4 c.S c4], .int .i64 0]) (by simp [results, Try.f36, go_sem, e0, e1, e2, e3]) rfl ?_
            refine ⟨_, b0 ++ (slotBlocks Ls ++ (b1 ++ (b2 ++ slabBlocks Ll))), rfl, ⟨Ls, .slice A0 c.C c0, b0, .slice A3 l3 c3, b1, Ll, .slice A4 c.S c4, b2, rfl, rfl, HSO.out, HSV.out, KH.out, rfl, HLO.out, HLV.out, rfl⟩, ?_⟩
            rw [List.append_assoc, List.append_assoc, List.append_assoc, List.append_assoc]
            exact (h9.skip.sub (see_sub _ _ _ _ _ _)).perm (see_perm8 _ _ _ _ _ _)
end
end Go.Proofs.Ytigakendeghoaaa.See

/-
  Contract: wainscotref21.See. No condition. (Printed by mkrsee.py.)
-/
namespace Go.Proofs.Ytigakendeghoaaa.See
open Go.RowKit
open Apart (chV chB box6 ChAt)
open chartPlaces (Ok)
attribute [local go_sem ↓] Go.wp_at_zero Go.wp_at_succ
section
variable {W w : World} {M m : List (Nat × Obj)} {B o N k b : Nat} {g : List Nat} {c : Ch} {d e : Int}
theorem rcheck_ok {C S O d e key : Int} (h : Ok C S O d e) (hO : Own W m w) : Calls Try.prog 21 #[chV C S O d e key] w fun r w' => r = .returned (.int .i64 0) ∧ Own W m w' := by
  have h1 := h
  unfold Ok at h1
  have h2 := Apart.rcheck_all (C := C) (S := S) (O := O) (d := d) (e := e) (key := key) (by unfold chartPlaces.I64; omega) (by unfold chartPlaces.I64; omega) (by unfold chartPlaces.I64; omega) hO
  rw [if_pos h] at h2
  exact h2
theorem rsee_perm7 {α : Type} (a l : List α) (x y : α) (e : List α) : (a ++ (l ++ (x :: (y :: e)))).Perm (y :: (a ++ (l ++ (x :: e)))) := by
  have h1 : (x :: (y :: e)).Perm (y :: (x :: e)) := List.Perm.swap _ _ _
  have h2 : (l ++ (x :: (y :: e))).Perm (y :: (l ++ (x :: e))) := (List.Perm.append_left l h1).trans List.perm_middle
  exact (List.Perm.append_left a h2).trans List.perm_middle
theorem rsee_sub {α : Type} (a l : List α) (x y : α) (e : List α) : (a ++ (l ++ e)).Sublist (a ++ (l ++ (x :: (y :: e)))) :=
  (List.Sublist.refl a).append ((List.Sublist.refl l).append ((List.sublist_cons_self y e).trans (List.sublist_cons_self x _)))
theorem rsee_perm4 {α : Type} (a b c : List α) (x y z : α) (m : List α) : (a ++ (b ++ (c ++ (x :: (y :: (z :: m)))))).Perm (x :: (y :: (z :: (a ++ (b ++ (c ++ m)))))) := by
  have h1 : (c ++ ([x, y, z] ++ m)).Perm ([x, y, z] ++ (c ++ m)) := perm_swap _ _ _
  have h2 : (b ++ ([x, y, z] ++ (c ++ m))).Perm ([x, y, z] ++ (b ++ (c ++ m))) := perm_swap _ _ _
  have h3 : (a ++ ([x, y, z] ++ (b ++ (c ++ m)))).Perm ([x, y, z] ++ (a ++ (b ++ (c ++ m)))) := perm_swap _ _ _
  exact (List.Perm.append_left a ((List.Perm.append_left b h1).trans h2)).trans h3
set_option maxRecDepth 100000 in
set_option maxHeartbeats 8000000 in
theorem r1see_spec (h : Own W m w) (hc : COk c d e) (hw : WOk W m B o N k g c) :
    Calls Try.prog 37 #[.slice (some ⟨B, o, none⟩) N k, cV c d e] w (SeePost W m (seeP c g)) := by
  obtain ⟨n1, n2, n3, n4, n5, n6⟩ := hc.nums
  have h1 := (h.new (.cells #[.int .i64 c.C, .int .i64 c.S, .int .i64 c.O, .int .i64 d, .int .i64 e, .int .u64 c.key] 24)).new (.cells #[.slice none 0 0, .slice none 0 0, .bool false, .slice none 0 0] 40)
  obtain ⟨b, hb⟩ : ∃ b, w.heap.size = b := ⟨_, rfl⟩
  simp only [World.size_alloc] at h1
  rw [hb] at h1
  have h1 : Own W (kBlk (b + 1) (.slice none 0 0) (.slice none 0 0) false (.slice none 0 0) :: (chB b c.C c.S c.O d e c.key :: m)) _ := h1
  obtain ⟨y0, y1, y2, y3, y4, y5⟩ := box6 h1.skip
  have hN := hw.n
  have hwq := words_eq c
  rw [← hN] at hwq
  have hn32 : 32 ≤ N ∨ N < 32 := by omega
  obtain ⟨p, hp⟩ : ∃ p : Nat, 4 * c.C = p := ⟨_, rfl⟩
  have hpi : 4 * (c.C : Int) = (p : Int) := by omega
  obtain ⟨p1, hpp1⟩ : ∃ p1 : Nat, p + 1 = p1 := ⟨_, rfl⟩
  have hpi1 : 4 * (c.C : Int) + 1 = (p1 : Int) := by omega
  have hpN : p1 < N := by rw [hN]; unfold Ch.words; omega
  have hp2 : (0 : Int) ≤ (p1 : Int) := by omega
  have hp3 : (p1 : Int) < (N : Int) := by omega
  have HPI := Lib.hid hpi
  have HPI1 := Lib.hid hpi1
  have hp0 : (0 : Int) ≤ (p : Int) := by omega
  have hp1 : (p : Int) < (N : Int) := by omega
  obtain ⟨x0, hx0⟩ : ∃ x, g[p]? = some x := ⟨_, List.getElem?_eq_getElem (by rw [hw.len]; omega)⟩
  obtain ⟨x1, hx1⟩ : ∃ x, g[p1]? = some x := ⟨_, List.getElem?_eq_getElem (by rw [hw.len]; omega)⟩
  have a0 : at_ g (4 * c.C) = x0 := by unfold at_; rw [hp, List.getD_eq_getElem?_getD, hx0]; rfl
  have a1 : at_ g (4 * c.C + 1) = x1 := by unfold at_; rw [hp, hpp1, List.getD_eq_getElem?_getD, hx1]; rfl
  have HG : Hid (∀ ws, Own W m ws → ws.cell? ⟨B, o + p, none⟩ = some (.int .u64 (x0 : Int)) ∧ ws.cell? ⟨B, o + p1, none⟩ = some (.int .u64 (x1 : Int))) := fun ws hws => ⟨hw.rd ws hws p x0 hx0, hw.rd ws hws p1 x1 hx1⟩
  have HX1 : Hid (x1 < 18446744073709551616) := hw.w64 x1 (List.mem_of_getElem? hx1)
  obtain ⟨lk, hlk⟩ : ∃ lk, decide (x0 ≠ 0) = lk := ⟨_, rfl⟩
  have hlk2 : ((x0 : Int) != 0) = lk := by
    rw [← hlk]
    by_cases h0 : x0 = 0
    · subst h0; rfl
    · have : (x0 : Int) ≠ 0 := by omega
      simp [h0, this]
  have hR : seeP c g = match upto (slotP c g) c.C with
      | none => none
      | some a => match shelfP c g with
        | none => none
        | some l => match upto (slabP c g) c.S with
          | none => none
          | some b => some ⟨a, l, lk, b⟩ := by
    unfold seeP
    rw [a0, hlk]
    rfl
  obtain ⟨R, hRR⟩ : ∃ R, seeP c g = R := ⟨_, rfl⟩
  rw [hRR] at hR ⊢
  have HR := Lib.hid hR
  have HA1 := Lib.hid a1
  have HC := Lib.hid hc
  have HW := Lib.hid hw
  have HWQ := Lib.hid hwq
  have H1 := Lib.hid h1
  clear hpp1 hN hp hpi hpi1 hx0 hx1 a0 a1 hw hc h1 h hn32 hlk hR hRR hwq
  unfold cV chV
  go_enter Try.func37, Try.ntmps37
  go_wp2_with fail
  refine (rcheck_ok HC.out.ok H1.out).mono ?_
  rintro r w2 ⟨rfl, h2⟩
  clear y0 y1 y2 y3 y4 y5
  obtain ⟨y0, y1, y2, y3, y4, y5⟩ := box6 h2.skip
  go_wp2_with fail
  refine (Apart.rwords_ok HC.out.ok h2).mono ?_
  rintro r w3 ⟨rfl, h3⟩
  rw [HWQ.out]
  clear y0 y1 y2 y3 y4 y5 h2
  obtain ⟨y0, y1, y2, y3, y4, y5⟩ := box6 h3.skip
  go_wp2_with fail
  refine (Apart.rlock_ok HC.out.ok h3).mono ?_
  rintro r w5 ⟨rfl, h5⟩
  rw [HPI.out]
  clear y0 y1 y2 y3 y4 y5 h3
  obtain ⟨q0, q1⟩ := HG.out _ h5.skip.skip
  have h6 := h5.new (.cells #[.slice none 0 0, .slice none 0 0, .bool lk, .slice none 0 0] 40)
  obtain ⟨t, ht⟩ : ∃ t, w5.heap.size = t := ⟨_, rfl⟩
  rw [ht] at h6
  have h6 : Own W (kBlk t (.slice none 0 0) (.slice none 0 0) lk (.slice none 0 0) :: (kBlk (b + 1) (.slice none 0 0) (.slice none 0 0) false (.slice none 0 0) :: (chB b c.C c.S c.O d e c.key :: m))) _ := h6
  obtain ⟨y0, y1, y2, y3, y4, y5⟩ := box6 h6.skip.skip
  go_wp2_with fail
  have H6 := Lib.hid h6
  clear q0 q1 ht h5 h6 y0 y1 y2 y3 y4 y5
  go_loopw [7] (fun iv wr => ∃ (i : Nat) (Ls : List SlotN) (sv : Value) (b0 : List (Nat × Obj)), iv = .int .i64 i ∧ i ≤ c.C ∧ Hid (Ls.length = i) ∧ Hid (upto (slotP c g) i = some (Ls.map (·.x))) ∧ Hid (SlotsOk Ls) ∧ Hid (SlotsV sv Ls b0) ∧ Own W (b0 ++ (slotBlocks Ls ++ (kBlk t sv (.slice none 0 0) lk (.slice none 0 0) :: (kBlk (b + 1) (.slice none 0 0) (.slice none 0 0) false (.slice none 0 0) :: (chB b c.C c.S c.O d e c.key :: m))))) wr) (fun iv _ => c.C - (intOf iv).toNat)
  case atStart => exact ⟨0, [], .slice none 0 0, [], rfl, by omega, rfl, rfl, (fun s hs => by cases hs), SlO.nil _ _ _, H6.out⟩
  case round =>
    clear H6
    obtain ⟨i, Ls, sv, b0, rfl, hi, HLI, HUP, HSO, HSV, hr⟩ := hrel
    obtain ⟨A0, c0, hv0, -, -⟩ := HSV.out.slice
    rw [HLI.out] at hv0
    subst hv0
    have HSV2 : Hid (SlO true 78 4 (.slice A0 i c0) i (slotCells Ls) b0) := by have := HSV.out; unfold SlotsV at this; rw [HLI.out] at this; exact this
    by_cases hlt : i < c.C
    · have hlti : (i : Int) < (c.C : Int) := by omega
      have hsl := r1slot_spec hr HC.out (((HW.out.more (m' := [kBlk t (.slice A0 i c0) (.slice none 0 0) lk (.slice none 0 0), kBlk (b + 1) (.slice none 0 0) (.slice none 0 0) false (.slice none 0 0), chB b c.C c.S c.O d e c.key])).more (m' := slotBlocks Ls)).more (m' := b0)) i hlt
      obtain ⟨y0, y1, y2, y3, y4, y5⟩ := box6 hr.dropL.dropL.skip.skip
      cases hsp : slotP c g i with
      | none =>
        rw [hsp] at hsl
        have HSL := Lib.hid hsl
        have hnone : upto (slotP c g) c.C = none := upto_none hsp hlt
        have hk := HR.out
        rw [hnone] at hk
        simp only at hk
        subst hk
        clear hsl hsp hnone
        go_wp2_with fail
        refine HSL.out.mono ?_
        rintro r w7 ⟨rfl, h7⟩
        clear y0 y1 y2 y3 y4 y5
        have h8 := h7.alloc (.cells #[.int .i64 0, .slice none 0 0, .int .u64 0, .slice none 0 0] 78)
        obtain ⟨⟨z0, z1, z2, z3⟩, ⟨f0, f1, f2, f3⟩⟩ := boxK h8.dropL.dropL.skip
        go_wp2_with fail
        have h9 := kset (sv' := .slice none 0 0) (hv' := .slice none 0 0) (l' := false) (lv' := .slice none 0 0) h8.dropL.dropL.skip
        obtain ⟨⟨e0, e1, e2, e3⟩, -⟩ := boxK h9
        exact bodyPost_ret (v := .tuple #[.agg #[.slice none 0 0, .slice none 0 0, .bool false, .slice none 0 0], .int .i64 150]) (by simp [results, Try.f37, go_sem, e0, e1, e2, e3]) rfl ⟨rfl, h9.skip.skip⟩
      | some x =>
        rw [hsp] at hsl
        have HSL := Lib.hid hsl
        have HUP2 := Lib.hid (upto_step HUP.out hsp)
        clear hsl hsp
        go_wp2_with fail
        refine HSL.out.mono ?_
        rintro r w7 ⟨lv, lb, pv, pb, rfl, KL, KP, h7⟩
        obtain ⟨A1, c1, hv1, -, -⟩ := KL.out.slice
        obtain ⟨A2, c2, hv2, -, -⟩ := KP.out.slice
        obtain ⟨l1, hl1⟩ : ∃ l1, x.list.length = l1 := ⟨_, rfl⟩
        obtain ⟨l2, hl2⟩ : ∃ l2, x.parts.length = l2 := ⟨_, rfl⟩
        rw [hl1] at hv1
        rw [hl2] at hv2
        subst hv1 hv2
        clear y0 y1 y2 y3 y4 y5 hl1 hl2
        have h8 : Own W (b0 ++ (lb ++ (pb ++ (slotBlocks Ls ++ (kBlk t (.slice A0 i c0) (.slice none 0 0) lk (.slice none 0 0) :: (kBlk (b + 1) (.slice none 0 0) (.slice none 0 0) false (.slice none 0 0) :: (chB b c.C c.S c.O d e c.key :: m))))))) w7 := h7.perm (see_perm1 _ _ _ _)
        have h9 := h8.alloc (.cells #[.int .i64 x.slab, .slice A1 l1 c1, .int .u64 x.turn, .slice A2 l2 c2] 78)
        have H10 := Lib.hid (h9.alloc (.cells #[.int .i64 x.slab, .slice A1 l1 c1, .int .u64 x.turn, .slice A2 l2 c2] 78))
        have hsrc := src_vals (w7.alloc (.cells #[.int .i64 x.slab, .slice A1 l1 c1, .int .u64 x.turn, .slice A2 l2 c2] 78)) 78 [.int .i64 x.slab, .slice A1 l1 c1, .int .u64 x.turn, .slice A2 l2 c2]
        rw [World.size_alloc] at hsrc
        have HSRC := Lib.hid hsrc
        have hone : ∀ u ∈ [Value.int .i64 x.slab, .slice A1 l1 c1, .int .u64 x.turn, .slice A2 l2 c2], u.oneCell' = true := by
          intro u hu
          simp at hu
          rcases hu with rfl | rfl | rfl | rfl <;> rfl
        have HONE := Lib.hid hone
        obtain ⟨⟨z0, z1, z2, z3⟩, ⟨f0, f1, f2, f3⟩⟩ := boxK h9.dropL.dropL.dropL.dropL
        clear hsrc hone h7 h8 h9
        go_wp2_with (at_builtin; refine app_struct rfl _ _ 37 rfl rfl rfl _ slot_info Try.underlying37 rfl (by omega) (by omega) HSV2.out H10.out HSRC.out HONE.out (by omega) ?_; intro v' w' bs' k1 k2; have K1 := Lib.hid k1; obtain ⟨A9, c9, hv9, -, -⟩ := k1.slice; subst hv9; have K2 := Lib.hid k2; clear z0 z1 z2 z3 f0 f1 f2 f3; obtain ⟨⟨z0, z1, z2, z3⟩, ⟨f0, f1, f2, f3⟩⟩ := boxK k2.dropL.dropL.dropL.dropL; clear k1 k2)
        have hst := (kset0 (sv' := .slice A9 (i + 1) c9) (K2.out.perm (see_perm2 _ _ _ _ _ _)))
        refine ⟨⟨i + 1, Ls ++ [⟨x, .slice A1 l1 c1, lb, .slice A2 l2 c2, pb⟩], .slice A9 (i + 1) c9, bs', by go_num, by omega, ?_, ?_, ?_, ?_, ?_⟩, by simp [intOf]; omega⟩
        · show _ = _
          rw [List.length_append, HLI.out]
          rfl
        · show _ = _
          rw [List.map_append]
          exact HUP2.out
        · show SlotsOk _
          intro s hs
          rcases List.mem_append.1 hs with hs | hs
          · exact HSO.out s hs
          · rw [List.mem_singleton] at hs
            subst hs
            exact ⟨KL.out, KP.out⟩
        · show SlotsV _ _ _
          unfold SlotsV
          rw [List.length_append, HLI.out, slotCells_append]
          exact K1.out
        · refine hst.perm ?_
          rw [slotBlocks_append]
          exact see_perm3 _ _ _ _ _ _
    · have hiC : i = c.C := by omega
      subst hiC
      have hlti : ¬ (c.C : Int) < (c.C : Int) := by omega
      have hch := fun ws (hws : Own W (b0 ++ (slotBlocks Ls ++ (kBlk t (.slice A0 c.C c0) (.slice none 0 0) lk (.slice none 0 0) :: (kBlk (b + 1) (.slice none 0 0) (.slice none 0 0) false (.slice none 0 0) :: (chB b c.C c.S c.O d e c.key :: m))))) ws) => r1shelf_spec hws HC.out (((HW.out.more (m' := [kBlk t (.slice A0 c.C c0) (.slice none 0 0) lk (.slice none 0 0), kBlk (b + 1) (.slice none 0 0) (.slice none 0 0) false (.slice none 0 0), chB b c.C c.S c.O d e c.key])).more (m' := slotBlocks Ls)).more (m' := b0))
      have HRW := Lib.hid hr
      obtain ⟨y0, y1, y2, y3, y4, y5⟩ := box6 hr.dropL.dropL.skip.skip
      have hk := HR.out
      rw [HUP.out] at hk
      simp only at hk
      clear hr
      cases hsh : shelfP c g with
      | none =>
        rw [hsh] at hch hk
        simp only at hk
        subst hk
        have HCH := Lib.hid hch
        clear hch hsh
        go_wp2_with fail
        refine (HCH.out _ HRW.out).mono ?_
        rintro r w8 ⟨rfl, h8⟩
        clear y0 y1 y2 y3 y4 y5
        obtain ⟨⟨z0, z1, z2, z3⟩, ⟨f0, f1, f2, f3⟩⟩ := boxK h8.dropL.dropL.skip
        go_wp2_with fail
        have h9 := kset (sv' := .slice none 0 0) (hv' := .slice none 0 0) (l' := false) (lv' := .slice none 0 0) h8.dropL.dropL.skip
        obtain ⟨⟨e0, e1, e2, e3⟩, -⟩ := boxK h9
        exact bodyPost_ret (v := .tuple #[.agg #[.slice none 0 0, .slice none 0 0, .bool false, .slice none 0 0], .int .i64 150]) (by simp [results, Try.f37, go_sem, e0, e1, e2, e3]) rfl ⟨rfl, h9.skip.skip⟩
      | some sl =>
        rw [hsh] at hch hk
        simp only at hk
        have HCH := Lib.hid hch
        have HK := Lib.hid hk
        clear hch hsh hk
        go_wp2_with fail
        refine (HCH.out _ HRW.out).mono ?_
        rintro r w8 ⟨hv, b1, rfl, KH, h8⟩
        clear y0 y1 y2 y3 y4 y5
        obtain ⟨A3, c3, hhv, -, -⟩ := KH.out.slice
        obtain ⟨l3, hl3⟩ : ∃ l3, sl.length = l3 := ⟨_, rfl⟩
        rw [hl3] at hhv
        subst hhv
        have h9 := h8.perm (rsee_perm4 _ _ _ _ _ _ _)
        have h10 := kset1 (hv' := .slice A3 l3 c3) h9
        clear hl3 h8
        obtain ⟨⟨z0, z1, z2, z3⟩, ⟨f0, f1, f2, f3⟩⟩ := boxK h9
        obtain ⟨v0, v1, v2, v3, v4, v5⟩ := box6 h10.skip.skip
        go_wp2_with fail
        obtain ⟨wz, hwz⟩ : ∃ wz, w8.setCell ⟨t, 1, none⟩ (.slice A3 l3 c3) = wz := ⟨_, rfl⟩
        rw [hwz] at h10 ⊢
        have H10 := Lib.hid h10
        clear z0 z1 z2 z3 f0 f1 f2 f3 v0 v1 v2 v3 v4 v5 h9 h10 hwz
        obtain ⟨w0, hw0⟩ : ∃ w0 : World, w0 = wr := ⟨_, rfl⟩
        subst hw0
        go_loopw [12] (fun iv wr => ∃ (i : Nat) (Ll : List SlabN) (lv : Value) (b2 : List (Nat × Obj)), iv = .int .i64 i ∧ i ≤ c.S ∧ Hid (Ll.length = i) ∧ Hid (upto (slabP c g) i = some (Ll.map (·.x))) ∧ Hid (SlabsOk Ll) ∧ Hid (SlabsV lv Ll b2) ∧ Own W (b2 ++ (slabBlocks Ll ++ (kBlk t (.slice A0 c.C c0) (.slice A3 l3 c3) lk lv :: (kBlk (b + 1) (.slice none 0 0) (.slice none 0 0) false (.slice none 0 0) :: (chB b c.C c.S c.O d e c.key :: (b1 ++ (b0 ++ (slotBlocks Ls ++ m)))))))) wr) (fun iv _ => c.S - (intOf iv).toNat)
        case atStart => exact ⟨0, [], .slice none 0 0, [], rfl, by omega, rfl, rfl, (fun s hs => by cases hs), SlO.nil _ _ _, H10.out⟩
        case round =>
          clear H10
          obtain ⟨i, Ll, lv, b2, rfl, hi2, HLI2, HUP2, HLO, HLV, hr⟩ := hrel
          obtain ⟨A4, c4, hv4, -, -⟩ := HLV.out.slice
          rw [HLI2.out] at hv4
          subst hv4
          have HLV2 : Hid (SlO true 82 5 (.slice A4 i c4) i (slabCells Ll) b2) := by have := HLV.out; unfold SlabsV at this; rw [HLI2.out] at this; exact this
          by_cases hlt2 : i < c.S
          · have hlti2 : (i : Int) < (c.S : Int) := by omega
            have hsl := r1slab_spec hr HC.out ((((((HW.out.more (m' := slotBlocks Ls)).more (m' := b0)).more (m' := b1)).more (m' := [kBlk t (.slice A0 c.C c0) (.slice A3 l3 c3) lk (.slice A4 i c4), kBlk (b + 1) (.slice none 0 0) (.slice none 0 0) false (.slice none 0 0), chB b c.C c.S c.O d e c.key])).more (m' := slabBlocks Ll)).more (m' := b2)) i hlt2
            obtain ⟨y0, y1, y2, y3, y4, y5⟩ := box6 hr.dropL.dropL.skip.skip
            cases hsp : slabP c g i with
            | none =>
              rw [hsp] at hsl
              have HSL := Lib.hid hsl
              have hnone : upto (slabP c g) c.S = none := upto_none hsp hlt2
              have hk := HK.out
              rw [hnone] at hk
              simp only at hk
              subst hk
              clear hsl hsp hnone
              go_wp2_with fail
              refine HSL.out.mono ?_
              rintro r w9 ⟨rfl, h9⟩
              clear y0 y1 y2 y3 y4 y5
              have h11 := h9.alloc (.cells #[.int .i64 0, .int .i64 0, .bool false, .bool false, .slice none 0 0] 82)
              obtain ⟨⟨z0, z1, z2, z3⟩, ⟨f0, f1, f2, f3⟩⟩ := boxK h11.dropL.dropL.skip
              go_wp2_with fail
              have h12 := kset (sv' := .slice none 0 0) (hv' := .slice none 0 0) (l' := false) (lv' := .slice none 0 0) h11.dropL.dropL.skip
              obtain ⟨⟨e0, e1, e2, e3⟩, -⟩ := boxK h12
              exact bodyPost_ret (v := .tuple #[.agg #[.slice none 0 0, .slice none 0 0, .bool false, .slice none 0 0], .int .i64 150]) (by simp [results, Try.f37, go_sem, e0, e1, e2, e3]) rfl ⟨rfl, h12.skip.skip.dropL.dropL.dropL⟩
            | some x =>
              rw [hsp] at hsl
              have HSL := Lib.hid hsl
              have HUP3 := Lib.hid (upto_step HUP2.out hsp)
              clear hsl hsp
              go_wp2_with fail
              refine HSL.out.mono ?_
              rintro r w9 ⟨lv, lb, rfl, KL, h9⟩
              obtain ⟨A1, c1, hv1, -, -⟩ := KL.out.slice
              obtain ⟨l1, hl1⟩ : ∃ l1, x.first.length = l1 := ⟨_, rfl⟩
              rw [hl1] at hv1
              subst hv1
              clear y0 y1 y2 y3 y4 y5 hl1
              have h11 : Own W (b2 ++ (lb ++ (slabBlocks Ll ++ (kBlk t (.slice A0 c.C c0) (.slice A3 l3 c3) lk (.slice A4 i c4) :: (kBlk (b + 1) (.slice none 0 0) (.slice none 0 0) false (.slice none 0 0) :: (chB b c.C c.S c.O d e c.key :: (b1 ++ (b0 ++ (slotBlocks Ls ++ m))))))))) w9 := h9.swap
              have h12 := h11.alloc (.cells #[.int .i64 x.counts.inuse, .int .i64 x.counts.objects, .bool x.counts.frozen, .bool x.counts.live, .slice A1 l1 c1] 82)
              have H13 := Lib.hid (h12.alloc (.cells #[.int .i64 x.counts.inuse, .int .i64 x.counts.objects, .bool x.counts.frozen, .bool x.counts.live, .slice A1 l1 c1] 82))
              have hsrc := src_vals (w9.alloc (.cells #[.int .i64 x.counts.inuse, .int .i64 x.counts.objects, .bool x.counts.frozen, .bool x.counts.live, .slice A1 l1 c1] 82)) 82 [.int .i64 x.counts.inuse, .int .i64 x.counts.objects, .bool x.counts.frozen, .bool x.counts.live, .slice A1 l1 c1]
              rw [World.size_alloc] at hsrc
              have HSRC := Lib.hid hsrc
              have hone : ∀ u ∈ ([.int .i64 x.counts.inuse, .int .i64 x.counts.objects, .bool x.counts.frozen, .bool x.counts.live, .slice A1 l1 c1] : List Value), u.oneCell' = true := by
                intro u hu
                simp at hu
                rcases hu with rfl | rfl | rfl | rfl | rfl <;> rfl
              have HONE := Lib.hid hone
              obtain ⟨⟨z0, z1, z2, z3⟩, ⟨f0, f1, f2, f3⟩⟩ := boxK h12.dropL.dropL.dropL
              clear hsrc hone h9 h11 h12
              go_wp2_with (at_builtin; refine app_struct rfl _ _ 38 rfl rfl rfl _ slab_info Try.underlying38 rfl (by omega) (by omega) HLV2.out H13.out HSRC.out HONE.out (by omega) ?_; intro v' w' bs' k1 k2; have K1 := Lib.hid k1; obtain ⟨A9, c9, hv9, -, -⟩ := k1.slice; subst hv9; have K2 := Lib.hid k2; clear z0 z1 z2 z3 f0 f1 f2 f3; obtain ⟨⟨z0, z1, z2, z3⟩, ⟨f0, f1, f2, f3⟩⟩ := boxK k2.dropL.dropL.dropL; clear k1 k2)
              have hst := (kset3 (lv' := .slice A9 (i + 1) c9) (K2.out.perm (see_perm5 _ _ _ _ _)))
              refine ⟨⟨i + 1, Ll ++ [⟨x, .slice A1 l1 c1, lb⟩], .slice A9 (i + 1) c9, bs', by go_num, by omega, ?_, ?_, ?_, ?_, ?_⟩, by simp [intOf]; omega⟩
              · show _ = _
                rw [List.length_append, HLI2.out]
                rfl
              · show _ = _
                rw [List.map_append]
                exact HUP3.out
              · show SlabsOk _
                intro s hs
                rcases List.mem_append.1 hs with hs | hs
                · exact HLO.out s hs
                · rw [List.mem_singleton] at hs
                  subst hs
                  exact KL.out
              · show SlabsV _ _ _
                unfold SlabsV
                rw [List.length_append, HLI2.out, slabCells_append]
                exact K1.out
              · refine hst.perm ?_
                rw [slabBlocks_append]
                exact see_perm6 _ _ _ _ _
          · have hiS : i = c.S := by omega
            subst hiS
            have hlti2 : ¬ (c.S : Int) < (c.S : Int) := by omega
            have hk := HK.out
            rw [HUP2.out] at hk
            simp only at hk
            have HK2 := Lib.hid hk
            have ht2 := hr.dropL.dropL
            obtain ⟨y0, y1, y2, y3, y4, y5⟩ := box6 ht2.skip.skip
            obtain ⟨⟨z0, z1, z2, z3⟩, ⟨f0, f1, f2, f3⟩⟩ := boxK ht2
            obtain ⟨⟨g0, g1, g2, g3⟩, ⟨u0, u1, u2, u3⟩⟩ := boxK ht2.skip
            clear hk
            go_wp2_with fail
            have hx := hr.perm (rsee_perm7 _ _ _ _ _)
            have h9 := kset (sv' := .slice A0 c.C c0) (hv' := .slice A3 l3 c3) (l' := lk) (lv' := .slice A4 c.S c4) hx
            obtain ⟨⟨e0, e1, e2, e3⟩, -⟩ := boxK h9
            rw [HK2.out]
            refine bodyPost_ret (v := .tuple #[.agg #[.slice A0 c.C c0, .slice A3 l3 c3, .bool lk, .slice A4 c.S c4], .int .i64 0]) (by simp [results, Try.f37, go_sem, e0, e1, e2, e3]) rfl ?_
            refine ⟨_, b0 ++ (slotBlocks Ls ++ (b1 ++ (b2 ++ slabBlocks Ll))), rfl, ⟨Ls, .slice A0 c.C c0, b0, .slice A3 l3 c3, b1, Ll, .slice A4 c.S c4, b2, rfl, rfl, HSO.out, HSV.out, KH.out, rfl, HLO.out, HLV.out, rfl⟩, ?_⟩
            rw [List.append_assoc, List.append_assoc, List.append_assoc, List.append_assoc]
            exact (h9.skip.sub (rsee_sub _ _ _ _ _)).perm (see_perm8 _ _ _ _ _ _)
end
end Go.Proofs.Ytigakendeghoaaa.See
