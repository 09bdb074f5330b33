import Derived.Test.YtllbnoojkgbjiaaGreatFqStepV
import Derived.Test.YtllbnoojkgbjiaaGreatFq7
import Derived.Test.YtllbnoojkgbjiaaGreatFq8
import Derived.Test.YtllbnoojkgbjiaaGreatFq9
/-
  The known calls of steps' trees are what the memory, and the packages below, do. No condition.
-/
namespace Go.Proofs.YtllbnoojkgbjiaaGreat.Step
open Go Ex Mem See
open Go.RowKit (Below)
/-- a memory's two blocks, as they may be: at first, behind a step's access that does what it asks, behind one that does not -/
def ωM (N k : Nat) (g g1 g2 : List Nat) : Nat → Nat → Nat → Obj := fun i b0 b1 => match i with
  | 0 => (mB b0 b1 N k).2
  | 1 => (wB b1 g).2
  | 2 => (mB b0 b1 N (k + 1)).2
  | 3 => (wB b1 g1).2
  | 4 => (mB b0 b1 N (k + 1)).2
  | _ => (wB b1 g2).2
theorem below_self (w : World) : Below w.heap.size w w := Below.refl _ _
theorem fnok_Len : FnOk Tryz.prog 17 := ⟨Tryz.f17, _, Tryz.func17, by kernel_rfl, rfl⟩
theorem fnok_Load : FnOk Tryz.prog 93 := ⟨Tryz.f93, _, Tryz.func93, by kernel_rfl, rfl⟩
theorem fnok_Store : FnOk Tryz.prog 15 := ⟨Tryz.f15, _, Tryz.func15, by kernel_rfl, rfl⟩
theorem fnok_Cas2 : FnOk Tryz.prog 108 := ⟨Tryz.f108, _, Tryz.func108, by kernel_rfl, rfl⟩
theorem fnok_HeadOf : FnOk Tryz.prog 94 := ⟨Tryz.f94, _, Tryz.func94, by kernel_rfl, rfl⟩
theorem fnok_Head : FnOk Tryz.prog 60 := ⟨Tryz.f60, _, Tryz.func60, by kernel_rfl, rfl⟩
theorem fnok_Show : FnOk Tryz.prog 69 := ⟨Tryz.f69, _, Tryz.func69, by kernel_rfl, rfl⟩
theorem fnok_Hide : FnOk Tryz.prog 71 := ⟨Tryz.f71, _, Tryz.func71, by kernel_rfl, rfl⟩
section
variable {σ : Nat → Int} {N k : Nat} {g g1 g2 : List Nat}
theorem kn_len (hN : σ 30 = N) : KnAll Tryz.prog [] σ (ωM N k g g1 g2) [kLen 17] :=
  kn_mem (s := 0) (s' := 0) (xs := []) rfl rfl rfl rfl fnok_Len rfl fun _ W w m b0 b1 h => by
    refine (len_spec (b0 := b0) (b1 := b1) (N := N) (k := k) h).mono ?_
    rintro e w' ⟨rfl, h2⟩
    exact ⟨by simp [kLen, Ex.valOf, sI, SE.ev, hN], h2⟩
theorem kn_load {a : SE} {i : Nat} {cs : List (Cnd × Bool)} (hN : g.length = N) (hN2 : N ≤ 4096) (hk : k ≤ 1000000000) (hg : g1 = g) (hc : (∀ c ∈ cs, c.1.ev σ = c.2) → ∃ j x : Nat, a.ev σ = j ∧ g[j]? = some x ∧ σ i = x) :
    KnAll Tryz.prog [] σ (ωM N k g g1 g2) [kLoad 93 a i cs] :=
  kn_mem (s := 0) (s' := 1) (xs := [.sym .i64 a]) rfl rfl rfl rfl fnok_Load rfl fun hcs W w m b0 b1 h => by
    obtain ⟨j, x, h1, h2, h3⟩ := hc hcs
    have := load_in (b0 := b0) (b1 := b1) (N := N) (k := k) h h2 hN hN2 hk
    simp only [Ex.valsOf, Ex.valOf, h1]
    refine this.mono ?_
    rintro e w' ⟨rfl, h4⟩
    exact ⟨by simp [kLoad, Ex.valOf, Ex.valsOf, sU, nI, SE.ev, h3], by rw [hg]; exact h4⟩
theorem kn_loadN (hN2 : N ≤ 4096) (hk : k ≤ 1000000000) : KnAll Tryz.prog [] σ (ωM N k g g1 g2) [kLoadN 93] :=
  kn_mem (s := 0) (s' := 0) (xs := [nI (-1)]) rfl rfl rfl rfl fnok_Load rfl fun hcs W w m b0 b1 h => by
    have := load_bad (b0 := b0) (b1 := b1) (N := N) (k := k) h (-1) (.inl (by decide)) hN2 hk
    refine this.mono ?_
    rintro e w' ⟨rfl, h4⟩
    exact ⟨rfl, h4⟩
theorem kn_store {a e : SE} {cs : List (Cnd × Bool)} (hN : g.length = N) (hN2 : N ≤ 4096) (hk : k ≤ 1000000000) (hc : (∀ c ∈ cs, c.1.ev σ = c.2) → ∃ j x y : Nat, a.ev σ = j ∧ g[j]? = some x ∧ e.ev σ = y ∧ g1 = g.set j y) :
    KnAll Tryz.prog [] σ (ωM N k g g1 g2) [kStore 15 a (.sym .u64 e) cs] :=
  kn_mem (s := 0) (s' := 1) (xs := [.sym .i64 a, .sym .u64 e]) rfl rfl rfl rfl fnok_Store rfl fun hcs W w m b0 b1 h => by
    obtain ⟨j, x, y, h1, h2, h3, h5⟩ := hc hcs
    have := store_in (b0 := b0) (b1 := b1) (N := N) (k := k) y h h2 hN hN2 hk
    simp only [Ex.valsOf, Ex.valOf, h1, h3]
    refine this.mono ?_
    rintro e w' ⟨rfl, h4⟩
    exact ⟨rfl, by rw [h5]; exact h4⟩
theorem kn_storeN {e : SE} (hN2 : N ≤ 4096) (hk : k ≤ 1000000000) (he : ∃ y : Nat, e.ev σ = y) : KnAll Tryz.prog [] σ (ωM N k g g1 g2) [kStoreN 15 (.sym .u64 e)] :=
  kn_mem (s := 0) (s' := 0) (xs := [nI (-1), .sym .u64 e]) rfl rfl rfl rfl fnok_Store rfl fun hcs W w m b0 b1 h => by
    obtain ⟨y, hy⟩ := he
    have := store_bad (b0 := b0) (b1 := b1) (N := N) (k := k) y h (-1) (.inl (by decide)) hN2 hk
    simp only [Ex.valsOf, Ex.valOf, hy, nI]
    refine this.mono ?_
    rintro e w' ⟨rfl, h4⟩
    exact ⟨rfl, h4⟩
/-- the four numbers of a Cas2 -/
def cas2Xs (a b c d : SE) : List AV := [.sym .u64 a, .sym .u64 b, .sym .u64 c, .sym .u64 d]
theorem kn_cas2Y {p a b c d : SE} {cs : List (Cnd × Bool)} (hN : g.length = N) (hN2 : N ≤ 4096) (hk : k ≤ 1000000000)
    (hc : (∀ q ∈ cs, q.1.ev σ = q.2) → ∃ j x y a' b' c' d' : Nat, p.ev σ = j ∧ g[j]? = some x ∧ g[j + 1]? = some y ∧ a.ev σ = a' ∧ b.ev σ = b' ∧ c.ev σ = c' ∧ d.ev σ = d' ∧ σ 41 = (if x = a' ∧ y = b' then 1 else 0) ∧ (x = a' ∧ y = b' → g1 = (g.set j c').set (j + 1) d')) :
    KnAll Tryz.prog [] σ (ωM N k g g1 g2) [kCas2Y 108 p (cas2Xs a b c d) cs] :=
  kn_mem (s := 0) (s' := 1) (xs := .sym .i64 p :: cas2Xs a b c d) rfl rfl rfl rfl fnok_Cas2 rfl fun hcs W w m b0 b1 h => by
    obtain ⟨j, x, y, a', b', c', d', h1, h2, h3, h4, h5, h6, h7, h8, h9⟩ := hc fun q hq => hcs q (List.mem_append_left _ hq)
    have h10 := hcs (.eq (v 41) (l 1), true) (List.mem_append_right _ List.mem_cons_self)
    simp only [Cnd.ev, SE.ev, v, l, h8, beq_iff_eq] at h10
    have hxy : x = a' ∧ y = b' := by
      by_cases hh : x = a' ∧ y = b'
      · exact hh
      · rw [if_neg hh] at h10; cases h10
    have := cas2_in (b0 := b0) (b1 := b1) (N := N) (k := k) a' b' c' d' h h2 h3 (t := true) (g' := g1) ⟨by rw [decide_eq_true hxy], by rw [if_pos hxy]; exact h9 hxy⟩ hN hN2 hk
    simp only [cas2Xs, Ex.valsOf, Ex.valOf, h1, h4, h5, h6, h7]
    refine this.mono ?_
    rintro e w' ⟨rfl, h11⟩
    exact ⟨rfl, h11⟩
theorem kn_cas2F {p a b c d : SE} {cs : List (Cnd × Bool)} (hN : g.length = N) (hN2 : N ≤ 4096) (hk : k ≤ 1000000000) (hg : g2 = g)
    (hc : (∀ q ∈ cs, q.1.ev σ = q.2) → ∃ j x y a' b' c' d' : Nat, p.ev σ = j ∧ g[j]? = some x ∧ g[j + 1]? = some y ∧ a.ev σ = a' ∧ b.ev σ = b' ∧ c.ev σ = c' ∧ d.ev σ = d' ∧ σ 41 = (if x = a' ∧ y = b' then 1 else 0)) :
    KnAll Tryz.prog [] σ (ωM N k g g1 g2) [kCas2F 108 p (cas2Xs a b c d) cs] :=
  kn_mem (s := 0) (s' := 2) (xs := .sym .i64 p :: cas2Xs a b c d) rfl rfl rfl rfl fnok_Cas2 rfl fun hcs W w m b0 b1 h => by
    obtain ⟨j, x, y, a', b', c', d', h1, h2, h3, h4, h5, h6, h7, h8⟩ := hc fun q hq => hcs q (List.mem_append_left _ hq)
    have h10 := hcs (.eq (v 41) (l 1), false) (List.mem_append_right _ List.mem_cons_self)
    simp only [Cnd.ev, SE.ev, v, l, h8] at h10
    have hxy : ¬ (x = a' ∧ y = b') := fun hh => by rw [if_pos hh] at h10; simp at h10
    have := cas2_in (b0 := b0) (b1 := b1) (N := N) (k := k) a' b' c' d' h h2 h3 (t := false) (g' := g2) ⟨by rw [decide_eq_false hxy], by rw [if_neg hxy]; exact hg⟩ hN hN2 hk
    simp only [cas2Xs, Ex.valsOf, Ex.valOf, h1, h4, h5, h6, h7]
    refine this.mono ?_
    rintro e w' ⟨rfl, h11⟩
    exact ⟨rfl, h11⟩
theorem kn_cas2N {a b c d : SE} (hN2 : N ≤ 4096) (hk : k ≤ 1000000000) (hc : ∃ a' b' c' d' : Nat, a.ev σ = a' ∧ b.ev σ = b' ∧ c.ev σ = c' ∧ d.ev σ = d') :
    KnAll Tryz.prog [] σ (ωM N k g g1 g2) [kCas2N 108 (cas2Xs a b c d)] :=
  kn_mem (s := 0) (s' := 0) (xs := nI (-1) :: cas2Xs a b c d) rfl rfl rfl rfl fnok_Cas2 rfl fun hcs W w m b0 b1 h => by
    obtain ⟨a', b', c', d', h4, h5, h6, h7⟩ := hc
    have := cas2_bad (b0 := b0) (b1 := b1) (N := N) (k := k) a' b' c' d' h (-1) (.inl (by decide)) hN2 hk
    simp only [cas2Xs, Ex.valsOf, Ex.valOf, nI, h4, h5, h6, h7]
    refine this.mono ?_
    rintro e w' ⟨rfl, h11⟩
    exact ⟨rfl, h11⟩
/-! what words say -/
theorem kn_headOf {ω : Nat → Nat → Nat → Obj} (x : Nat) (hx : x < 18446744073709551616) (h1 : σ 31 = x) (h2 : σ 32 = if (headOf x).isSome then 1 else 0) (h3 : ∀ s o, headOf x = some (s, o) → σ 33 = s ∧ σ 34 = o) :
    KnAll Tryz.prog [] σ ω [kHeadOfY 94, kHeadOfN 94, kHeadOf0 94] := by
  refine (kn_pure (k := kHeadOfY 94) rfl rfl rfl fnok_HeadOf fun hcs w => ?_).cons ((kn_pure (k := kHeadOfN 94) rfl rfl rfl fnok_HeadOf fun hcs w => ?_).cons ((kn_pure (k := kHeadOf0 94) rfl rfl rfl fnok_HeadOf fun hcs w => ?_).cons knAll_nil))
  · have h10 := hcs (.eq (v 32) (l 1), true) List.mem_cons_self
    simp only [Cnd.ev, SE.ev, v, l, h2, beq_iff_eq] at h10
    have := headOf_spec x hx w
    simp only [kHeadOfY, Ex.valsOf, Ex.valOf, sU, SE.ev, h1]
    refine this.mono ?_
    rintro e w' ⟨rfl, rfl⟩
    refine ⟨?_, below_self w⟩
    unfold headV
    cases hh : headOf x with
    | none => rw [hh] at h10; cases h10
    | some p =>
      obtain ⟨s, o⟩ := p
      obtain ⟨e1, e2⟩ := h3 s o hh
      simp [sI, Ex.valOf, SE.ev, e1, e2]
  · have h10 := hcs (.eq (v 32) (l 1), false) List.mem_cons_self
    simp only [Cnd.ev, SE.ev, v, l, h2] at h10
    have := headOf_spec x hx w
    simp only [kHeadOfN, Ex.valsOf, Ex.valOf, sU, SE.ev, h1]
    refine this.mono ?_
    rintro e w' ⟨rfl, rfl⟩
    refine ⟨?_, below_self w⟩
    unfold headV
    cases hh : headOf x with
    | none => rfl
    | some p => rw [hh] at h10; simp at h10
  · have := headOf_spec 0 (by decide) w
    refine this.mono ?_
    rintro e w' ⟨rfl, rfl⟩
    exact ⟨rfl, below_self w⟩
/-- Head's answer: an error, a word -/
def headR (s o : Int) : Int × Nat := if headOk s o then (0, headW s o) else if s = -1 ∧ o = -1 then (0, 0) else (2, 0)
theorem kn_head {ω : Nat → Nat → Nat → Obj} {a b : Nat} (h1 : σ 37 = (headR (σ a) (σ b)).1) (h2 : σ 38 = (headR (σ a) (σ b)).2) : KnAll Tryz.prog [] σ ω [kHeadY 60 [sI a, sI b], kHeadN 60 [sI a, sI b]] := by
  have key : ∀ w, Calls Tryz.prog 60 #[.int .i64 (σ a), .int .i64 (σ b)] w fun e w' => e = .returned (.tuple #[.int .u64 ((headR (σ a) (σ b)).2 : Nat), .int .i64 (headR (σ a) (σ b)).1]) ∧ w = w' := by
    intro w
    unfold headR
    by_cases h : headOk (σ a) (σ b)
    · rw [if_pos h]
      exact head_ok _ _ h w
    · rw [if_neg h]
      by_cases hn : σ a = -1 ∧ σ b = -1
      · rw [if_pos hn, hn.1, hn.2]
        exact head_none w
      · rw [if_neg hn]
        exact head_bad _ _ h hn w
  refine (kn_pure (k := kHeadY 60 [sI a, sI b]) rfl rfl rfl fnok_Head fun hcs w => ?_).cons ((kn_pure (k := kHeadN 60 [sI a, sI b]) rfl rfl rfl fnok_Head fun hcs w => ?_).cons knAll_nil)
  · have h10 := hcs (.eq (v 37) (l 0), true) List.mem_cons_self
    simp only [Cnd.ev, SE.ev, v, l, h1, beq_iff_eq] at h10
    simp only [kHeadY, Ex.valsOf, Ex.valOf, sI, SE.ev]
    refine (key w).mono ?_
    rintro e w' ⟨rfl, rfl⟩
    exact ⟨by simp [Ex.valOf, Ex.valsOf, sU, nI, SE.ev, h2, h10], below_self w⟩
  · have h10 := hcs (.eq (v 37) (l 0), false) List.mem_cons_self
    simp only [Cnd.ev, SE.ev, v, l, h1] at h10
    simp only [kHeadN, Ex.valsOf, Ex.valOf, sI, SE.ev]
    refine (key w).mono ?_
    rintro e w' ⟨rfl, rfl⟩
    refine ⟨?_, below_self w⟩
    unfold headR at h10 ⊢
    by_cases h : headOk (σ a) (σ b)
    · rw [if_pos h] at h10; simp at h10
    · rw [if_neg h] at h10 ⊢
      by_cases hn : σ a = -1 ∧ σ b = -1
      · rw [if_pos hn] at h10; simp at h10
      · rw [if_neg hn]; rfl
/-- what a link shows, at whatever it is -/
def showG (x key : Nat) (n : Int) : Option Int := if 0 ≤ n ∧ n < 16 then showOf x key n.toNat else none
theorem kn_show {ω : Nat → Nat → Nat → Obj} {wv : AV} {e : SE} {b i x key : Nat} (hw : wv.shut = true) (hx : x < 18446744073709551616) (hk : key < 18446744073709551616) (h0 : Ex.valOf σ wv = .int .u64 (x : Int)) (h1 : e.ev σ = key) (h2 : σ i = if (showG x key (σ b)).isSome then 1 else 0) (h3 : ∀ s, showG x key (σ b) = some s → σ (i + 1) = s) :
    KnAll Tryz.prog [] σ ω [kShowY 69 i [wv, .sym .u64 e, sI b], kShowN 69 i [wv, .sym .u64 e, sI b]] := by
  have key2 : ∀ w, Calls Tryz.prog 69 #[.int .u64 x, .int .u64 key, .int .i64 (σ b)] w fun r w' => r = .returned (match showG x key (σ b) with | some i => .tuple #[.int .i64 i, .bool true] | none => .tuple #[.int .i64 0, .bool false]) ∧ w = w' := by
    intro w
    unfold showG
    by_cases h : 0 ≤ σ b ∧ σ b < 16
    · rw [if_pos h]
      have := show_ok x key (σ b).toNat hx hk (by omega) w
      rw [show (((σ b).toNat : Nat) : Int) = σ b from by omega] at this
      exact this
    · rw [if_neg h]
      exact show_bad _ _ _ h w
  have ha : AV.shuts [wv, .sym .u64 e, sI b] = true := by simp [AV.shuts, hw, AV.shut, sI]
  refine (kn_pure (k := kShowY 69 i [wv, .sym .u64 e, sI b]) ha rfl rfl fnok_Show fun hcs w => ?_).cons ((kn_pure (k := kShowN 69 i [wv, .sym .u64 e, sI b]) ha rfl rfl fnok_Show fun hcs w => ?_).cons knAll_nil)
  · have h10 := hcs (.eq (v i) (l 1), true) List.mem_cons_self
    simp only [Cnd.ev, SE.ev, v, l, h2, beq_iff_eq] at h10
    simp only [kShowY, Ex.valsOf, h0, Ex.valOf, sI, SE.ev, h1]
    refine (key2 w).mono ?_
    rintro e w' ⟨rfl, rfl⟩
    refine ⟨?_, below_self w⟩
    cases hh : showG x key (σ b) with
    | none => rw [hh] at h10; cases h10
    | some s => simp [h3 s hh]
  · have h10 := hcs (.eq (v i) (l 1), false) List.mem_cons_self
    simp only [Cnd.ev, SE.ev, v, l, h2] at h10
    simp only [kShowN, Ex.valsOf, h0, Ex.valOf, sI, SE.ev, h1]
    refine (key2 w).mono ?_
    rintro e w' ⟨rfl, rfl⟩
    refine ⟨?_, below_self w⟩
    cases hh : showG x key (σ b) with
    | none => rfl
    | some s => rw [hh] at h10; simp at h10
/-- Hide's answer: an error, a word -/
def hideR (i : Int) (key : Nat) (n : Int) : Int × Nat := if (-1 ≤ i ∧ i < 16) ∧ (0 ≤ n ∧ n < 16) then (0, hideW i key n.toNat) else (2, 0)
theorem kn_hide {ω : Nat → Nat → Nat → Obj} {e : SE} {a b key : Nat} (hk : key < 18446744073709551616) (h0 : e.ev σ = key) (h1 : σ 39 = (hideR (σ a) key (σ b)).1) (h2 : σ 40 = (hideR (σ a) key (σ b)).2) :
    KnAll Tryz.prog [] σ ω [kHideY 71 [sI a, .sym .u64 e, sI b], kHideN 71 [sI a, .sym .u64 e, sI b]] := by
  have hv : hideV (σ a) key (σ b) = .tuple #[.int .u64 ((hideR (σ a) key (σ b)).2 : Nat), .int .i64 (hideR (σ a) key (σ b)).1] := by
    unfold hideV hideR
    split <;> rfl
  refine (kn_pure (k := kHideY 71 [sI a, .sym .u64 e, sI b]) rfl rfl rfl fnok_Hide fun hcs w => ?_).cons ((kn_pure (k := kHideN 71 [sI a, .sym .u64 e, sI b]) rfl rfl rfl fnok_Hide fun hcs w => ?_).cons knAll_nil)
  · have h10 := hcs (.eq (v 39) (l 0), true) List.mem_cons_self
    simp only [Cnd.ev, SE.ev, v, l, h1, beq_iff_eq] at h10
    simp only [kHideY, Ex.valsOf, Ex.valOf, sI, SE.ev, h0]
    refine (hide_spec _ _ _ hk w).mono ?_
    rintro e w' ⟨rfl, rfl⟩
    rw [hv]
    exact ⟨by simp [Ex.valOf, Ex.valsOf, sU, nI, SE.ev, h2, h10], below_self w⟩
  · have h10 := hcs (.eq (v 39) (l 0), false) List.mem_cons_self
    simp only [Cnd.ev, SE.ev, v, l, h1] at h10
    simp only [kHideN, Ex.valsOf, Ex.valOf, sI, SE.ev, h0]
    refine (hide_spec _ _ _ hk w).mono ?_
    rintro e w' ⟨rfl, rfl⟩
    rw [hv]
    refine ⟨?_, below_self w⟩
    unfold hideR at h10 ⊢
    by_cases h : (-1 ≤ σ a ∧ σ a < 16) ∧ (0 ≤ σ b ∧ σ b < 16)
    · rw [if_pos h] at h10; simp at h10
    · rw [if_neg h]; rfl
end
end Go.Proofs.YtllbnoojkgbjiaaGreat.Step
