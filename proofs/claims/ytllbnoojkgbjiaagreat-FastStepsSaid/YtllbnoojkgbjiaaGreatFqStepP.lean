import Derived.Test.YtllbnoojkgbjiaaGreatFqStepK
import Derived.Test.YtllbnoojkgbjiaaGreatFq9
/-
  Tasks and charts in plain Lean; what the numbers of a step's tree are. No condition.
-/
namespace Go.Proofs.YtllbnoojkgbjiaaGreat.Step
open Go Ex Mem See
open chartPlaces (Ok)
/-- a task -/
structure TaskP where
  job : Int := 0
  cpu : Int := 0
  pc : Int := 0
  end_ : Int := 0
  want : Int := 0
  slab : Int := 0
  obj : Int := 0
  h : Nat := 0
  t : Nat := 0
  f : Nat := 0
  k : Nat := 0
  n : Nat := 0
  last : Int := 0
  many : Int := 0
  dst : Int := 0
  back : Int := 0
  for_ : Int := 0
  deriving DecidableEq
def TaskP.v (t : TaskP) : Value := .agg #[.int .i64 t.job, .int .i64 t.cpu, .int .i64 t.pc, .int .i64 t.end_, .int .i64 t.want, .int .i64 t.slab, .int .i64 t.obj, .int .u64 (t.h : Int), .int .u64 (t.t : Int), .int .u64 (t.f : Int), .int .u64 (t.k : Int), .int .u64 (t.n : Int), .int .i64 t.last, .int .i64 t.many, .int .i64 t.dst, .int .i64 t.back, .int .i64 t.for_]
/-- its words are words -/
structure TaskP.W (x : TaskP) : Prop where
  h : x.h < 18446744073709551616
  t : x.t < 18446744073709551616
  f : x.f < 18446744073709551616
  k : x.k < 18446744073709551616
  n : x.n < 18446744073709551616
def TaskP.brk (t : TaskP) : TaskP := { t with end_ := 3 }
/-- the numbers of a tree: the task's, the chart's, the memory's length, the word that is read, others -/
def sg (t : TaskP) (c : Ch) (d e : Int) (N x : Nat) (r : List Int) : Nat → Int := fun i =>
  [t.job, t.cpu, t.pc, t.end_, t.want, t.slab, t.obj, (t.h : Int), (t.t : Int), (t.f : Int), (t.k : Int), (t.n : Int), t.last, t.many, t.dst, t.back, t.for_, 0, 0, 0, (c.C : Int), (c.S : Int), (c.O : Int), d, e, (c.key : Int), 0, 0, 0, 0, (N : Int), (x : Int),
    r.getD 0 0, r.getD 1 0, r.getD 2 0, r.getD 3 0, r.getD 4 0, r.getD 5 0, r.getD 6 0, r.getD 7 0, r.getD 8 0, r.getD 9 0, r.getD 10 0, r.getD 11 0, r.getD 12 0, r.getD 13 0, r.getD 14 0, r.getD 15 0, r.getD 16 0, r.getD 17 0, r.getD 18 0, r.getD 19 0].getD i 0
section
variable {t : TaskP} {c : Ch} {d e : Int} {N x key : Nat} {r : List Int} {g : List Nat} {i s o : Int}
theorem factsC_ok (hc : COk c d e) (hN : N ≠ 0) : ∀ f ∈ factsC, f.1.ev (sg t c d e N x r) = f.2 := by
  have h := hc.ok
  unfold Ok at h
  have e20 : sg t c d e N x r 20 = c.C := rfl
  have e21 : sg t c d e N x r 21 = c.S := rfl
  have e22 : sg t c d e N x r 22 = c.O := rfl
  have e23 : sg t c d e N x r 23 = d := rfl
  have e24 : sg t c d e N x r 24 = e := rfl
  have e30 : sg t c d e N x r 30 = N := rfl
  intro f hf
  simp only [factsC, List.mem_cons, List.not_mem_nil, or_false] at hf
  rcases hf with rfl | rfl | rfl | rfl | rfl | rfl | rfl | rfl | rfl | rfl | rfl <;> simp only [Cnd.ev, SE.ev, v, l, e20, e21, e22, e23, e24, e30, decide_eq_false_iff_not, beq_eq_false_iff_ne] <;> omega
/-- places, as numbers -/
theorem wrap_id {n : Int} (h : -9223372036854775808 ≤ n ∧ n ≤ 9223372036854775807) : IntKind.i64.wrap n = n := Apart.wrap_id h
def cpuOk (c : Ch) (i : Int) : Prop := 0 ≤ i ∧ i < c.C
instance (c : Ch) (i : Int) : Decidable (cpuOk c i) := inferInstanceAs (Decidable (0 ≤ i ∧ i < c.C))
def slabOk (c : Ch) (i : Int) : Prop := 0 ≤ i ∧ i < c.S
instance (c : Ch) (i : Int) : Decidable (slabOk c i) := inferInstanceAs (Decidable (0 ≤ i ∧ i < c.S))
def linkOk (c : Ch) (s o : Int) : Prop := (0 ≤ s ∧ s < c.S) ∧ (0 ≤ o ∧ o < c.O)
instance (c : Ch) (s o : Int) : Decidable (linkOk c s o) := inferInstanceAs (Decidable ((0 ≤ s ∧ s < c.S) ∧ (0 ≤ o ∧ o < c.O)))
/-- where a processor's head is, its part, a slab's first, its next, an object's link -/
def headN (i : Int) : Nat := 4 * i.toNat
def partN (i : Int) : Nat := 4 * i.toNat + 2
def firstN (c : Ch) (s : Int) : Nat := 4 * c.C + 4 + 4 * s.toNat
def nextN (c : Ch) (s : Int) : Nat := 4 * c.C + 4 + 4 * s.toNat + 2
def linkN (c : Ch) (s o : Int) : Nat := 4 * c.C + 4 + 4 * c.S + s.toNat * c.O + o.toNat
theorem head_lt (h : cpuOk c i) : headN i + 3 < c.words := by
  unfold cpuOk at h
  unfold headN Ch.words
  omega
theorem first_lt (h : slabOk c s) : firstN c s + 3 < c.words := by
  unfold slabOk at h
  unfold firstN Ch.words
  omega
theorem link_lt (h : linkOk c s o) : linkN c s o < c.words := by
  unfold linkOk at h
  unfold linkN Ch.words
  have h1 : s.toNat * c.O + c.O ≤ c.S * c.O := by
    have := Nat.mul_le_mul_right c.O (show s.toNat + 1 ≤ c.S by omega)
    rwa [Nat.add_mul, Nat.one_mul] at this
  omega
theorem headE_ev (hc : COk c d e) (h : cpuOk c t.cpu) : headE.ev (sg t c d e N x r) = (headN t.cpu : Nat) := by
  have h1 := hc.nums
  unfold cpuOk at h
  have e1 : sg t c d e N x r 1 = t.cpu := rfl
  simp only [headE, mul, v, l, SE.ev, e1]
  rw [wrap_id (by omega)]
  unfold headN
  omega
theorem head1_ev (hc : COk c d e) (h : cpuOk c t.cpu) : (add headE (l 1)).ev (sg t c d e N x r) = (headN t.cpu + 1 : Nat) := by
  have h0 := headE_ev (N := N) (x := x) (r := r) hc h
  have h1 := hc.nums
  unfold cpuOk at h
  simp only [add, l, SE.ev, h0]
  unfold headN
  rw [wrap_id (by omega)]
  omega
theorem linkE_ev (hc : COk c d e) {a b : Nat} (h : linkOk c (sg t c d e N x r a) (sg t c d e N x r b)) : (linkE (v a) (v b)).ev (sg t c d e N x r) = (linkN c (sg t c d e N x r a) (sg t c d e N x r b) : Nat) := by
  have h1 := hc.nums
  obtain ⟨s, hs⟩ : ∃ s, sg t c d e N x r a = s := ⟨_, rfl⟩
  obtain ⟨o, ho⟩ : ∃ o, sg t c d e N x r b = o := ⟨_, rfl⟩
  rw [hs, ho] at h ⊢
  unfold linkOk at h
  obtain ⟨s, rfl⟩ : ∃ n : Nat, s = n := ⟨s.toNat, by omega⟩
  obtain ⟨o, rfl⟩ : ∃ n : Nat, o = n := ⟨o.toNat, by omega⟩
  have e20 : sg t c d e N x r 20 = c.C := rfl
  have e21 : sg t c d e N x r 21 = c.S := rfl
  have e22 : sg t c d e N x r 22 = c.O := rfl
  simp only [linkE, links, slabs, base, add, mul, v, l, SE.ev, e20, e21, e22, hs, ho]
  have hm : s * c.O ≤ 32 * 16 := Nat.mul_le_mul (by omega) (by omega)
  have hmi : (s : Int) * (c.O : Int) = ((s * c.O : Nat) : Int) := by rw [Int.natCast_mul]
  rw [hmi]
  rw [wrap_id (n := 4 * (c.C : Int)) (by omega), wrap_id (n := 4 * (c.C : Int) + 4) (by omega), wrap_id (n := 4 * (c.S : Int)) (by omega), wrap_id (n := 4 * (c.C : Int) + 4 + 4 * (c.S : Int)) (by omega), wrap_id (n := ((s * c.O : Nat) : Int)) (by omega), wrap_id (n := 4 * (c.C : Int) + 4 + 4 * (c.S : Int) + ((s * c.O : Nat) : Int)) (by omega), wrap_id (by omega)]
  unfold linkN
  simp only [Int.toNat_natCast]
  omega
/-- the key of a slab, whatever number it is -/
def keyG (key : Nat) (s : Int) : Nat := (IntKind.u64.wrap ((key : Int) + IntKind.u64.wrap (IntKind.u64.wrap s * 11400714819323198485))).toNat
theorem keyG_lt (key : Nat) (s : Int) : keyG key s < 18446744073709551616 := by
  unfold keyG
  rw [IntKind.wrap_u64]
  omega
theorem keyE_ev {a : Nat} : (keyE (v a)).ev (sg t c d e N x r) = (keyG c.key (sg t c d e N x r a) : Nat) := by
  have e25 : sg t c d e N x r 25 = c.key := rfl
  simp only [keyE, v, l, SE.ev, e25]
  unfold keyG
  rw [Int.toNat_of_nonneg]
  rw [IntKind.wrap_u64]
  omega
theorem keyG_of (s : Nat) : keyG key s = See.keyOf key s := by
  unfold keyG See.keyOf
  rw [IntKind.wrap_u64, IntKind.wrap_u64, IntKind.wrap_u64]
  omega
theorem words_le (hc : COk c d e) : c.words ≤ 4096 ∧ c.words ≠ 0 := by
  have hn := hc.nums
  unfold Ch.words
  have : c.S * c.O ≤ 32 * 16 := Nat.mul_le_mul (by omega) (by omega)
  omega
theorem cpu_of (hcs : ∀ q ∈ csCpu, q.1.ev (sg t c d e N x r) = q.2) : cpuOk c t.cpu := by
  have h1 := hcs (.lt (v 1) (l 0), false) (by simp [csCpu])
  have h2 := hcs (.lt (v 1) (v 20), true) (by simp [csCpu])
  have e1 : sg t c d e N x r 1 = t.cpu := rfl
  have e2 : sg t c d e N x r 20 = c.C := rfl
  simp only [Cnd.ev, SE.ev, v, l, e1, e2, decide_eq_true_eq, decide_eq_false_iff_not] at h1 h2
  exact ⟨by omega, h2⟩
theorem link_of {a b : Nat} (hcs : ∀ q ∈ csLink (v a) (v b), q.1.ev (sg t c d e N x r) = q.2) : linkOk c (sg t c d e N x r a) (sg t c d e N x r b) := by
  have h1 := hcs (.lt (v a) (l 0), false) (by simp [csLink])
  have h2 := hcs (.lt (v a) (v 21), true) (by simp [csLink])
  have h3 := hcs (.lt (v b) (l 0), false) (by simp [csLink])
  have h4 := hcs (.lt (v b) (v 22), true) (by simp [csLink])
  have e1 : sg t c d e N x r 21 = c.S := rfl
  have e2 : sg t c d e N x r 22 = c.O := rfl
  simp only [Cnd.ev, SE.ev, v, l, e1, e2, decide_eq_true_eq, decide_eq_false_iff_not] at h1 h2 h3 h4
  exact ⟨⟨by omega, h2⟩, ⟨by omega, h4⟩⟩
theorem at_some {g : List Nat} {i : Nat} (h : i < g.length) : g[i]? = some (at_ g i) := by
  unfold at_
  rw [List.getD_eq_getElem?_getD, List.getElem?_eq_getElem h]
  rfl
theorem at_lt {g : List Nat} (hw : W64 g) (i : Nat) : at_ g i < 18446744073709551616 := by
  unfold at_
  rw [List.getD_eq_getElem?_getD]
  cases h : g[i]? with
  | none => simp
  | some x => exact hw x (List.mem_of_getElem? h)
end
theorem KnAll.app {P : Program} {gs : List (Nat × List Int)} {σ : Nat → Int} {ω : Nat → Nat → Nat → Obj} {a b : List Kn} (h1 : KnAll P gs σ ω a) (h2 : KnAll P gs σ ω b) : KnAll P gs σ ω (a ++ b) := fun fs hfs k hk => by
  rcases List.mem_append.1 hk with hk | hk
  · exact h1 fs hfs k hk
  · exact h2 fs hfs k hk
/-- a head's three numbers -/
def headL (x : Nat) : List Int := match headOf x with
  | some (s, o) => [1, s, o]
  | none => [0, 0, 0]
/-- what a link shows: two numbers -/
def is1 (r : Option Int) : Int := if r.isSome then 1 else 0
def val1 (r : Option Int) : Int := r.getD 0
/-! questions, answered -/
section
variable {σ : Nat → Int} {c : Ch} {i j : Int} {y n : DM} {x : Value} {s : Nat}
theorem ends_node {q : Cnd} (h : EndsM σ (.node q y n) x s) : (q.ev σ = true ∧ EndsM σ y x s) ∨ (q.ev σ = false ∧ EndsM σ n x s) := h
theorem ends_cpuQ (h1 : σ 1 = i) (h2 : σ 20 = c.C) (h : EndsM σ (cpuQ y n) x s) : (cpuOk c i ∧ EndsM σ y x s) ∨ (¬ cpuOk c i ∧ EndsM σ n x s) := by
  simp only [cpuQ, EndsM, Cnd.ev, SE.ev, v, l, h1, h2, decide_eq_true_eq, decide_eq_false_iff_not, and_false, or_false] at h
  unfold cpuOk
  rcases h with ⟨h3, h4⟩ | ⟨h3, ⟨h4, h5, h6⟩ | ⟨h4, h5⟩⟩
  · exact .inr ⟨by omega, h4⟩
  · exact .inl ⟨by omega, h6⟩
  · exact .inr ⟨by omega, h5⟩
theorem bad_cpuQ (hc : c.C ≤ 8) (h2 : σ 20 = c.C) (hy : ¬ BadM σ y) (hn : ¬ BadM σ n) : ¬ BadM σ (cpuQ y n) := by
  rintro (⟨_, h⟩ | ⟨_, ⟨h1, ⟨_, h⟩ | ⟨h3, h⟩⟩ | ⟨_, h⟩⟩)
  · exact hn h
  · exact hy h
  · simp only [Cnd.ev, SE.ev, v, l, h2, decide_eq_true_eq, decide_eq_false_iff_not] at h1 h3
    omega
  · exact hn h
theorem ends_isQ {a : Nat} (h : EndsM σ (isQ a y n) x s) : (σ a = 1 ∧ EndsM σ y x s) ∨ (σ a ≠ 1 ∧ EndsM σ n x s) := by
  simp only [isQ, EndsM, Cnd.ev, SE.ev, v, l, beq_iff_eq, beq_eq_false_iff_ne] at h
  exact h
theorem ends_okQ {a : Nat} (h : EndsM σ (okQ a y n) x s) : (σ a = 0 ∧ EndsM σ y x s) ∨ (σ a ≠ 0 ∧ EndsM σ n x s) := by
  simp only [okQ, EndsM, Cnd.ev, SE.ev, v, l, beq_iff_eq, beq_eq_false_iff_ne] at h
  exact h
theorem bad_node {q : Cnd} (hy : ¬ BadM σ y) (hn : ¬ BadM σ n) : ¬ BadM σ (.node q y n) := by
  rintro (⟨_, h⟩ | ⟨_, h⟩)
  · exact hy h
  · exact hn h
theorem ends_lt {a b : SE} (h : EndsM σ (.node (.lt a b) y n) x s) : (a.ev σ < b.ev σ ∧ EndsM σ y x s) ∨ (b.ev σ ≤ a.ev σ ∧ EndsM σ n x s) := by
  simp only [EndsM, Cnd.ev, decide_eq_true_eq, decide_eq_false_iff_not] at h
  rcases h with h | ⟨h1, h2⟩
  · exact .inl h
  · exact .inr ⟨by omega, h2⟩
theorem ends_eq {a b : SE} (h : EndsM σ (.node (.eq a b) y n) x s) : (a.ev σ = b.ev σ ∧ EndsM σ y x s) ∨ (a.ev σ ≠ b.ev σ ∧ EndsM σ n x s) := by
  simp only [EndsM, Cnd.ev, beq_iff_eq, beq_eq_false_iff_ne] at h
  exact h
theorem ends_linkQ {a b : Nat} (h1 : σ a = i) (h2 : σ b = j) (h3 : σ 21 = c.S) (h4 : σ 22 = c.O) (h : EndsM σ (linkQ (v a) (v b) y n) x s) : (linkOk c i j ∧ EndsM σ y x s) ∨ (¬ linkOk c i j ∧ EndsM σ n x s) := by
  simp only [linkQ, EndsM, Cnd.ev, SE.ev, v, l, h1, h2, h3, h4, decide_eq_true_eq, decide_eq_false_iff_not] at h
  unfold linkOk
  rcases h with ⟨h3, h4⟩ | ⟨h3, ⟨h4, ⟨h5, h6⟩ | ⟨h5, ⟨h6, h7⟩ | ⟨h6, h7⟩⟩⟩ | ⟨h4, h5⟩⟩
  · exact .inr ⟨by omega, h4⟩
  · exact .inr ⟨by omega, h6⟩
  · exact .inl ⟨by omega, h7⟩
  · exact .inr ⟨by omega, h7⟩
  · exact .inr ⟨by omega, h5⟩
theorem bad_linkQ {a b : SE} (hy : ¬ BadM σ y) (hn : ¬ BadM σ n) : ¬ BadM σ (linkQ a b y n) := bad_node hn (bad_node (bad_node hn (bad_node hy hn)) hn)
theorem bad_onT {pc : Int} {u : List (Nat × AV)} {q : Nat} : ¬ BadM σ (onT pc u q) := fun h => h
end
/-- what a step answers, and leaves -/
def StepRes (W : World) (m : List (Nat × Obj)) (b0 b1 N k : Nat) (t : TaskP) (g : List Nat) (e : Ending) (w' : World) : Prop :=
  ∃ q, q ≤ 1 ∧ e = .returned (.tuple #[t.v, .int .i64 0]) ∧ Own W (mB b0 b1 N (k + q) :: wB b1 g :: m) w'
/-- a task that runs, at a place -/
structure AtPc (t : TaskP) (pc : Int) : Prop where
  pc : t.pc = pc
  end_ : t.end_ = 0
  want : t.want = 0
end Go.Proofs.YtllbnoojkgbjiaaGreat.Step
