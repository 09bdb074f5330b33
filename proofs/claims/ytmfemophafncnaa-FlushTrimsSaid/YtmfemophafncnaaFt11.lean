/-
  Texts of this claim, joined. No condition.
-/
import Derived.Test.YtmfemophafncnaaFt6
import Derived.Test.YtmfemophafncnaaFt10
/-
  wainscotlaw25.FlushTrims: the runs of a trim's steps (A). No condition.
-/
namespace Go.Proofs.Ytmfemophafncnaa.Ft
open Go Ex
theorem all4A {p : Nat → Prop} (h1 : p 1) (h2 : p 2) (h3 : p 3) (h4 : p 4) {n : Nat} (a : 1 ≤ n) (b : n ≤ 4) : p n := by
  match n, a, b with
  | 1, _, _ => exact h1
  | 2, _, _ => exact h2
  | 3, _, _ => exact h3
  | 4, _, _ => exact h4
  | n + 5, _, b => exact absurd b (by omega)
theorem k95_t {n : Nat} (a : 1 ≤ n) (b : n ≤ 4) : s95 n (tn true) (restB n true) = true := all4A (p := fun n => s95 n (tn true) (restB n true) = true) (by kernel_rfl) (by kernel_rfl) (by kernel_rfl) (by kernel_rfl) a b
theorem k95_f {n : Nat} (a : 1 ≤ n) (b : n ≤ 4) : s95 n (tn false) (restB n false) = true := all4A (p := fun n => s95 n (tn false) (restB n false) = true) (by kernel_rfl) (by kernel_rfl) (by kernel_rfl) (by kernel_rfl) a b
theorem k95 (e1 : Bool) {n : Nat} (a : 1 ≤ n) (b : n ≤ 4) : s95 n (tn e1) (restB n e1) = true := by
  match e1 with
  | true => exact k95_t a b
  | false => exact k95_f a b
theorem k96_tt {n : Nat} (a : 1 ≤ n) (b : n ≤ 4) : s96 n (tn true) (restB n true) true = true := all4A (p := fun n => s96 n (tn true) (restB n true) true = true) (by kernel_rfl) (by kernel_rfl) (by kernel_rfl) (by kernel_rfl) a b
theorem k96_tf {n : Nat} (a : 1 ≤ n) (b : n ≤ 4) : s96 n (tn true) (restB n true) false = true := all4A (p := fun n => s96 n (tn true) (restB n true) false = true) (by kernel_rfl) (by kernel_rfl) (by kernel_rfl) (by kernel_rfl) a b
theorem k96_ft {n : Nat} (a : 1 ≤ n) (b : n ≤ 4) : s96 n (tn false) (restB n false) true = true := all4A (p := fun n => s96 n (tn false) (restB n false) true = true) (by kernel_rfl) (by kernel_rfl) (by kernel_rfl) (by kernel_rfl) a b
theorem k96_ff {n : Nat} (a : 1 ≤ n) (b : n ≤ 4) : s96 n (tn false) (restB n false) false = true := all4A (p := fun n => s96 n (tn false) (restB n false) false = true) (by kernel_rfl) (by kernel_rfl) (by kernel_rfl) (by kernel_rfl) a b
theorem k96 (e1 e : Bool) {n : Nat} (a : 1 ≤ n) (b : n ≤ 4) : s96 n (tn e1) (restB n e1) e = true := by
  match e1, e with
  | true, true => exact k96_tt a b
  | true, false => exact k96_tf a b
  | false, true => exact k96_ft a b
  | false, false => exact k96_ff a b
theorem k97_tt {n : Nat} (a : 1 ≤ n) (b : n ≤ 4) : s97 n (tn true) (restB n true) true = true := all4A (p := fun n => s97 n (tn true) (restB n true) true = true) (by kernel_rfl) (by kernel_rfl) (by kernel_rfl) (by kernel_rfl) a b
theorem k97_tf {n : Nat} (a : 1 ≤ n) (b : n ≤ 4) : s97 n (tn true) (restB n true) false = true := all4A (p := fun n => s97 n (tn true) (restB n true) false = true) (by kernel_rfl) (by kernel_rfl) (by kernel_rfl) (by kernel_rfl) a b
theorem k97_ft {n : Nat} (a : 1 ≤ n) (b : n ≤ 4) : s97 n (tn false) (restB n false) true = true := all4A (p := fun n => s97 n (tn false) (restB n false) true = true) (by kernel_rfl) (by kernel_rfl) (by kernel_rfl) (by kernel_rfl) a b
theorem k97_ff {n : Nat} (a : 1 ≤ n) (b : n ≤ 4) : s97 n (tn false) (restB n false) false = true := all4A (p := fun n => s97 n (tn false) (restB n false) false = true) (by kernel_rfl) (by kernel_rfl) (by kernel_rfl) (by kernel_rfl) a b
theorem k97 (e1 e : Bool) {n : Nat} (a : 1 ≤ n) (b : n ≤ 4) : s97 n (tn e1) (restB n e1) e = true := by
  match e1, e with
  | true, true => exact k97_tt a b
  | true, false => exact k97_tf a b
  | false, true => exact k97_ft a b
  | false, false => exact k97_ff a b
theorem k98_tt {n : Nat} (a : 1 ≤ n) (b : n ≤ 4) : s98 n (tn true) (restB n true) true = true := all4A (p := fun n => s98 n (tn true) (restB n true) true = true) (by kernel_rfl) (by kernel_rfl) (by kernel_rfl) (by kernel_rfl) a b
theorem k98_tf {n : Nat} (a : 1 ≤ n) (b : n ≤ 4) : s98 n (tn true) (restB n true) false = true := all4A (p := fun n => s98 n (tn true) (restB n true) false = true) (by kernel_rfl) (by kernel_rfl) (by kernel_rfl) (by kernel_rfl) a b
theorem k98_ft {n : Nat} (a : 1 ≤ n) (b : n ≤ 4) : s98 n (tn false) (restB n false) true = true := all4A (p := fun n => s98 n (tn false) (restB n false) true = true) (by kernel_rfl) (by kernel_rfl) (by kernel_rfl) (by kernel_rfl) a b
theorem k98_ff {n : Nat} (a : 1 ≤ n) (b : n ≤ 4) : s98 n (tn false) (restB n false) false = true := all4A (p := fun n => s98 n (tn false) (restB n false) false = true) (by kernel_rfl) (by kernel_rfl) (by kernel_rfl) (by kernel_rfl) a b
theorem k98 (e1 e : Bool) {n : Nat} (a : 1 ≤ n) (b : n ≤ 4) : s98 n (tn e1) (restB n e1) e = true := by
  match e1, e with
  | true, true => exact k98_tt a b
  | true, false => exact k98_tf a b
  | false, true => exact k98_ft a b
  | false, false => exact k98_ff a b
end Go.Proofs.Ytmfemophafncnaa.Ft

/-
  wainscotlaw25.FlushTrims: the runs of a trim's steps (B). No condition.
-/
namespace Go.Proofs.Ytmfemophafncnaa.Ft
open Go Ex
theorem all4B {p : Nat → Prop} (h1 : p 1) (h2 : p 2) (h3 : p 3) (h4 : p 4) {n : Nat} (a : 1 ≤ n) (b : n ≤ 4) : p n := by
  match n, a, b with
  | 1, _, _ => exact h1
  | 2, _, _ => exact h2
  | 3, _, _ => exact h3
  | 4, _, _ => exact h4
  | n + 5, _, b => exact absurd b (by omega)
theorem k99_t {n : Nat} (a : 1 ≤ n) (b : n ≤ 4) : s99 n (tn true) (restB n true) = true := all4B (p := fun n => s99 n (tn true) (restB n true) = true) (by kernel_rfl) (by kernel_rfl) (by kernel_rfl) (by kernel_rfl) a b
theorem k99_f {n : Nat} (a : 1 ≤ n) (b : n ≤ 4) : s99 n (tn false) (restB n false) = true := all4B (p := fun n => s99 n (tn false) (restB n false) = true) (by kernel_rfl) (by kernel_rfl) (by kernel_rfl) (by kernel_rfl) a b
theorem k99 (e1 : Bool) {n : Nat} (a : 1 ≤ n) (b : n ≤ 4) : s99 n (tn e1) (restB n e1) = true := by
  match e1 with
  | true => exact k99_t a b
  | false => exact k99_f a b
theorem k100_t {n : Nat} (a : 1 ≤ n) (b : n ≤ 4) : s100 n (tn true) (restB n true) = true := all4B (p := fun n => s100 n (tn true) (restB n true) = true) (by kernel_rfl) (by kernel_rfl) (by kernel_rfl) (by kernel_rfl) a b
theorem k100_f {n : Nat} (a : 1 ≤ n) (b : n ≤ 4) : s100 n (tn false) (restB n false) = true := all4B (p := fun n => s100 n (tn false) (restB n false) = true) (by kernel_rfl) (by kernel_rfl) (by kernel_rfl) (by kernel_rfl) a b
theorem k100 (e1 : Bool) {n : Nat} (a : 1 ≤ n) (b : n ≤ 4) : s100 n (tn e1) (restB n e1) = true := by
  match e1 with
  | true => exact k100_t a b
  | false => exact k100_f a b
theorem k101_t {n : Nat} (a : 1 ≤ n) (b : n ≤ 4) : s101 n (tn true) (restB n true) = true := all4B (p := fun n => s101 n (tn true) (restB n true) = true) (by kernel_rfl) (by kernel_rfl) (by kernel_rfl) (by kernel_rfl) a b
theorem k101_f {n : Nat} (a : 1 ≤ n) (b : n ≤ 4) : s101 n (tn false) (restB n false) = true := all4B (p := fun n => s101 n (tn false) (restB n false) = true) (by kernel_rfl) (by kernel_rfl) (by kernel_rfl) (by kernel_rfl) a b
theorem k101 (e1 : Bool) {n : Nat} (a : 1 ≤ n) (b : n ≤ 4) : s101 n (tn e1) (restB n e1) = true := by
  match e1 with
  | true => exact k101_t a b
  | false => exact k101_f a b
theorem k102_tt {n : Nat} (a : 1 ≤ n) (b : n ≤ 4) : s102 n (tn true) (restB n true) true = true := all4B (p := fun n => s102 n (tn true) (restB n true) true = true) (by kernel_rfl) (by kernel_rfl) (by kernel_rfl) (by kernel_rfl) a b
theorem k102_tf {n : Nat} (a : 1 ≤ n) (b : n ≤ 4) : s102 n (tn true) (restB n true) false = true := all4B (p := fun n => s102 n (tn true) (restB n true) false = true) (by kernel_rfl) (by kernel_rfl) (by kernel_rfl) (by kernel_rfl) a b
theorem k102_ft {n : Nat} (a : 1 ≤ n) (b : n ≤ 4) : s102 n (tn false) (restB n false) true = true := all4B (p := fun n => s102 n (tn false) (restB n false) true = true) (by kernel_rfl) (by kernel_rfl) (by kernel_rfl) (by kernel_rfl) a b
theorem k102_ff {n : Nat} (a : 1 ≤ n) (b : n ≤ 4) : s102 n (tn false) (restB n false) false = true := all4B (p := fun n => s102 n (tn false) (restB n false) false = true) (by kernel_rfl) (by kernel_rfl) (by kernel_rfl) (by kernel_rfl) a b
theorem k102 (e1 e : Bool) {n : Nat} (a : 1 ≤ n) (b : n ≤ 4) : s102 n (tn e1) (restB n e1) e = true := by
  match e1, e with
  | true, true => exact k102_tt a b
  | true, false => exact k102_tf a b
  | false, true => exact k102_ft a b
  | false, false => exact k102_ff a b
end Go.Proofs.Ytmfemophafncnaa.Ft

/-
  wainscotlaw25.FlushTrims: the runs of a trim's steps (C). No condition.
-/
namespace Go.Proofs.Ytmfemophafncnaa.Ft
open Go Ex
theorem all4C {p : Nat → Prop} (h1 : p 1) (h2 : p 2) (h3 : p 3) (h4 : p 4) {n : Nat} (a : 1 ≤ n) (b : n ≤ 4) : p n := by
  match n, a, b with
  | 1, _, _ => exact h1
  | 2, _, _ => exact h2
  | 3, _, _ => exact h3
  | 4, _, _ => exact h4
  | n + 5, _, b => exact absurd b (by omega)
theorem k103_t {n : Nat} (a : 1 ≤ n) (b : n ≤ 4) : s103 n (tn true) (restB n true) = true := all4C (p := fun n => s103 n (tn true) (restB n true) = true) (by kernel_rfl) (by kernel_rfl) (by kernel_rfl) (by kernel_rfl) a b
theorem k103_f {n : Nat} (a : 1 ≤ n) (b : n ≤ 4) : s103 n (tn false) (restB n false) = true := all4C (p := fun n => s103 n (tn false) (restB n false) = true) (by kernel_rfl) (by kernel_rfl) (by kernel_rfl) (by kernel_rfl) a b
theorem k103 (e1 : Bool) {n : Nat} (a : 1 ≤ n) (b : n ≤ 4) : s103 n (tn e1) (restB n e1) = true := by
  match e1 with
  | true => exact k103_t a b
  | false => exact k103_f a b
theorem k76_t {n : Nat} (a : 1 ≤ n) (b : n ≤ 4) : s76 n (tn true) (restB n true) = true := all4C (p := fun n => s76 n (tn true) (restB n true) = true) (by kernel_rfl) (by kernel_rfl) (by kernel_rfl) (by kernel_rfl) a b
theorem k76_f {n : Nat} (a : 1 ≤ n) (b : n ≤ 4) : s76 n (tn false) (restB n false) = true := all4C (p := fun n => s76 n (tn false) (restB n false) = true) (by kernel_rfl) (by kernel_rfl) (by kernel_rfl) (by kernel_rfl) a b
theorem k76 (e1 : Bool) {n : Nat} (a : 1 ≤ n) (b : n ≤ 4) : s76 n (tn e1) (restB n e1) = true := by
  match e1 with
  | true => exact k76_t a b
  | false => exact k76_f a b
theorem k77_t {n : Nat} (a : 1 ≤ n) (b : n ≤ 4) : s77 n (tn true) (restB n true) = true := all4C (p := fun n => s77 n (tn true) (restB n true) = true) (by kernel_rfl) (by kernel_rfl) (by kernel_rfl) (by kernel_rfl) a b
theorem k77_f {n : Nat} (a : 1 ≤ n) (b : n ≤ 4) : s77 n (tn false) (restB n false) = true := all4C (p := fun n => s77 n (tn false) (restB n false) = true) (by kernel_rfl) (by kernel_rfl) (by kernel_rfl) (by kernel_rfl) a b
theorem k77 (e1 : Bool) {n : Nat} (a : 1 ≤ n) (b : n ≤ 4) : s77 n (tn e1) (restB n e1) = true := by
  match e1 with
  | true => exact k77_t a b
  | false => exact k77_f a b
theorem k78_t {n : Nat} (a : 1 ≤ n) (b : n ≤ 4) : s78 n (tn true) (restB n true) = true := all4C (p := fun n => s78 n (tn true) (restB n true) = true) (by kernel_rfl) (by kernel_rfl) (by kernel_rfl) (by kernel_rfl) a b
theorem k78_f {n : Nat} (a : 1 ≤ n) (b : n ≤ 4) : s78 n (tn false) (restB n false) = true := all4C (p := fun n => s78 n (tn false) (restB n false) = true) (by kernel_rfl) (by kernel_rfl) (by kernel_rfl) (by kernel_rfl) a b
theorem k78 (e1 : Bool) {n : Nat} (a : 1 ≤ n) (b : n ≤ 4) : s78 n (tn e1) (restB n e1) = true := by
  match e1 with
  | true => exact k78_t a b
  | false => exact k78_f a b
theorem kEnd_t {n : Nat} (a : 1 ≤ n) (b : n ≤ 4) : sEnd n (tn true) (restB n true) = true := all4C (p := fun n => sEnd n (tn true) (restB n true) = true) (by kernel_rfl) (by kernel_rfl) (by kernel_rfl) (by kernel_rfl) a b
theorem kEnd_f {n : Nat} (a : 1 ≤ n) (b : n ≤ 4) : sEnd n (tn false) (restB n false) = true := all4C (p := fun n => sEnd n (tn false) (restB n false) = true) (by kernel_rfl) (by kernel_rfl) (by kernel_rfl) (by kernel_rfl) a b
theorem kEnd (e1 : Bool) {n : Nat} (a : 1 ≤ n) (b : n ≤ 4) : sEnd n (tn e1) (restB n e1) = true := by
  match e1 with
  | true => exact kEnd_t a b
  | false => exact kEnd_f a b
end Go.Proofs.Ytmfemophafncnaa.Ft

/-
  wainscotlaw25.FlushTrims: the loop of a trim's steps: readings, facts, what a step tells. No condition.
-/
namespace Go.Proofs.Ytmfemophafncnaa.Ft
open Go Ex Mem See Fast Back
open Go.RowKit
/-- what a law's run knows besides: the shelf, what processors keep, how many are in use; what is seen -/
structure La where
  x : Wo
  A : List Int
  P : Nat → List Int
  u : Nat → Nat
  K1 : CoreP
  K2 : CoreP
  m : Nat
/-- a core's numbers -/
def slotNo (s : SlotP) (i : Nat) : Int := if i = 0 then s.slab else if i = 1 then s.list.length else if i = 2 then s.turn else s.parts.length
def slabNo (s : SlabP) (i : Nat) : Int := if i = 0 then s.counts.inuse else if i = 1 then s.counts.objects else if i = 2 then (if s.counts.frozen then 1 else 0) else if i = 3 then (if s.counts.live then 1 else 0) else s.first.length
def coreNo (K : CoreP) (n i : Nat) : Int :=
  if i < 4 * n then ((K.slots[i / 4]?).map fun s => slotNo s (i % 4)).getD 0 else if i = 4 * n then 0 else if i = 4 * n + 1 then (if K.locked then 1 else 0) else ((K.slabs[(i - (4 * n + 2)) / 5]?).map fun s => slabNo s ((i - (4 * n + 2)) % 5)).getD 0
namespace La
def n (y : La) : Nat := y.x.n
def O (y : La) : Nat := y.x.O
def c (y : La) : Ws := y.x.st y.x.T
def B (y : La) : List Int := y.A.filter fun z => decide (0 < y.u z.toNat)
def t0 (y : La) : Tr := ⟨.a95, 0, 0, y.c.cnt, 0, 0, 0, 0, 0, 0, y.c.g, [], y.A⟩
def tS (y : La) (j : Nat) : Tr := tst y.n y.u y.t0 j
def tF (y : La) : Tr := y.tS y.m
def vC (y : La) (i : Nat) : Int := if i < 37 then (match i with | 0 => (y.O : Int) - 1 | 1 => y.x.mn | 30 => y.x.x0 | 31 => y.x.x1 | 32 => y.x.x2 | 34 => y.c.cnt | 36 => y.A.length | _ => 0) else if i < 100 then 0 else if i < 200 then coreNo y.K1 y.n (i - 100) else if i < 300 then coreNo y.K2 y.n (i - 200) else 0
def fld (s : Tr) (i : Nat) : Int := match i with | 2 => s.i | 3 => s.gone | 4 => s.cnt | 5 => s.sl | 6 => s.K | 7 => s.N | 8 => s.tv | 9 => s.F | 10 => s.bk | _ => 0
def vT (y : La) (s : Tr) (i : Nat) : Int := if 2 ≤ i ∧ i < 11 then fld s i else if i < 300 then y.vC i else if i = 300 then y.u s.sl.toNat else if i = 301 then y.O else 0
def lC (y : La) (q : Nat) : List (List Int) := if q < 15 then (match q with | 9 => one (natsI y.c.g) | 10 => one (natsI y.c.g) | 11 => one y.A | 12 => one (natsI y.tF.g) | 13 => one y.B | 14 => one y.B | _ => []) else (match q with | 40 => one y.x.how | 41 => one y.x.own | 42 => one y.x.mine | 51 => one (natsI y.x.s0.g) | 56 => one (natsI (y.x.g6 y.c)) | _ => [])
def lT (y : La) (s : Tr) (q : Nat) : List (List Int) := if q = 0 then one (natsI s.g) else y.lC q
def σT (y : La) (s : Tr) : Nat → Int := sg (y.vT s) (y.lT s)
/-- what stands -/
structure Ok (y : La) : Prop where
  x : y.x.Ok
  sd : Sd y.n y.O y.c.g y.A y.P y.u 0 y.A.length 8
  see1 : seeP (cO y.n y.O) y.c.g = some y.K1
  sh1 : y.K1.shelf = y.A
  lk1 : y.K1.locked = false
  sl1 : y.K1.slots.length = y.n
  sb1 : y.K1.slabs.length = 8
  in1 : ∀ z ∈ y.A, ∃ b, y.K1.slabs[z.toNat]? = some b ∧ b.counts.inuse = y.u z.toNat
  tg : ∀ j, j ≤ y.m → TG y.n y.O y.P y.u y.A y.c.cnt (y.tS j) ∧ (j < y.m → (y.tS j).pc ≠ .fin)
  fin : y.tF.pc = .fin
  see2 : seeP (cO y.n y.O) y.tF.g = some y.K2
  sh2 : y.K2.shelf = y.B
  lk2 : y.K2.locked = false
  sl2 : y.K2.slots.length = y.n
  sb2 : y.K2.slabs.length = 8
section
variable {y : La} {s : Tr}
theorem tev {i : Nat} (hi : i < 2048) : (v i).ev (y.σT s) = y.vT s i := ev_v hi
theorem t0_ : (v 0).ev (y.σT s) = (y.O : Int) - 1 := by rw [tev (by omega)]; rfl
theorem t1_ : (v 1).ev (y.σT s) = (y.x.mn : Int) := by rw [tev (by omega)]; rfl
theorem t2_ : (v 2).ev (y.σT s) = (s.i : Int) := by rw [tev (by omega)]; rfl
theorem t3_ : (v 3).ev (y.σT s) = (s.gone : Int) := by rw [tev (by omega)]; rfl
theorem t4_ : (v 4).ev (y.σT s) = (s.cnt : Int) := by rw [tev (by omega)]; rfl
theorem t5_ : (v 5).ev (y.σT s) = s.sl := by rw [tev (by omega)]; rfl
theorem t6_ : (v 6).ev (y.σT s) = (s.K : Int) := by rw [tev (by omega)]; rfl
theorem t7_ : (v 7).ev (y.σT s) = (s.N : Int) := by rw [tev (by omega)]; rfl
theorem t8_ : (v 8).ev (y.σT s) = s.tv := by rw [tev (by omega)]; rfl
theorem t9_ : (v 9).ev (y.σT s) = (s.F : Int) := by rw [tev (by omega)]; rfl
theorem t10_ : (v 10).ev (y.σT s) = s.bk := by rw [tev (by omega)]; rfl
theorem t300_ : (v 300).ev (y.σT s) = (y.u s.sl.toNat : Int) := by rw [tev (by omega)]; rfl
theorem rT0 : LsRec (y.σT s) (.lvar 0) (one (natsI s.g)) := LsRec.var' (by omega) rfl
theorem lT_ne {q : Nat} (h : q ≠ 0) : y.lT s q = y.lC q := if_neg h
theorem vT_in {i : Nat} (h2 : 2 ≤ i) (h : i < 11) : y.vT s i = fld s i := if_pos ⟨h2, h⟩
theorem vT_C {i : Nat} (h : ¬ (2 ≤ i ∧ i < 11)) (h3 : i < 300) : y.vT s i = y.vC i := by unfold vT; rw [if_neg h, if_pos h3]
/-- a step tells some numbers -/
theorem agree_t {s s' : Tr} {ro : Nat → Option (Option Addr × Nat × Nat)} (hro : ∀ i p, ro i = some p → 40 ≤ i ∧ i < 43) {θv : List (Nat × SE)} {L : SE} (ho : ∀ p ∈ θv, y.vT s' p.1 = p.2.ev (y.σT s)) (h2 : lookS 2 θv = none → s'.i = s.i)
    (h3 : lookS 3 θv = none → s'.gone = s.gone) (h4 : lookS 4 θv = none → s'.cnt = s.cnt) (h5 : lookS 5 θv = none → s'.sl = s.sl) (h6 : lookS 6 θv = none → s'.K = s.K) (h7 : lookS 7 θv = none → s'.N = s.N) (h8 : lookS 8 θv = none → s'.tv = s.tv)
    (h9 : lookS 9 θv = none → s'.F = s.F) (h10 : lookS 10 θv = none → s'.bk = s.bk) (hl : LsRec (y.σT s) L (one (natsI s'.g))) : AgreeD { v := θv, l := [(0, L)] } ⟨250, 12, 0, 100⟩ ro (y.σT s) Ωn (y.σT s') Ωn := by
  refine agree_sgR (fun i p hp => ?_) (by decide) (by decide) rfl (fun i hi => ?_) fun q hq => ?_
  · have hi := hro i p hp
    refine ⟨by omega, LsRec.var' (by omega) ?_⟩
    rw [lT_ne (by omega), lT_ne (by omega)]
  · have hi : i < 250 := hi
    unfold Sub.vAt
    simp only
    cases h : lookS i θv with
    | some e => exact ho _ (look_mem h)
    | none =>
      simp only
      show _ = (v i).ev (y.σT s)
      rw [tev (by omega)]
      by_cases hf : 2 ≤ i ∧ i < 11
      · rw [vT_in hf.1 hf.2, vT_in hf.1 hf.2]
        match i, hf with
        | 2, _ => exact congrArg (fun z : Nat => (z : Int)) (h2 h)
        | 3, _ => exact congrArg (fun z : Nat => (z : Int)) (h3 h)
        | 4, _ => exact congrArg (fun z : Nat => (z : Int)) (h4 h)
        | 5, _ => exact h5 h
        | 6, _ => exact congrArg (fun z : Nat => (z : Int)) (h6 h)
        | 7, _ => exact congrArg (fun z : Nat => (z : Int)) (h7 h)
        | 8, _ => exact h8 h
        | 9, _ => exact congrArg (fun z : Nat => (z : Int)) (h9 h)
        | 10, _ => exact h10 h
        | 0, hf => exact absurd hf (by omega)
        | 1, hf => exact absurd hf (by omega)
        | i + 11, hf => exact absurd hf (by omega)
      · rw [vT_C hf (by omega), vT_C hf (by omega)]
  · have hq : q < 12 := hq
    by_cases h0 : q = 0
    · subst h0
      exact hl
    · unfold Sub.lAt
      simp only
      rw [lookS_ne (fun h => h0 h.symm)]
      show LsRec _ (.lvar q) _
      rw [lT_ne h0]
      exact LsRec.var' (by omega) (lT_ne h0)
end
def e1 (y : La) : Bool := y.A.isEmpty
def e2 (y : La) : Bool := y.B.isEmpty
/-- the forms -/
def pcI : Pc → Int
  | .a95 => 95 | .a96 => 96 | .a97 => 97 | .a98 => 98 | .a99 => 99 | .a100 => 100 | .a101 => 101 | .a102 => 102 | .a103 => 103 | .a76 => 76 | .a77 => 77 | .a78 => 78 | .fin => 99
def enI : Pc → Int
  | .fin => 1
  | _ => 0
def waI : Pc → Int
  | .a78 => 2
  | _ => 0
def Fm (y : La) (s : Tr) : Tm := TS (y.n : Int) (tn y.e1) (restB y.n y.e1) (pcI s.pc) (enI s.pc) (waI s.pc) true
def e98 (s : Tr) : Bool := match s.Bs with
  | _ :: _ :: _ => false
  | _ => true
/-- what a step tells -/
def th (y : La) (s : Tr) : Sub := match s.pc with
  | .a95 => up [] 1 (set0 L0 (lockE y.n) (l 1))
  | .a96 => up ([(7, at0 (shelfE y.n)), (8, l (-1))] ++ (if s.Bs.isEmpty then [] else [(5, slabOf (at0 (shelfE y.n)))])) 1 L0
  | .a97 => up [(6, at0 (first1 y.n (v 5)))] 1 L0
  | .a98 => up ([(7, at0 (nextE y.n (v 5))), (8, v 5)] ++ (if e98 s then [] else [(5, slabOf (at0 (nextE y.n (v 5))))])) 1 L0
  | .a99 => up [] 1 (set0 L0 (lockE y.n) (l 0))
  | .a100 => up [(9, at0 (firstE y.n (v 5)))] 1 L0
  | .a101 => up [(7, at0 (nextE y.n (v 5)))] 1 L0
  | .a102 => up [] 1 (set0 L0 (if decide (s.tv = -1) then shelfE y.n else nextE y.n (v 8)) (v 7))
  | .a103 => up [(10, l 95)] 1 (set0 L0 (heldE y.n) (.ubin .add (at0 (heldE y.n)) (l 18446744073709551615)))
  | .a76 => up [] 1 (set0 (set0 L0 (firstE y.n (v 5)) (l 0)) (first1 y.n (v 5)) (l 0))
  | .a77 => up [] 1 (set0 L0 (lockE y.n) (l 0))
  | .a78 => up [(3, add (v 3) (l 1))] 0 L0
  | .fin => {}
/-- what is known -/
def ft (y : La) (s : Tr) : List (Cnd × Bool) := match s.pc with
  | .a95 => [(.eq (at0 (lockE y.n)) (l 0), true)]
  | .a96 => [(.lt (l 8) (at0 (shelfE y.n)), false), (.eq (at0 (shelfE y.n)) (l 0), s.Bs.isEmpty)]
  | .a97 => fS ++ [(.eq (v 300) (l 0), decide (y.u s.sl.toNat = 0))]
  | .a98 => fS ++ [(.lt (l 8) (at0 (nextE y.n (v 5))), false), (.eq (at0 (nextE y.n (v 5))) (l 0), e98 s)]
  | .a99 => []
  | .a100 => fS
  | .a101 => fS ++ [(.lt (l 8) (at0 (nextE y.n (v 5))), false)]
  | .a102 => fS ++ (.eq (v 8) (l (-1)), decide (s.tv = -1)) :: (if decide (s.tv = -1) then [] else rng (v 8) 0 8)
  | .a103 => fS
  | .a76 => fS ++ [(.eq (at0 (firstE y.n (v 5))) (v 9), true), (.eq (at0 (first1 y.n (v 5))) (v 6), true)]
  | .a77 => fS
  | .a78 => fS ++ [(.eq (v 10) (l 95), true)]
  | .fin => []
def kct (y : La) (s : Tr) : List Kc := match s.pc with
  | .a97 => [kcCountsAt y.n]
  | _ => []
def dt (y : La) (s : Tr) : LT := match s.pc with
  | .fin => .leaf (.out {})
  | _ => .leaf (.cont (y.th s))
def fs0 (y : La) (s : Tr) : List (Cnd × Bool) := match s.pc with
  | .fin => fB y.n
  | _ => fB y.n ++ y.ft s
section
variable {y : La} {s : Tr}
theorem run_of {kcs : List Kc} {pc en want pc' en' want' : Int} {θ : Sub} {f : List (Cnd × Bool)} (hk : step (y.n : Int) (tn y.e1) (restB y.n y.e1) kcs pc en want pc' en' want' θ f = true) (hF : y.Fm s = TS (y.n : Int) (tn y.e1) (restB y.n y.e1) pc en want true)
    (hF' : y.Fm (tnx y.n y.u s) = TS (y.n : Int) (tn y.e1) (restB y.n y.e1) pc' en' want' true) (hd : y.dt s = .leaf (.cont θ)) (hf : y.fs0 s = fB y.n ++ f) (hkc : y.kct s = kcs) :
    treeL2 Try.prog [] rks (fun _ => kgs (y.kct s)) [] 40 (ntOf Try.prog 3) (tn y.e1 + 1) (loopOf Try.prog 3 8) (y.Fm s) (y.Fm (tnx y.n y.u s)) (.exit 0) (TS (y.n : Int) (tn y.e1) (restB y.n y.e1) 99 1 0 false) (y.dt s) (y.fs0 s) = true := by
  rw [hF, hF', hd, hf, hkc]
  exact hk
theorem run_end (hk : sEnd (y.n : Int) (tn y.e1) (restB y.n y.e1) = true) (hF : y.Fm s = TS (y.n : Int) (tn y.e1) (restB y.n y.e1) 99 1 0 true)
    (hF' : y.Fm (tnx y.n y.u s) = TS (y.n : Int) (tn y.e1) (restB y.n y.e1) 99 1 0 true) (hd : y.dt s = .leaf (.out {})) (hf : y.fs0 s = fB y.n) (hkc : y.kct s = []) :
    treeL2 Try.prog [] rks (fun _ => kgs (y.kct s)) [] 40 (ntOf Try.prog 3) (tn y.e1 + 1) (loopOf Try.prog 3 8) (y.Fm s) (y.Fm (tnx y.n y.u s)) (.exit 0) (TS (y.n : Int) (tn y.e1) (restB y.n y.e1) 99 1 0 false) (y.dt s) (y.fs0 s) = true := by
  rw [hF, hF', hd, hf, hkc]
  exact hk
variable (h : y.Ok)
include h
/-- a step's text -/
theorem run_t : treeL2 Try.prog [] rks (fun _ => kgs (y.kct s)) [] 40 (ntOf Try.prog 3) (tn y.e1 + 1) (loopOf Try.prog 3 8) (y.Fm s) (y.Fm (tnx y.n y.u s)) (.exit 0) (TS (y.n : Int) (tn y.e1) (restB y.n y.e1) 99 1 0 false) (y.dt s) (y.fs0 s) = true := by
  have a : 1 ≤ y.n := h.x.n1
  have b : y.n ≤ 4 := h.x.n4
  obtain ⟨pc, i, gone, cnt, sl, tv, bk, K, N, F, g, As, Bs⟩ := s
  cases pc with
  | fin => exact run_end (kEnd y.e1 a b) rfl rfl rfl rfl rfl
  | a95 => exact run_of (k95 y.e1 a b) rfl rfl rfl rfl rfl
  | a96 =>
    cases Bs with
    | nil => exact run_of (k96 y.e1 true a b) rfl rfl rfl rfl rfl
    | cons z Bs => exact run_of (k96 y.e1 false a b) rfl rfl rfl rfl rfl
  | a97 =>
    by_cases hu : y.u sl.toNat = 0
    · refine run_of (k97 y.e1 true a b) rfl ?_ rfl ?_ rfl
      · simp only [tnx, hu, if_true]; rfl
      · simp only [fs0, ft, hu, decide_true]
    · refine run_of (k97 y.e1 false a b) rfl ?_ rfl ?_ rfl
      · simp only [tnx, hu, if_false]; rfl
      · simp only [fs0, ft, hu, decide_false]
  | a98 =>
    match Bs with
    | [] => exact run_of (k98 y.e1 true a b) rfl rfl rfl rfl rfl
    | [z] => exact run_of (k98 y.e1 true a b) rfl rfl rfl rfl rfl
    | z :: z2 :: Bs => exact run_of (k98 y.e1 false a b) rfl rfl rfl rfl rfl
  | a99 => exact run_of (f := []) (k99 y.e1 a b) rfl rfl rfl rfl rfl
  | a100 => exact run_of (k100 y.e1 a b) rfl rfl rfl rfl rfl
  | a101 => exact run_of (k101 y.e1 a b) rfl rfl rfl rfl rfl
  | a102 =>
    by_cases ht : tv = -1
    · refine run_of (k102 y.e1 true a b) rfl rfl ?_ ?_ rfl
      · simp only [dt, th, ht, decide_true, if_true]
      · simp only [fs0, ft, ht, decide_true, if_true]
    · refine run_of (k102 y.e1 false a b) rfl rfl ?_ ?_ rfl
      · simp only [dt, th, ht, decide_false, Bool.false_eq_true, if_false]
      · simp only [fs0, ft, ht, decide_false, Bool.false_eq_true, if_false]
  | a103 => exact run_of (k103 y.e1 a b) rfl rfl rfl rfl rfl
  | a76 => exact run_of (k76 y.e1 a b) rfl rfl rfl rfl rfl
  | a77 => exact run_of (k77 y.e1 a b) rfl rfl rfl rfl rfl
  | a78 => exact run_of (k78 y.e1 a b) rfl rfl rfl rfl rfl
end
end La
end Go.Proofs.Ytmfemophafncnaa.Ft

/-
  wainscotlaw25.FlushTrims: the loop of a trim's steps: facts, calls, steps, the loop. No condition.
-/
namespace Go.Proofs.Ytmfemophafncnaa.Ft
open Go Ex Mem See Fast Back
open Go.RowKit
theorem shelf_is {nx : Int → Nat} {w : Nat} {L : List Int} (h : Lnk shelfOf nx L w) (hb : ∀ z ∈ L, 0 ≤ z ∧ z < 8) : w ≤ 8 ∧ (L = [] → w = 0) ∧ ∀ z R, L = z :: R → (w : Int) = z + 1 := by
  have h1 := h.fst
  unfold shelfOf at h1
  split at h1
  · simp only [Option.some.injEq] at h1
    cases L with
    | nil =>
      have h2 : (w : Int) - 1 = -1 := h1
      exact ⟨by omega, fun _ => by omega, fun z R he => (List.cons_ne_nil z R he.symm).elim⟩
    | cons z R =>
      have h2 : (w : Int) - 1 = z := h1
      have h3 := hb z List.mem_cons_self
      refine ⟨by omega, fun he => (List.cons_ne_nil z R he).elim, fun z' R' he => ?_⟩
      obtain ⟨rfl, _⟩ := List.cons.inj he
      omega
  · cases h1
theorem Lnk.mid {of : Nat → Option Int} {nx : Int → Nat} {x : Int} {Bs : List Int} : ∀ {As : List Int} {w : Nat}, Lnk of nx (As ++ x :: Bs) w → Lnk of nx Bs (nx x)
  | [], _, h => h.2
  | _ :: As, _, h => Lnk.mid (As := As) h.2
theorem ev_i {σ : Nat → Int} {e : SE} {x : Int} (h : e.ev σ = x) (h0 : -1000000 ≤ x) (h1 : x < 1000000) : (SE.cv .i64 e).ev σ = x := by
  show IntKind.i64.wrap (e.ev σ) = _
  rw [h, i64_small (by omega) (by omega)]
theorem ev_dec {σ : Nat → Int} {a : SE} {x : Nat} (ha : a.ev σ = (x : Int)) (h0 : 1 ≤ x) (h1 : x < 18446744073709551616) : (SE.ubin .add a (l 18446744073709551615)).ev σ = ((x - 1 : Nat) : Int) := by
  show IntKind.u64.wrap (a.ev σ + 18446744073709551615) = _
  rw [ha, IntKind.wrap_u64]
  omega
namespace La
section
variable {y : La} {s : Tr}
theorem at0_ev {e : SE} {i : Nat} (he : e.ev (y.σT s) = (i : Int)) : (at0 e).ev (y.σT s) = (at_ s.g i : Int) := rec_at rT0 he
theorem lock_ev {σ : Nat → Int} : (lockE (y.n : Int)).ev σ = ((4 * y.n : Nat) : Int) := by show 4 * (y.n : Int) = _; omega
theorem shelf_ev {σ : Nat → Int} : (shelfE (y.n : Int)).ev σ = ((4 * y.n + 1 : Nat) : Int) := by show 4 * (y.n : Int) + 1 = _; omega
theorem held_ev {σ : Nat → Int} : (heldE (y.n : Int)).ev σ = ((4 * y.n + 2 : Nat) : Int) := by show 4 * (y.n : Int) + 2 = _; omega
theorem agree_u {s s' : Tr} {ro : Nat → Option (Option Addr × Nat × Nat)} (hro : ∀ i p, ro i = some p → 40 ≤ i ∧ i < 43) {θ : List (Nat × SE)} {L : SE} (ho : ∀ p ∈ θ, y.vT s' p.1 = p.2.ev (y.σT s)) (hi : s'.i = s.i + 1) (hc : s'.cnt = s.cnt + 1) (bi : s.i < 1000) (bc : s.cnt < 10000)
    (h3 : lookS 3 θ = none → s'.gone = s.gone) (h5 : lookS 5 θ = none → s'.sl = s.sl) (h6 : lookS 6 θ = none → s'.K = s.K) (h7 : lookS 7 θ = none → s'.N = s.N) (h8 : lookS 8 θ = none → s'.tv = s.tv)
    (h9 : lookS 9 θ = none → s'.F = s.F) (h10 : lookS 10 θ = none → s'.bk = s.bk) (hl : LsRec (y.σT s) L (one (natsI s'.g))) : AgreeD (up θ 1 L) ⟨250, 12, 0, 100⟩ ro (y.σT s) Ωn (y.σT s') Ωn := by
  have lk : ∀ {i : Nat} {a b : SE}, i ≠ 2 → i ≠ 4 → lookS i ((2, a) :: (4, b) :: θ) = lookS i θ := fun h2 h4 => by rw [lookS_ne (fun h => h2 h.symm), lookS_ne (fun h => h4 h.symm)]
  refine agree_t hro (θv := (2, add (v 2) (l 1)) :: (4, if (1 : Int) = 0 then v 4 else add (v 4) (l 1)) :: θ) (fun p hp => ?_) (fun hn => ?_) (fun hn => h3 ?_) (fun hn => ?_) (fun hn => h5 ?_) (fun hn => h6 ?_) (fun hn => h7 ?_) (fun hn => h8 ?_) (fun hn => h9 ?_) (fun hn => h10 ?_) hl
  · rcases List.mem_cons.1 hp with rfl | hp
    · refine Eq.trans ?_ (ev_add t2_ (b := l 1) (y := 1) rfl (by omega) (by omega)).symm
      show (s'.i : Int) = _
      rw [hi]; omega
    · rcases List.mem_cons.1 hp with rfl | hp
      · dsimp only
        rw [if_neg (by decide)]
        refine Eq.trans ?_ (ev_add t4_ (b := l 1) (y := 1) rfl (by omega) (by omega)).symm
        show (s'.cnt : Int) = _
        rw [hc]; omega
      · exact ho p hp
  · rw [lookS_eq] at hn; cases hn
  · rwa [lk (by decide) (by decide)] at hn
  · rw [lookS_ne (by decide), lookS_eq] at hn; cases hn
  · rwa [lk (by decide) (by decide)] at hn
  · rwa [lk (by decide) (by decide)] at hn
  · rwa [lk (by decide) (by decide)] at hn
  · rwa [lk (by decide) (by decide)] at hn
  · rwa [lk (by decide) (by decide)] at hn
  · rwa [lk (by decide) (by decide)] at hn
theorem c_cnt (h : y.Ok) : y.c.cnt ≤ 176 := by
  have hT := Wo.T_le (x := y.x)
  have h1 := (Wo.st_good h.x.toOk y.x.T (by omega)).cnt
  rw [Wo.st_t] at h1
  have : y.c = y.x.st y.x.T := rfl
  rw [this]
  omega
variable (h : y.Ok) (hg : TG y.n y.O y.P y.u y.A y.c.cnt s)
include h hg
/-- what is always known -/
theorem fB_ok : ∀ q ∈ fB (y.n : Int), q.1.ev (y.σT s) = q.2 := by
  intro q hq
  have a1 : 1 ≤ y.O := h.x.O1
  have a2 : y.O ≤ 16 := h.x.O16
  have a3 := h.x.mn
  have a4 : y.n ≤ 4 := h.x.n4
  have b1 := hg.cnt
  have b2 := hg.gi
  have b3 := hg.mu
  have b4 := c_cnt h
  have b5 := hg.sd.len
  have e0 : (SE.len (.lvar 0)).ev (y.σT s) = ((4 * y.n + 36 + 8 * y.O : Nat) : Int) := by rw [← b5]; exact ev_len (by omega) rfl
  simp only [fB, List.append_assoc, List.mem_append] at hq
  rcases hq with hq | hq | hq | hq | hq | hq
  · exact rng_ok t0_ (by omega) (by omega) q hq
  · exact rng_ok t1_ (by omega) (by omega) q hq
  · exact rng_ok t2_ (by omega) (by omega) q hq
  · exact rng_ok t3_ (by omega) (by omega) q hq
  · exact rng_ok t4_ (by omega) (by omega) q hq
  · exact rng_ok e0 (by omega) (by omega) q hq
/-- what is known in a place -/
theorem ft_ok : ∀ q ∈ y.ft s, q.1.ev (y.σT s) = q.2 := by
  have hbd := hg.sd.bd
  have hsh := hg.sd.shelf
  have hlk := hg.sd.lock
  have hcur := hg.cur
  have hx := h.x.toOk
  have h8 : ∀ {x : Int}, 0 ≤ x → x < 8 → s.sl = x → ∀ q ∈ fS, q.1.ev (y.σT s) = q.2 := fun h0 h1 he q hq => rng_ok (e := v 5) (a := 0) (b := 8) t5_ (by omega) (by omega) q hq
  obtain ⟨pc, i, gone, cnt, sl, tv, bk, K, N, F, g, As, Bs⟩ := s
  dsimp only at hbd hsh hlk h8
  have shl := shelf_is hsh (fun z hz => hbd z hz)
  have nxl : ∀ B, Bs = sl :: B → at_ g (nxIx y.n sl) ≤ 8 ∧ (B = [] → at_ g (nxIx y.n sl) = 0) ∧ ∀ z R, B = z :: R → (at_ g (nxIx y.n sl) : Int) = z + 1 := fun B hB => by
    subst hB
    exact shelf_is hsh.mid fun z hz => hbd z (List.mem_append_right _ (List.mem_cons_of_mem _ hz))
  cases pc with
  | fin => intro q hq; cases hq
  | a95 =>
    intro q hq
    simp only [ft, List.mem_cons, List.not_mem_nil, or_false] at hq
    subst hq
    exact eq_t (at0_ev lock_ev) (y := 0) rfl (by show (at_ g (4 * y.n) : Int) = 0; rw [hlk]; rfl)
  | a96 =>
    simp only [Tr.cur] at hcur
    subst hcur
    intro q hq
    simp only [ft, List.mem_cons, List.not_mem_nil, or_false] at hq
    rcases hq with rfl | rfl
    · exact lt_f (x := 8) rfl (at0_ev shelf_ev) (by have := shl.1; show (at_ g (4 * y.n + 1) : Int) ≤ 8; omega)
    · refine eq_d _ (at0_ev shelf_ev) (y := 0) rfl ?_
      show Bs.isEmpty = decide ((at_ g (4 * y.n + 1) : Int) = 0)
      cases Bs with
      | nil => rw [shl.2.1 rfl]; rfl
      | cons z R =>
        have h1 := shl.2.2 z R rfl
        have h2 := (hbd z (by simp)).1
        symm
        exact decide_eq_false (by omega)
  | a97 =>
    simp only [Tr.cur] at hcur
    obtain ⟨⟨B, rfl⟩, _⟩ := hcur
    have hb := hbd sl (by simp)
    intro q hq
    simp only [ft, List.mem_append, List.mem_cons, List.not_mem_nil, or_false] at hq
    rcases hq with hq | rfl
    · exact h8 hb.1 hb.2 rfl q hq
    · refine eq_d _ t300_ (y := 0) rfl ?_
      rw [decide_eq_decide]
      show y.u sl.toNat = 0 ↔ ((y.u sl.toNat : Nat) : Int) = 0
      omega
  | a98 =>
    simp only [Tr.cur] at hcur
    obtain ⟨⟨B, rfl⟩, _, _⟩ := hcur
    have hb := hbd sl (by simp)
    obtain ⟨n1, n2, n3⟩ := nxl B rfl
    obtain ⟨S, rfl⟩ : ∃ S : Nat, sl = (S : Int) := ⟨sl.toNat, by omega⟩
    have hnx := ev_next (σ := y.σT ⟨.a98, i, gone, cnt, (S : Int), tv, bk, K, N, F, g, As, (S : Int) :: B⟩) hx (s := v 5) t5_ (by omega)
    intro q hq
    simp only [ft, List.mem_append, List.mem_cons, List.not_mem_nil, or_false] at hq
    rcases hq with hq | rfl | rfl
    · exact h8 hb.1 hb.2 rfl q hq
    · exact lt_f (x := 8) rfl (at0_ev hnx) (by show (at_ g (nxIx y.n (S : Int)) : Int) ≤ 8; omega)
    · refine eq_d _ (at0_ev hnx) (y := 0) rfl ?_
      show _ = decide ((at_ g (nxIx y.n (S : Int)) : Int) = 0)
      cases B with
      | nil => rw [n2 rfl]; rfl
      | cons z R =>
        have h1 := n3 z R rfl
        have h2 := (hbd z (by simp)).1
        symm
        exact decide_eq_false (by omega)
  | a99 => intro q hq; cases hq
  | a100 =>
    simp only [Tr.cur] at hcur
    obtain ⟨⟨B, rfl⟩, _, _⟩ := hcur
    have hb := hbd sl (by simp)
    exact fun q hq => h8 hb.1 hb.2 rfl q hq
  | a101 =>
    simp only [Tr.cur] at hcur
    obtain ⟨⟨B, rfl⟩, _, _⟩ := hcur
    have hb := hbd sl (by simp)
    obtain ⟨n1, n2, n3⟩ := nxl B rfl
    obtain ⟨S, rfl⟩ : ∃ S : Nat, sl = (S : Int) := ⟨sl.toNat, by omega⟩
    have hnx := ev_next (σ := y.σT ⟨.a101, i, gone, cnt, (S : Int), tv, bk, K, N, F, g, As, (S : Int) :: B⟩) hx (s := v 5) t5_ (by omega)
    intro q hq
    simp only [ft, List.mem_append, List.mem_cons, List.not_mem_nil, or_false] at hq
    rcases hq with hq | rfl
    · exact h8 hb.1 hb.2 rfl q hq
    · exact lt_f (x := 8) rfl (at0_ev hnx) (by show (at_ g (nxIx y.n (S : Int)) : Int) ≤ 8; omega)
  | a102 =>
    simp only [Tr.cur] at hcur
    obtain ⟨⟨B, rfl⟩, htv, _⟩ := hcur
    have hb := hbd sl (by simp)
    have htv2 : tv = -1 ∨ 0 ≤ tv ∧ tv < 8 := by
      rw [htv]
      rcases List.eq_nil_or_concat As with rfl | ⟨As', z, rfl⟩
      · exact Or.inl rfl
      · rw [List.concat_eq_append, to_last]
        exact Or.inr (hbd z (by simp))
    intro q hq
    simp only [ft, List.mem_append, List.mem_cons] at hq
    rcases hq with hq | rfl | hq
    · exact h8 hb.1 hb.2 rfl q hq
    · exact eq_d _ t8_ (y := -1) rfl rfl
    · by_cases ht : tv = -1
      · rw [decide_eq_true ht, if_pos rfl] at hq
        cases hq
      · rw [decide_eq_false ht, if_neg (by decide)] at hq
        have := htv2.resolve_left ht
        exact rng_ok t8_ this.1 this.2 q hq
  | a103 =>
    simp only [Tr.cur] at hcur
    obtain ⟨_, h0, h1, _⟩ := hcur
    exact fun q hq => h8 h0 h1 rfl q hq
  | a76 =>
    simp only [Tr.cur] at hcur
    obtain ⟨_, h0, h1, hK, hF, _⟩ := hcur
    obtain ⟨S, rfl⟩ : ∃ S : Nat, sl = (S : Int) := ⟨sl.toNat, by omega⟩
    have hf := ev_first (σ := y.σT ⟨.a76, i, gone, cnt, (S : Int), tv, bk, K, N, F, g, As, Bs⟩) hx (s := v 5) t5_ (by omega)
    have hf1 := ev_first1 (σ := y.σT ⟨.a76, i, gone, cnt, (S : Int), tv, bk, K, N, F, g, As, Bs⟩) hx (s := v 5) t5_ (by omega)
    intro q hq
    simp only [ft, List.mem_append, List.mem_cons, List.not_mem_nil, or_false] at hq
    rcases hq with hq | rfl | rfl
    · exact h8 h0 h1 rfl q hq
    · refine eq_t (at0_ev hf) t9_ ?_
      show (at_ g (fsIx y.n (S : Int)) : Int) = F
      rw [hF]
    · refine eq_t (at0_ev hf1) t6_ ?_
      show (at_ g (ctIx y.n (S : Int)) : Int) = K
      rw [hK]
  | a77 =>
    simp only [Tr.cur] at hcur
    obtain ⟨h0, h1, _⟩ := hcur
    exact fun q hq => h8 h0 h1 rfl q hq
  | a78 =>
    simp only [Tr.cur] at hcur
    obtain ⟨h0, h1, hb⟩ := hcur
    intro q hq
    simp only [ft, List.mem_append, List.mem_cons, List.not_mem_nil, or_false] at hq
    rcases hq with hq | rfl
    · exact h8 h0 h1 rfl q hq
    · exact eq_t t10_ (y := 95) rfl hb
/-- its calls -/
theorem kcs_t {ro : Nat → Option (Option Addr × Nat × Nat)} : KcAll [] rks ro Try.prog (y.σT s) Ωn (kgs (y.kct s)) := by
  have hsd := hg.sd
  have hcur := hg.cur
  have hx := h.x.toOk
  obtain ⟨pc, i, gone, cnt, sl, tv, bk, K, N, F, g, As, Bs⟩ := s
  cases pc with
  | a97 =>
    simp only [Tr.cur] at hcur
    obtain ⟨⟨B, rfl⟩, _⟩ := hcur
    have hb := hsd.bd sl (by simp)
    have hc := hsd.cnt sl (by simp)
    obtain ⟨S, rfl⟩ : ∃ S : Nat, sl = (S : Int) := ⟨sl.toNat, by omega⟩
    have hf1 := ev_first1 (σ := y.σT ⟨.a97, i, gone, cnt, (S : Int), tv, bk, K, N, F, g, As, (S : Int) :: B⟩) hx (s := v 5) t5_ (by omega)
    refine kcAll_cons (fun fs ok => ?_) kcAll_nil
    letI N0 : Nums := nums [] rks ro (y.σT ⟨.a97, i, gone, cnt, (S : Int), tv, bk, K, N, F, g, As, (S : Int) :: B⟩) Ωn fs ok
    refine kc_countsG (w0 := at_ g (ctIx y.n (S : Int))) (k := ⟨y.u (S : Int).toNat, y.O, false, true⟩) (at0_ev hf1) (Back.w64_at hsd.w64 _) hc rfl ?_ ?_ ?_
    · exact t300_
    · exact (tev (i := 301) (by omega))
    · have : (v 302).ev (y.σT ⟨.a97, i, gone, cnt, (S : Int), tv, bk, K, N, F, g, As, (S : Int) :: B⟩) = 0 := by rw [tev (by omega)]; rfl
      show false = !((v 302).ev (y.σT ⟨.a97, i, gone, cnt, (S : Int), tv, bk, K, N, F, g, As, (S : Int) :: B⟩) == 0)
      rw [this]
      rfl
  | fin => exact kcAll_nil
  | a95 => exact kcAll_nil
  | a96 => exact kcAll_nil
  | a98 => exact kcAll_nil
  | a99 => exact kcAll_nil
  | a100 => exact kcAll_nil
  | a101 => exact kcAll_nil
  | a102 => exact kcAll_nil
  | a103 => exact kcAll_nil
  | a76 => exact kcAll_nil
  | a77 => exact kcAll_nil
  | a78 => exact kcAll_nil
/-- a step's end tells the next one -/
theorem th_ok {ro : Nat → Option (Option Addr × Nat × Nat)} (hro : ∀ i p, ro i = some p → 40 ≤ i ∧ i < 43) (hp : s.pc ≠ .fin) : AgreeD (y.th s) ⟨250, 12, 0, 100⟩ ro (y.σT s) Ωn (y.σT (tnx y.n y.u s)) Ωn := by
  have hsd := hg.sd
  have hcur := hg.cur
  have hx := h.x.toOk
  have hlen := hsd.len
  have b1 := hg.cnt
  have b2 := hg.gi
  have b3 := hg.mu
  have b4 := c_cnt h
  have a4 : y.n ≤ 4 := h.x.n4
  have bi : s.i < 1000 := by omega
  have bc : s.cnt < 10000 := by omega
  have bg : s.gone < 1000 := by omega
  have hsh := hsd.shelf
  have hbd := hsd.bd
  have hhd := hsd.held
  have hAl := few hsd.nd hsd.bd
  obtain ⟨pc, i, gone, cnt, sl, tv, bk, K, N, F, g, As, Bs⟩ := s
  dsimp only at hlen bi bc bg hbd hsh hhd hp hAl
  have shl := shelf_is hsh (fun z hz => hbd z hz)
  have nxl : ∀ B, Bs = sl :: B → at_ g (nxIx y.n sl) ≤ 8 ∧ (B = [] → at_ g (nxIx y.n sl) = 0) ∧ ∀ z R, B = z :: R → (at_ g (nxIx y.n sl) : Int) = z + 1 := fun B hB => by
    subst hB
    exact shelf_is hsh.mid fun z hz => hbd z (List.mem_append_right _ (List.mem_cons_of_mem _ hz))
  cases pc with
  | fin => exact absurd rfl hp
  | a95 =>
    refine agree_u hro (θ := []) (fun p hp => by cases hp) rfl rfl bi bc (fun _ => rfl) (fun _ => rfl) (fun _ => rfl) (fun _ => rfl) (fun _ => rfl) (fun _ => rfl) (fun _ => rfl) ?_
    exact rec_set rT0 lock_ev (y := 1) rfl (by show 4 * y.n < g.length; omega)
  | a96 =>
    simp only [Tr.cur] at hcur
    subst hcur
    cases Bs with
    | nil =>
      refine agree_u hro (θ := [(7, at0 (shelfE y.n)), (8, l (-1))]) (fun p hp => ?_) rfl rfl bi bc (fun _ => rfl) (fun _ => rfl) (fun _ => rfl) (fun h => by cases h) (fun h => by cases h) (fun _ => rfl) (fun _ => rfl) rT0
      simp only [List.mem_cons, List.not_mem_nil, or_false] at hp
      rcases hp with rfl | rfl
      · exact (at0_ev shelf_ev).symm
      · rfl
    | cons z R =>
      have hz := shl.2.2 z R rfl
      have hb := hbd z (by simp)
      refine agree_u hro (θ := [(7, at0 (shelfE y.n)), (8, l (-1)), (5, slabOf (at0 (shelfE y.n)))]) (fun p hp => ?_) rfl rfl bi bc (fun _ => rfl) (fun h => by cases h) (fun _ => rfl) (fun h => by cases h) (fun h => by cases h) (fun _ => rfl) (fun _ => rfl) rT0
      simp only [List.mem_cons, List.not_mem_nil, or_false] at hp
      rcases hp with rfl | rfl | rfl
      · exact (at0_ev shelf_ev).symm
      · rfl
      · refine Eq.trans ?_ (ev_sub (ev_i (at0_ev shelf_ev) (by show _ ≤ (at_ g (4 * y.n + 1) : Int); omega) (by show (at_ g (4 * y.n + 1) : Int) < _; omega)) (b := l 1) (y := 1) rfl (by show _ ≤ (at_ g (4 * y.n + 1) : Int) - 1; omega) (by show (at_ g (4 * y.n + 1) : Int) - 1 < _; omega)).symm
        show z = (at_ g (4 * y.n + 1) : Int) - 1
        omega
  | a97 =>
    simp only [Tr.cur] at hcur
    obtain ⟨⟨B, rfl⟩, _⟩ := hcur
    have hb := hbd sl (by simp)
    obtain ⟨S, rfl⟩ : ∃ S : Nat, sl = (S : Int) := ⟨sl.toNat, by omega⟩
    have hf1 := ev_first1 (σ := y.σT ⟨.a97, i, gone, cnt, (S : Int), tv, bk, K, N, F, g, As, (S : Int) :: B⟩) hx (s := v 5) t5_ (by omega)
    refine agree_u hro (θ := [(6, at0 (first1 y.n (v 5)))]) (fun p hp => ?_) rfl rfl bi bc (fun _ => rfl) (fun _ => rfl) (fun h => by cases h) (fun _ => rfl) (fun _ => rfl) (fun _ => rfl) (fun _ => rfl) rT0
    simp only [List.mem_cons, List.not_mem_nil, or_false] at hp
    subst hp
    exact (at0_ev hf1).symm
  | a98 =>
    simp only [Tr.cur] at hcur
    obtain ⟨⟨B, rfl⟩, _, _⟩ := hcur
    have hb := hbd sl (by simp)
    obtain ⟨n1, n2, n3⟩ := nxl B rfl
    obtain ⟨S, rfl⟩ : ∃ S : Nat, sl = (S : Int) := ⟨sl.toNat, by omega⟩
    have hnx := ev_next (σ := y.σT ⟨.a98, i, gone, cnt, (S : Int), tv, bk, K, N, F, g, As, (S : Int) :: B⟩) hx (s := v 5) t5_ (by omega)
    cases B with
    | nil =>
      refine agree_u hro (θ := [(7, at0 (nextE y.n (v 5))), (8, v 5)]) (fun p hp => ?_) rfl rfl bi bc (fun _ => rfl) (fun _ => rfl) (fun _ => rfl) (fun h => by cases h) (fun h => by cases h) (fun _ => rfl) (fun _ => rfl) rT0
      simp only [List.mem_cons, List.not_mem_nil, or_false] at hp
      rcases hp with rfl | rfl
      · exact (at0_ev hnx).symm
      · exact (t5_ (y := y) (s := ⟨.a98, i, gone, cnt, (S : Int), tv, bk, K, N, F, g, As, [(S : Int)]⟩)).symm
    | cons z R =>
      have hz := n3 z R rfl
      have hb2 := hbd z (by simp)
      refine agree_u hro (θ := [(7, at0 (nextE y.n (v 5))), (8, v 5), (5, slabOf (at0 (nextE y.n (v 5))))]) (fun p hp => ?_) rfl rfl bi bc (fun _ => rfl) (fun h => by cases h) (fun _ => rfl) (fun h => by cases h) (fun h => by cases h) (fun _ => rfl) (fun _ => rfl) rT0
      simp only [List.mem_cons, List.not_mem_nil, or_false] at hp
      rcases hp with rfl | rfl | rfl
      · exact (at0_ev hnx).symm
      · exact (t5_ (y := y) (s := ⟨.a98, i, gone, cnt, (S : Int), tv, bk, K, N, F, g, As, (S : Int) :: z :: R⟩)).symm
      · refine Eq.trans ?_ (ev_sub (ev_i (at0_ev hnx) (by show _ ≤ (at_ g (nxIx y.n (S : Int)) : Int); omega) (by show (at_ g (nxIx y.n (S : Int)) : Int) < _; omega)) (b := l 1) (y := 1) rfl (by show _ ≤ (at_ g (nxIx y.n (S : Int)) : Int) - 1; omega) (by show (at_ g (nxIx y.n (S : Int)) : Int) - 1 < _; omega)).symm
        show z = (at_ g (nxIx y.n (S : Int)) : Int) - 1
        omega
  | a99 =>
    refine agree_u hro (θ := []) (fun p hp => by cases hp) rfl rfl bi bc (fun _ => rfl) (fun _ => rfl) (fun _ => rfl) (fun _ => rfl) (fun _ => rfl) (fun _ => rfl) (fun _ => rfl) ?_
    exact rec_set rT0 lock_ev (y := 0) rfl (by show 4 * y.n < g.length; omega)
  | a100 =>
    simp only [Tr.cur] at hcur
    obtain ⟨⟨B, rfl⟩, _⟩ := hcur
    have hb := hbd sl (by simp)
    obtain ⟨S, rfl⟩ : ∃ S : Nat, sl = (S : Int) := ⟨sl.toNat, by omega⟩
    have hf := ev_first (σ := y.σT ⟨.a100, i, gone, cnt, (S : Int), tv, bk, K, N, F, g, As, (S : Int) :: B⟩) hx (s := v 5) t5_ (by omega)
    refine agree_u hro (θ := [(9, at0 (firstE y.n (v 5)))]) (fun p hp => ?_) rfl rfl bi bc (fun _ => rfl) (fun _ => rfl) (fun _ => rfl) (fun _ => rfl) (fun _ => rfl) (fun h => by cases h) (fun _ => rfl) rT0
    simp only [List.mem_cons, List.not_mem_nil, or_false] at hp
    subst hp
    exact (at0_ev hf).symm
  | a101 =>
    simp only [Tr.cur] at hcur
    obtain ⟨⟨B, rfl⟩, _⟩ := hcur
    have hb := hbd sl (by simp)
    obtain ⟨S, rfl⟩ : ∃ S : Nat, sl = (S : Int) := ⟨sl.toNat, by omega⟩
    have hnx := ev_next (σ := y.σT ⟨.a101, i, gone, cnt, (S : Int), tv, bk, K, N, F, g, As, (S : Int) :: B⟩) hx (s := v 5) t5_ (by omega)
    refine agree_u hro (θ := [(7, at0 (nextE y.n (v 5)))]) (fun p hp => ?_) rfl rfl bi bc (fun _ => rfl) (fun _ => rfl) (fun _ => rfl) (fun h => by cases h) (fun _ => rfl) (fun _ => rfl) (fun _ => rfl) rT0
    simp only [List.mem_cons, List.not_mem_nil, or_false] at hp
    subst hp
    exact (at0_ev hnx).symm
  | a102 =>
    simp only [Tr.cur] at hcur
    obtain ⟨⟨B, rfl⟩, htv, _⟩ := hcur
    have htv2 : tv = -1 ∨ 0 ≤ tv ∧ tv < 8 := by
      rw [htv]
      rcases List.eq_nil_or_concat As with rfl | ⟨As', z, rfl⟩
      · exact Or.inl rfl
      · rw [List.concat_eq_append, to_last]
        exact Or.inr (hbd z (by simp))
    refine agree_u hro (θ := []) (fun p hp => by cases hp) rfl rfl bi bc (fun _ => rfl) (fun _ => rfl) (fun _ => rfl) (fun _ => rfl) (fun _ => rfl) (fun _ => rfl) (fun _ => rfl) ?_
    show LsRec _ (set0 L0 (if decide (tv = -1) then shelfE y.n else nextE y.n (v 8)) (v 7)) (one (natsI (g.set (if tv = -1 then 4 * y.n + 1 else nxIx y.n tv) N)))
    by_cases ht : tv = -1
    · rw [decide_eq_true ht, if_pos rfl, if_pos ht]
      exact rec_set rT0 shelf_ev t7_ (by show 4 * y.n + 1 < g.length; omega)
    · rw [decide_eq_false ht, if_neg (by decide), if_neg ht]
      have hb := htv2.resolve_left ht
      obtain ⟨S, rfl⟩ : ∃ S : Nat, tv = (S : Int) := ⟨tv.toNat, by omega⟩
      have hnx := ev_next (σ := y.σT ⟨.a102, i, gone, cnt, sl, (S : Int), bk, K, N, F, g, As, sl :: B⟩) hx (s := v 8) t8_ (by omega)
      exact rec_set rT0 hnx t7_ (by show nxIx y.n (S : Int) < g.length; unfold nxIx; omega)
  | a103 =>
    refine agree_u hro (θ := [(10, l 95)]) (fun p hp => ?_) rfl rfl bi bc (fun _ => rfl) (fun _ => rfl) (fun _ => rfl) (fun _ => rfl) (fun _ => rfl) (fun _ => rfl) (fun h => by cases h) ?_
    · simp only [List.mem_cons, List.not_mem_nil, or_false] at hp
      subst hp
      rfl
    · have hh : at_ g (4 * y.n + 2) = (As ++ Bs).length + 1 := hhd
      exact rec_set rT0 held_ev (ev_dec (at0_ev held_ev) (by show 1 ≤ at_ g (4 * y.n + 2); omega) (by show at_ g (4 * y.n + 2) < _; omega)) (by show 4 * y.n + 2 < g.length; omega)
  | a76 =>
    simp only [Tr.cur] at hcur
    obtain ⟨_, h0, h1, _⟩ := hcur
    obtain ⟨S, rfl⟩ : ∃ S : Nat, sl = (S : Int) := ⟨sl.toNat, by omega⟩
    have hf := ev_first (σ := y.σT ⟨.a76, i, gone, cnt, (S : Int), tv, bk, K, N, F, g, As, Bs⟩) hx (s := v 5) t5_ (by omega)
    have hf1 := ev_first1 (σ := y.σT ⟨.a76, i, gone, cnt, (S : Int), tv, bk, K, N, F, g, As, Bs⟩) hx (s := v 5) t5_ (by omega)
    refine agree_u hro (θ := []) (fun p hp => by cases hp) rfl rfl bi bc (fun _ => rfl) (fun _ => rfl) (fun _ => rfl) (fun _ => rfl) (fun _ => rfl) (fun _ => rfl) (fun _ => rfl) ?_
    have r1 := rec_set (x := l 0) (y := 0) rT0 hf rfl (by show fsIx y.n (S : Int) < g.length; unfold fsIx; omega)
    exact rec_set r1 hf1 (y := 0) rfl (by rw [List.length_set]; show ctIx y.n (S : Int) < g.length; unfold ctIx; omega)
  | a77 =>
    refine agree_u hro (θ := []) (fun p hp => by cases hp) rfl rfl bi bc (fun _ => rfl) (fun _ => rfl) (fun _ => rfl) (fun _ => rfl) (fun _ => rfl) (fun _ => rfl) (fun _ => rfl) ?_
    exact rec_set rT0 lock_ev (y := 0) rfl (by show 4 * y.n < g.length; omega)
  | a78 =>
    refine agree_t hro (θv := [(2, add (v 2) (l 1)), (4, if (0 : Int) = 0 then v 4 else add (v 4) (l 0)), (3, add (v 3) (l 1))]) (fun p hp => ?_) (fun h => by cases h) (fun h => by cases h) (fun h => by cases h) (fun _ => rfl) (fun _ => rfl) (fun _ => rfl) (fun _ => rfl) (fun _ => rfl) (fun _ => rfl) rT0
    simp only [List.mem_cons, List.not_mem_nil, or_false] at hp
    rcases hp with rfl | rfl | rfl
    · exact (ev_add t2_ (b := l 1) (y := 1) rfl (by dsimp only; omega) (by dsimp only; omega)).symm
    · show (cnt : Int) = (if (0 : Int) = 0 then v 4 else add (v 4) (l 0)).ev _
      rw [if_pos rfl]
      exact (t4_ (y := y) (s := ⟨.a78, i, gone, cnt, sl, tv, bk, K, N, F, g, As, Bs⟩)).symm
    · exact (ev_add t3_ (b := l 1) (y := 1) rfl (by dsimp only; omega) (by dsimp only; omega)).symm
omit hg in
/-- THE LOOP OF STEPS -/
theorem ln_S {ro : Nat → Option (Option Addr × Nat × Nat)} (hro : ∀ i p, ro i = some p → 40 ≤ i ∧ i < 43) {σ0 : Nat → Int} (hin : AgreeD (LS y.n y.e1).th ⟨250, 12, 0, 100⟩ ro σ0 Ωn (y.σT y.t0) Ωn) (hout : AgreeD {} ⟨250, 12, 0, 100⟩ ro (y.σT y.tF) Ωn σ0 Ωn)
    (fs : List (Cnd × Bool)) (ok : ∀ q ∈ fs, q.1.ev σ0 = q.2) (c : Code) (hc : c ∈ loopsOf (bodyOf Try.prog 3)) (hck : loopId c = some (LS y.n y.e1).key) : @LnOk (nums [] rks ro σ0 Ωn fs ok) Try.prog (ntOf Try.prog 3) c (LS y.n y.e1) := by
  have tgj := fun j hj => (h.tg j hj).1
  refine ln_okT [] rks ro mixed (f := 3) (l := LS y.n y.e1) (n := 40) (kx := fun j _ => kgs (y.kct (y.tS j))) (lns := fun _ => []) (Fm := fun j => y.Fm (y.tS j)) (Fm' := fun j => y.Fm (tnx y.n y.u (y.tS j))) (dt := fun j => y.dt (y.tS j)) (fs0 := fun j => y.fs0 (y.tS j))
    (fun j => j ≤ y.m) (fun j hj => ?_) (by kernel_rfl) ?_ rfl (fun j hj => ?_) (fun j => y.m - j) (fun j => y.σT (y.tS j)) (fun _ => Ωn) (fun j hj q hq => ?_) (fun j hj => ?_) (fun _ _ => lnAll_nil) 0 (Nat.zero_le _) rfl hin (fun j hj => ?_) fs ok c hc hck
  · exact run_t h
  · cases y.e1 <;> rfl
  · show Nat.ble (tn y.e1 + 1) 100 = true
    cases y.e1 <;> rfl
  · have h1 := fB_ok h (tgj j hj)
    have h2 := ft_ok h (tgj j hj)
    unfold fs0 at hq
    split at hq
    · exact h1 q hq
    · rcases List.mem_append.1 hq with hq | hq
      · exact h1 q hq
      · exact h2 q hq
  · have := kcs_t h (tgj j hj) (ro := ro)
    exact fun fs ok a args k hk => this fs ok args k hk
  · by_cases hjm : j = y.m
    · subst hjm
      have hp : (y.tS y.m).pc = .fin := h.fin
      have e : y.dt (y.tS y.m) = .leaf (.out {}) := by unfold dt; rw [hp]
      simp only [e]
      exact hout
    · have hp := (h.tg j hj).2 (by omega)
      have e : y.dt (y.tS j) = .leaf (.cont (y.th (y.tS j))) := by
        unfold dt
        split
        · rename_i hp2; exact absurd hp2 hp
        · rfl
      simp only [e]
      exact ⟨j + 1, by omega, rfl, by omega, th_ok h (tgj j hj) hro hp⟩
end
end La
end Go.Proofs.Ytmfemophafncnaa.Ft

/-
  wainscotlaw25.FlushTrims: the loop of what is wanted, calls, facts. No condition.
-/
namespace Go.Proofs.Ytmfemophafncnaa.Ft
open Go Ex Mem See Fast Back
open Go.RowKit
/-! what is seen, as numbers -/
theorem slotVal_of {σ : Nat → Int} : ∀ (L : List SlotP) (n b : Nat), L.length = n → (∀ (j : Nat) s, L[j]? = some s → σ (b + 4 * j) = s.slab ∧ σ (b + 4 * j + 1) = s.list.length ∧ σ (b + 4 * j + 2) = s.turn ∧ σ (b + 4 * j + 3) = s.parts.length) → SlotValL σ L n b
  | [], 0, _, _, _ => trivial
  | [], _ + 1, _, h, _ => by cases h
  | _ :: _, 0, _, h, _ => by cases h
  | s :: L, n + 1, b, hl, h => by
    refine ⟨h 0 s rfl, slotVal_of L n (b + 4) (by simpa using hl) fun j s' hj => ?_⟩
    have := h (j + 1) s' (by simpa using hj)
    rw [show b + 4 + 4 * j = b + 4 * (j + 1) by omega]
    exact this
theorem slabVal_of {σ : Nat → Int} : ∀ (L : List SlabP) (n b : Nat), L.length = n → (∀ (j : Nat) s, L[j]? = some s → σ (b + 5 * j) = s.counts.inuse ∧ σ (b + 5 * j + 1) = s.counts.objects ∧ (s.counts.frozen = !(σ (b + 5 * j + 2) == 0)) ∧ (s.counts.live = !(σ (b + 5 * j + 3) == 0)) ∧ σ (b + 5 * j + 4) = s.first.length) → SlabValL σ L n b
  | [], 0, _, _, _ => trivial
  | [], _ + 1, _, h, _ => by cases h
  | _ :: _, 0, _, h, _ => by cases h
  | s :: L, n + 1, b, hl, h => by
    refine ⟨h 0 s rfl, slabVal_of L n (b + 5) (by simpa using hl) fun j s' hj => ?_⟩
    have := h (j + 1) s' (by simpa using hj)
    rw [show b + 5 + 5 * j = b + 5 * (j + 1) by omega]
    exact this
theorem coreNo_slot {K : CoreP} {n j r : Nat} {s : SlotP} (hj : j < n) (hs : K.slots[j]? = some s) (hr : r < 4) : coreNo K n (4 * j + r) = slotNo s r := by
  unfold coreNo
  rw [if_pos (by omega), show (4 * j + r) / 4 = j by omega, show (4 * j + r) % 4 = r by omega, hs]
  rfl
theorem coreNo_slab {K : CoreP} {n j r : Nat} {s : SlabP} (hs : K.slabs[j]? = some s) (hr : r < 5) : coreNo K n (4 * n + 2 + 5 * j + r) = slabNo s r := by
  unfold coreNo
  rw [if_neg (by omega), if_neg (by omega), if_neg (by omega), show (4 * n + 2 + 5 * j + r - (4 * n + 2)) / 5 = j by omega, show (4 * n + 2 + 5 * j + r - (4 * n + 2)) % 5 = r by omega, hs]
  rfl
theorem coreNo_lock {K : CoreP} {n : Nat} : coreNo K n (4 * n + 1) = if K.locked then 1 else 0 := by
  unfold coreNo
  rw [if_neg (by omega), if_neg (by omega), if_pos rfl]
theorem seeVal_of {σ : Nat → Int} {K : CoreP} {n b q : Nat} {e : Bool} (hn : 0 < n) (h1 : K.slots.length = n) (h2 : K.slabs.length = 8) (he : e = K.shelf.isEmpty) (hv : LsVal σ q K.shelf) (h : ∀ i, i < 4 * n + 42 → σ (b + i) = coreNo K n i) : SeeValX σ K n e b q := by
  refine ⟨slotVal_of _ _ _ h1 fun j s hj => ?_, ⟨he, hv, ?_⟩, slabVal_of _ _ _ h2 fun j s hj => ?_, hn⟩
  · have hjn : j < n := by have := (List.getElem?_eq_some_iff.1 hj).1; omega
    have e : ∀ r, r < 4 → σ (b + 4 * j + r) = slotNo s r := fun r hr => by
      rw [Nat.add_assoc, h (4 * j + r) (by omega), coreNo_slot hjn hj hr]
    exact ⟨e 0 (by omega), e 1 (by omega), e 2 (by omega), e 3 (by omega)⟩
  · rw [Nat.add_assoc, h (4 * n + 1) (by omega), coreNo_lock]
    cases K.locked <;> rfl
  · have hjn : j < 8 := by have := (List.getElem?_eq_some_iff.1 hj).1; omega
    have e : ∀ r, r < 5 → σ (b + 4 * n + 2 + 5 * j + r) = slabNo s r := fun r hr => by
      rw [show b + 4 * n + 2 + 5 * j + r = b + (4 * n + 2 + 5 * j + r) by omega, h (4 * n + 2 + 5 * j + r) (by omega), coreNo_slab hj hr]
    have e2 := e 2 (by omega)
    have e3 := e 3 (by omega)
    refine ⟨e 0 (by omega), e 1 (by omega), ?_, ?_, e 4 (by omega)⟩
    · rw [e2]
      show _ = !((if s.counts.frozen then (1 : Int) else 0) == 0)
      cases s.counts.frozen <;> rfl
    · rw [e3]
      show _ = !((if s.counts.live then (1 : Int) else 0) == 0)
      cases s.counts.live <;> rfl
/-- EqInts of two that are empty -/
theorem run_eq0 : treeC Try.prog [] rks (kgs []) [] 30 11 [.zsl, .nilsl] ⟨[], [], ⟨0, 0, 0, 0⟩⟩ ((kcEq true).leaf {}) [] = true := by kernel_rfl
theorem fn_eqI : FnOk Try.prog 11 := ⟨Try.f11, _, Try.func11, by kernel_rfl, rfl⟩
theorem wf_small {z : Int} (h0 : 0 ≤ z) (h1 : z < 8) : (Lit.int .i64 z).wf = true := by
  have : z = 0 ∨ z = 1 ∨ z = 2 ∨ z = 3 ∨ z = 4 ∨ z = 5 ∨ z = 6 ∨ z = 7 := by omega
  rcases this with rfl | rfl | rfl | rfl | rfl | rfl | rfl | rfl <;> rfl
namespace La
section
variable {y : La} (h : y.Ok) {ro : Nat → Option (Option Addr × Nat × Nat)}
/-- the reading of the whole -/
def σL (y : La) : Nat → Int := y.σT y.tF
def Bj (y : La) (j : Nat) : List Int := (y.A.take j).filter fun z => decide (0 < y.u z.toNat)
def vQ (y : La) (j i : Nat) : Int := if i = 36 then j else y.vT y.tF i
def lQ (y : La) (j q : Nat) : List (List Int) := if q = 14 then one (y.Bj j) else y.lT y.tF q
def σQ (y : La) (j : Nat) : Nat → Int := sg (y.vQ j) (y.lQ j)
theorem Bj_end : y.Bj y.A.length = y.B := by unfold Bj B; rw [List.take_length]
theorem Bj_le {j : Nat} : (y.Bj j).length ≤ y.A.length := Nat.le_trans (List.length_filter_le _ _) (by rw [List.length_take]; omega)
theorem Bj_succ {j : Nat} {z : Int} (hz : y.A[j]? = some z) : y.Bj (j + 1) = if 0 < y.u z.toNat then y.Bj j ++ [z] else y.Bj j := by
  obtain ⟨hl, he⟩ := List.getElem?_eq_some_iff.1 hz
  unfold Bj
  rw [List.take_succ_eq_append_getElem hl, List.filter_append, he]
  by_cases hu : 0 < y.u z.toNat
  · rw [if_pos hu]; simp [hu]
  · rw [if_neg hu]; simp [hu]
theorem evQ {i j : Nat} (hi : i < 2048) : (v i).ev (y.σQ j) = y.vQ j i := ev_v hi
theorem q36 {j : Nat} : (v 36).ev (y.σQ j) = (j : Int) := by rw [evQ (by omega)]; rfl
theorem r11 {j : Nat} : LsRec (y.σQ j) (.lvar 11) (one y.A) := LsRec.var' (by omega) rfl
theorem r14 {j : Nat} : LsRec (y.σQ j) (.lvar 14) (one (y.Bj j)) := LsRec.var' (by omega) rfl
theorem len_rec {σ : Nat → Int} {L : SE} {g : List Int} (hL : LsRec σ L (one g)) : (SE.len L).ev σ = (g.length : Int) := by
  show ((L.evN σ : Nat) : Int) = _
  rw [hL.len, one_len]
include h
theorem bdA {z : Int} (hz : z ∈ y.A) : 0 ≤ z ∧ z < 8 := h.sd.bd z hz
theorem lenA : y.A.length ≤ 8 := few h.sd.nd h.sd.bd
omit h in
theorem at11 {j : Nat} {z : Int} (hz : y.A[j]? = some z) : (SE.at (.lvar 11) (v 36) 0).ev (y.σQ j) = z := by
  rw [rec_atI r11 q36, List.getD_eq_getElem?_getD, hz]
  rfl
/-- what is seen of a slab of the shelf -/
theorem useA {j : Nat} {z : Int} (hz : y.A[j]? = some z) : (v (100 + 4 * y.n + 2 + 5 * z.toNat)).ev (y.σQ j) = (y.u z.toNat : Int) := by
  have hb := bdA h (List.mem_of_getElem? hz)
  have hn := h.x.n4
  have hn : y.n ≤ 4 := hn
  obtain ⟨b, hb1, hb2⟩ := h.in1 z (List.mem_of_getElem? hz)
  rw [evQ (by omega)]
  unfold vQ
  rw [if_neg (by omega), vT_C (by omega) (by omega)]
  unfold vC
  rw [if_neg (by omega), if_neg (by omega), if_pos (by omega), show 100 + 4 * y.n + 2 + 5 * z.toNat - 100 = 4 * y.n + 2 + 5 * z.toNat + 0 by omega, coreNo_slab hb1 (by omega)]
  show (b.counts.inuse : Int) = _
  rw [hb2]
theorem fQ_ok {j : Nat} (hj : j ≤ y.A.length) : ∀ q ∈ fQ, q.1.ev (y.σQ j) = q.2 := by
  intro q hq
  have h8 := lenA h
  have hb := Bj_le (y := y) (j := j)
  simp only [fQ, List.append_assoc, List.mem_append] at hq
  rcases hq with hq | hq | hq
  · exact rng_ok q36 (by omega) (by omega) q hq
  · exact rng_ok (len_rec r11) (by omega) (by omega) q hq
  · exact rng_ok (len_rec r14) (by omega) (by omega) q hq
omit h in
def we (y : La) (j : Nat) : Bool := (y.Bj j).isEmpty
omit h in
def slJ (y : La) (j : Nat) : Nat := (y.A.getD j 0).toNat
omit h in
def kept (y : La) (j : Nat) : Bool := decide (0 < y.u (y.slJ j))
omit h in
theorem agree_q (hro : ∀ i p, ro i = some p → 40 ≤ i ∧ i < 43) {j j' : Nat} {θ : Sub} (h36 : y.vQ j' 36 = (θ.vAt 36).ev (y.σQ j)) (hv : ∀ i, i ≠ 36 → θ.vAt i = .var i) (h14 : LsRec (y.σQ j) (θ.lAt 14) (one (y.Bj j'))) (hl : ∀ q, q ≠ 14 → θ.lAt q = .lvar q) :
    AgreeD θ ⟨290, 15, 0, 140⟩ ro (y.σQ j) Ωn (y.σQ j') Ωn := by
  refine agree_sgR (fun i p hp => ?_) (by decide) (by decide) rfl (fun i hi => ?_) fun q hq => ?_
  · have hi := hro i p hp
    refine ⟨by omega, LsRec.var' (by omega) ?_⟩
    unfold lQ
    rw [if_neg (by omega), if_neg (by omega)]
  · have hi : i < 290 := hi
    by_cases h6 : i = 36
    · subst h6; exact h36
    · rw [hv i h6]
      show _ = (v i).ev (y.σQ j)
      rw [evQ (by omega)]
      unfold vQ
      rw [if_neg h6, if_neg h6]
  · have hq : q < 15 := hq
    by_cases h4 : q = 14
    · subst h4
      exact h14
    · rw [hl q h4]
      refine LsRec.var' (by omega) ?_
      unfold lQ
      rw [if_neg h4, if_neg h4]
omit h in
theorem he12 : y.e1 = true → y.e2 = true := by
  intro h1
  have : y.A = [] := List.isEmpty_iff.1 h1
  unfold e2 B
  rw [this]
  rfl
omit h in
theorem kept_B {j : Nat} {z : Int} (hz : y.A[j]? = some z) (hk : y.kept j = true) : y.e2 = false := by
  have hm : z ∈ y.B := by
    unfold B
    rw [List.mem_filter]
    refine ⟨List.mem_of_getElem? hz, ?_⟩
    unfold kept slJ at hk
    rw [List.getD_eq_getElem?_getD, hz] at hk
    exact hk
  unfold e2
  cases hb : y.B with
  | nil => rw [hb] at hm; cases hm
  | cons a l => rfl
omit h in
theorem we_e2 {j : Nat} (he : y.e2 = true) : y.we j = true := by
  have hB : y.B = [] := List.isEmpty_iff.1 he
  unfold we
  rw [List.isEmpty_iff]
  cases hb : y.Bj j with
  | nil => rfl
  | cons a l =>
    have h1 : a ∈ y.Bj j := by rw [hb]; exact List.mem_cons_self
    have h2 : a ∈ y.B := by
      unfold Bj at h1
      unfold B
      rw [List.mem_filter] at h1 ⊢
      exact ⟨List.mem_of_mem_take h1.1, h1.2⟩
    rw [hB] at h2
    cases h2
/-- THE LOOP OF WHAT IS WANTED -/
theorem ln_Q (hro : ∀ i p, ro i = some p → 40 ≤ i ∧ i < 43) (fs : List (Cnd × Bool)) (ok : ∀ q ∈ fs, q.1.ev y.σL = q.2) (c : Code) (hc : c ∈ loopsOf (bodyOf Try.prog 3)) (hck : loopId c = some (LQ y.n y.e1 y.e2).key) : @LnOk (nums [] rks ro y.σL Ωn fs ok) Try.prog (ntOf Try.prog 3) c (LQ y.n y.e1 y.e2) := by
  have a : 1 ≤ y.n := h.x.n1
  have b : y.n ≤ 4 := h.x.n4
  have h8 := lenA h
  have hgt : ∀ {j}, j < y.A.length → y.A[j]? = some (y.A.getD j 0) := fun hj => by rw [List.getD_eq_getElem?_getD, List.getElem?_eq_getElem hj]; rfl
  refine ln_okT [] rks ro mixed (f := 3) (l := LQ y.n y.e1 y.e2) (n := 40) (kx := fun j _ => if j < y.A.length then kgs [kcSl (y.slJ j)] else kgs []) (lns := fun _ => []) (Fm := fun j => TQ y.n y.e1 y.e2 (y.we j) true)
    (Fm' := fun j => if j < y.A.length then TQ y.n y.e1 y.e2 (y.we j && !y.kept j) true else TQ y.n y.e1 y.e2 y.e2 true) (dt := fun j => if j < y.A.length then .leaf (.cont (thQ (y.we j) (y.kept j))) else .leaf (.out {}))
    (fs0 := fun j => if j < y.A.length then fQ ++ [(.eq (l 1) (.len (snocE true)), true), (.lt (v 36) (.len (.lvar 11)), true), (.lt (l 0) (v (100 + 4 * y.n + 2 + 5 * y.slJ j)), y.kept j)] else fQ ++ [(.lt (v 36) (.len (.lvar 11)), false)])
    (fun j => j ≤ y.A.length) (fun j hj => ?_) (by kernel_rfl) ?_ rfl (fun j hj => ?_) (fun j => y.A.length - j) (fun j => y.σQ j) (fun _ => Ωn) (fun j hj q hq => ?_) (fun j hj => ?_) (fun _ _ => lnAll_nil) 0 (Nat.zero_le _) rfl ?_ (fun j hj => ?_) fs ok c hc hck
  · by_cases hlt : j < y.A.length
    · simp only [if_pos hlt]
      have he : y.e1 = false := by
        unfold e1
        cases hA : y.A with
        | nil => rw [hA] at hlt; cases hlt
        | cons z R => rfl
      have hs : y.slJ j < 8 := by have := bdA h (List.mem_of_getElem? (hgt hlt)); unfold slJ; omega
      rw [he]
      exact ok_Q a b hs y.e2 (y.we j) (y.kept j) we_e2 (fun h2 => by
        cases hk : y.kept j with
        | false => rfl
        | true => rw [kept_B (hgt hlt) hk] at h2; cases h2)
    · simp only [if_neg hlt]
      have hje : j = y.A.length := by omega
      have hwe : y.we j = y.e2 := by unfold we e2; rw [hje, Bj_end]
      rw [hwe]
      exact ok_Qe a b y.e1 y.e2 he12
  · cases y.e1 <;> cases y.e2 <;> rfl
  · show Nat.ble 118 140 = true
    rfl
  · by_cases hlt : j < y.A.length
    · simp only [if_pos hlt] at hq
      have hz := hgt hlt
      rcases List.mem_append.1 hq with hq | hq
      · exact fQ_ok h hj q hq
      · simp only [List.mem_cons, List.not_mem_nil, or_false] at hq
        rcases hq with rfl | rfl | rfl
        · rfl
        · exact lt_t q36 (len_rec r11) (by omega)
        · refine lt_d _ (a := l 0) (x := 0) rfl (useA h hz) ?_
          unfold kept slJ
          rw [decide_eq_decide]
          omega
    · simp only [if_neg hlt] at hq
      rcases List.mem_append.1 hq with hq | hq
      · exact fQ_ok h hj q hq
      · simp only [List.mem_cons, List.not_mem_nil, or_false] at hq
        subst hq
        exact lt_f q36 (len_rec r11) (by omega)
  · by_cases hlt : j < y.A.length
    · simp only [if_pos hlt]
      have hz := hgt hlt
      have hb := bdA h (List.mem_of_getElem? hz)
      have hk : KcAll [] rks ro Try.prog (y.σQ j) Ωn (kgs [kcSl (y.slJ j)]) := by
        refine kcAll_cons (fun fs ok => ?_) kcAll_nil
        letI N : Nums := nums [] rks ro (y.σQ j) Ωn fs ok
        exact kc_bringN (x := y.A.getD j 0) (n := 8) rfl rfl (congrArg (Value.int .i64) (at11 hz)) rfl (by omega) (by omega) (wf_small hb.1 hb.2) (by unfold slJ; omega)
      exact fun fs ok a args k hm => hk fs ok args k hm
    · simp only [if_neg hlt]
      exact fun fs ok a args k hm => kcAll_nil (gs := []) (rks := rks) (ro := ro) (P := Try.prog) (σ := y.σQ j) (Ω := Ωn) fs ok args k hm
  · show AgreeD _ ⟨290, 15, 0, 140⟩ _ _ _ _ _
    refine agree_sgR (fun i p hp => ?_) (by decide) (by decide) rfl (fun i hi => ?_) fun q hq => ?_
    · have hi := hro i p hp
      refine ⟨by omega, LsRec.var' (by omega) ?_⟩
      unfold lQ
      rw [if_neg (by omega)]
    · have hi : i < 290 := hi
      by_cases h6 : i = 36
      · subst h6; rfl
      · rw [vAt_ne (j := 36) (r := []) rfl (fun h => h6 h.symm), vAt_nil rfl]
        show _ = (v i).ev (y.σT y.tF)
        rw [tev (by omega)]
        unfold vQ
        rw [if_neg h6]
    · have hq : q < 15 := hq
      by_cases h4 : q = 14
      · subst h4
        exact LsRec.nil
      · rw [lAt_ne (j := 14) (r := []) rfl (fun h => h4 h.symm), lAt_nil rfl]
        refine LsRec.var' (by omega) ?_
        unfold lQ
        rw [if_neg h4]
  · by_cases hlt : j < y.A.length
    · simp only [if_pos hlt]
      have hz := hgt hlt
      have hs := Bj_succ hz
      have e36 : y.vQ (j + 1) 36 = (add (v 36) (l 1)).ev (y.σQ j) := by
        rw [ev_add q36 (b := l 1) (y := 1) rfl (by omega) (by omega)]
        show (((j + 1 : Nat)) : Int) = _
        omega
      refine ⟨j + 1, by omega, ?_, by omega, ?_⟩
      · have : y.we (j + 1) = (y.we j && !y.kept j) := by
          unfold we kept
          rw [hs]
          show _ = ((y.Bj j).isEmpty && !decide (0 < y.u (y.A.getD j 0).toNat))
          by_cases hu : 0 < y.u (y.A.getD j 0).toNat
          · rw [if_pos hu, decide_eq_true hu]
            cases y.Bj j <;> rfl
          · rw [if_neg hu, decide_eq_false hu]
            cases (y.Bj j).isEmpty <;> rfl
        rw [this]
      · show AgreeD _ ⟨290, 15, 0, 140⟩ _ _ _ _ _
        cases hk : y.kept j with
        | true =>
          have hu : 0 < y.u (y.A.getD j 0).toNat := of_decide_eq_true hk
          rw [if_pos hu] at hs
          refine agree_q hro e36 (fun i hi => ?_) ?_ (fun q hq => ?_)
          · rw [vAt_ne (j := 36) (r := []) rfl (fun h => hi h.symm), vAt_nil rfl]
          · show LsRec _ (snocE (y.we j)) _
            rw [hs]
            unfold snocE
            refine LsRec.snoc ?_ (at11 hz)
            cases hw : y.we j with
            | true =>
              have : y.Bj j = [] := List.isEmpty_iff.1 hw
              rw [this]
              exact LsRec.nil
            | false => exact r14
          · rw [lAt_ne (j := 14) (r := []) rfl (fun h => hq h.symm), lAt_nil rfl]
        | false =>
          have hu : ¬ 0 < y.u (y.A.getD j 0).toNat := of_decide_eq_false hk
          rw [if_neg hu] at hs
          refine agree_q hro e36 (fun i hi => ?_) ?_ (fun q hq => ?_)
          · rw [vAt_ne (j := 36) (r := []) rfl (fun h => hi h.symm), vAt_nil rfl]
          · rw [hs, lAt_nil rfl]
            exact r14
          · rw [lAt_nil rfl]
    · simp only [if_neg hlt]
      have hje : j = y.A.length := by omega
      subst hje
      show AgreeD {} ⟨290, 15, 0, 140⟩ _ _ _ _ _
      refine agree_sgR (fun i p hp => ?_) (by decide) (by decide) rfl (fun i hi => ?_) fun q hq => ?_
      · have hi := hro i p hp
        refine ⟨by omega, LsRec.var' (by omega) ?_⟩
        unfold lQ
        rw [if_neg (by omega)]
      · have hi : i < 290 := hi
        rw [vAt_nil rfl]
        show _ = (v i).ev (y.σQ y.A.length)
        rw [evQ (by omega)]
        unfold vQ
        by_cases h6 : i = 36
        · subst h6; rfl
        · rw [if_neg h6]
      · have hq : q < 15 := hq
        rw [lAt_nil rfl]
        by_cases h4 : q = 14
        · subst h4
          refine LsRec.var' (by omega) ?_
          show one (y.Bj y.A.length) = one y.B
          rw [Bj_end]
        · refine LsRec.var' (by omega) ?_
          unfold lQ
          rw [if_neg h4]
end
end La
end Go.Proofs.Ytmfemophafncnaa.Ft

/-
  wainscotlaw25.FlushTrims: the whole. No condition.
-/
namespace Go.Proofs.Ytmfemophafncnaa.Ft
open Go Ex Mem See Fast Back
open Go.RowKit Go.ChangeShapes
theorem Sd.upTo {n O : Nat} {g : List Nat} {A : List Int} {P : Nat → List Int} {u : Nat → Nat} {lk hd : Nat} : ∀ (d t : Nat), t + d = 8 → Sd n O g A P u lk hd t → Sd n O g A P u lk hd 8
  | 0, t, h, hs => by
    obtain rfl : t = 8 := by omega
    exact hs
  | d + 1, t, h, hs => Sd.upTo d (t + 1) (by omega) (hs.up (by omega))
/-- the three slices of a world -/
def roW3 (A0 : Option Addr) (l0 c0 : Nat) (A1 : Option Addr) (l1 c1 : Nat) (A2 : Option Addr) (l2 c2 : Nat) (i : Nat) : Option (Option Addr × Nat × Nat) := if i = 40 then some (A0, l0, c0) else if i = 41 then some (A1, l1, c1) else if i = 42 then some (A2, l2, c2) else none
theorem roW3_in {A0 : Option Addr} {l0 c0 : Nat} {A1 : Option Addr} {l1 c1 : Nat} {A2 : Option Addr} {l2 c2 : Nat} : ∀ i p, roW3 A0 l0 c0 A1 l1 c1 A2 l2 c2 i = some p → 40 ≤ i ∧ i < 43 := fun i p h => by
  unfold roW3 at h
  repeat' split at h
  · omega
  · omega
  · omega
  · cases h
namespace La
section
variable {y : La} (h : y.Ok) {ro : Nat → Option (Option Addr × Nat × Nat)}
include h
theorem done : Sd y.n y.O y.tF.g y.B y.P y.u 0 y.B.length 8 ∧ y.tF.gone + y.B.length = y.A.length ∧ y.tF.cnt ≤ y.c.cnt + 400 ∧ y.tF.gone ≤ 400 := TG.done (h.tg y.m (Nat.le_refl _)).1 h.fin
theorem see1_at {i : Nat} (hi : i < 4 * y.n + 42) : y.σL (100 + i) = coreNo y.K1 y.n i := by
  have hn : y.n ≤ 4 := h.x.n4
  show (v (100 + i)).ev (y.σT y.tF) = _
  rw [tev (by omega), vT_C (by omega) (by omega)]
  unfold vC
  rw [if_neg (by omega), if_neg (by omega), if_pos (by omega), show 100 + i - 100 = i by omega]
theorem see2_at {i : Nat} (hi : i < 4 * y.n + 42) : y.σL (200 + i) = coreNo y.K2 y.n i := by
  have hn : y.n ≤ 4 := h.x.n4
  show (v (200 + i)).ev (y.σT y.tF) = _
  rw [tev (by omega), vT_C (by omega) (by omega)]
  unfold vC
  rw [if_neg (by omega), if_neg (by omega), if_neg (by omega), if_pos (by omega), show 200 + i - 200 = i by omega]
omit h in
theorem w9 : LsRec y.σL (.lvar 9) (one (natsI y.c.g)) := LsRec.var' (by omega) rfl
omit h in
theorem w10 : LsVal y.σL 10 (natsI y.c.g) := ls_sg (by omega) rfl
omit h in
theorem w10r : LsRec y.σL (.lvar 10) (one (natsI y.c.g)) := LsRec.var' (by omega) rfl
omit h in
theorem w12r : LsRec y.σL (.lvar 12) (one (natsI y.tF.g)) := LsRec.var' (by omega) rfl
omit h in
theorem w11 : LsRec y.σL (.lvar 11) (one y.A) := LsRec.var' (by omega) rfl
omit h in
theorem w12 : LsVal y.σL 12 (natsI y.tF.g) := ls_sg (by omega) rfl
omit h in
theorem w13 : LsRec y.σL (.lvar 13) (one y.B) := LsRec.var' (by omega) rfl
omit h in
theorem w14 : LsRec y.σL (.lvar 14) (one y.B) := LsRec.var' (by omega) rfl
theorem ch_ok : COk (cO y.n y.O) y.x.mn 4 := by
  have a1 : 1 ≤ y.n := h.x.n1
  have a2 : y.n ≤ 4 := h.x.n4
  have a3 : 1 ≤ y.O := h.x.O1
  have a4 : y.O ≤ 16 := h.x.O16
  have a5 := h.x.mn
  refine ⟨?_, by show (11 : Nat) < _; omega⟩
  unfold chartPlaces.Ok
  show (1 : Int) ≤ ((y.n : Nat) : Int) ∧ ((y.n : Nat) : Int) ≤ 8 ∧ (1 : Int) ≤ ((8 : Nat) : Int) ∧ ((8 : Nat) : Int) ≤ 32 ∧ (1 : Int) ≤ ((y.O : Nat) : Int) ∧ ((y.O : Nat) : Int) ≤ 16 ∧ _
  omega
theorem ch_val : Ex.valOf y.σL (.agg (chL (y.n : Int))) = cV (cO y.n y.O) y.x.mn 4 := by
  have e1 : kE.ev y.σL = (y.O : Int) := ev_k h.x.toOk t0_
  have e2 : (v 1).ev y.σL = (y.x.mn : Int) := t1_
  unfold chL
  simp only [Ex.valOf, valsOf, e1, e2]
  rfl
/-- its calls -/
theorem kcs_L (hro : ∀ i p, ro i = some p → 40 ≤ i ∧ i < 43) : KcAll [] rks ro Try.prog y.σL Ωn (kgL y.n y.e1 y.e2) := by
  have a1 : 1 ≤ y.n := h.x.n1
  have a2 : y.n ≤ 4 := h.x.n4
  have a3 : 1 ≤ y.O := h.x.O1
  have a4 : y.O ≤ 16 := h.x.O16
  have hd := done h
  have l1 : y.c.g.length = 4 * y.n + 36 + 8 * y.O := h.sd.len
  have l2 : y.tF.g.length = 4 * y.n + 36 + 8 * y.O := hd.1.len
  have hlB : y.B.length ≤ 8 := few hd.1.nd hd.1.bd
  have hw : (wordsE (y.n : Int)).ev y.σL = ((4 * y.n + 36 + 8 * y.O : Nat) : Int) := ev_words h.x.toOk (c := y.x.toCn) t0_
  refine kcAll_more (kcAll_cons (fun fs ok => ?_) (kcAll_cons (fun fs ok => ?_) (kcAll_cons (fun fs ok => ?_) (kcAll_cons (fun fs ok => ?_) (kcAll_cons (fun fs ok => ?_) kcAll_nil))))) ?_
  · cases he : y.e2 with
    | true =>
      refine kc_tree (σ1 := y.σL) (Ω1 := Ωn) (A := [.zsl, .nilsl]) (pre := []) (B0 := ⟨0, 0, 0, 0⟩) (θ0 := {}) (kcs := kgs []) (lns := []) (n := 30) (k := kcEq true) (d := (kcEq true).leaf {}) (fs1 := []) mixed fn_eqI rfl rfl rfl rfl rfl kcAll_nil lnAll_nil (fun q hq => by cases hq) run_eq0 ?_ ?_ fs ok
      · exact agree_sgR (fun j p hp => ⟨by have := hro j p hp; omega, LsRec.var (by have := hro j p hp; omega)⟩) (by decide) (by decide) rfl (fun j hj => absurd hj (Nat.not_lt_zero j)) fun j hj => absurd hj (Nat.not_lt_zero j)
      · refine ⟨{}, ⟨0, 0, 0, rel⟩, rfl, rfl, rfl, ?_⟩
        exact agree_sgR (fun j p hp => ⟨by have := hro j p hp; omega, LsRec.var (by have := hro j p hp; omega)⟩) (by decide) (by decide) rfl (fun j hj => absurd hj (Nat.not_lt_zero j)) fun j hj => absurd hj (Nat.not_lt_zero j)
    | false =>
      letI N : Nums := nums [] rks ro y.σL Ωn fs ok
      exact kc_eqInts (g := y.B) (by decide) (by decide) w13.is w14.is (len_rec w13) (len_rec w14) (by omega)
  · exact Wo.kc h.x hro (v2 := y.vT y.tF) (l2 := y.lT y.tF) rfl rfl rfl rfl rfl rfl rfl rfl rfl rfl rfl rfl fs ok
  · letI N : Nums := nums [] rks ro y.σL Ωn fs ok
    exact kc_clone (g := y.c.g) (by decide) w9.is (by rw [l1]; exact hw) (by omega) (by omega) w10
  · letI N : Nums := nums [] rks ro y.σL Ωn fs ok
    exact kc_clone (g := y.tF.g) (by decide) (rT0 (y := y) (s := y.tF)).is (by rw [l2]; exact hw) (by omega) (by omega) w12
  · letI N : Nums := nums [] rks ro y.σL Ωn fs ok
    refine kc_pure rfl rfl rfl rfl rfl fn_works fun _ W w m hO => ?_
    exact (works_in hO).mono fun e w' hh => hh
  · intro fs ok args k hk
    letI N : Nums := nums [] rks ro y.σL Ωn fs ok
    unfold kgX at hk
    split at hk
    · rename_i nm _
      split at hk
      · rename_i hb
        have hnm : nm < rel := by
          have h6 : nm < 600000 := by simpa using hb
          exact h6
        rw [List.mem_singleton] at hk
        subst hk
        exact kc_seeX (c := cO y.n y.O) (g := y.c.g) (K := y.K1) hnm (ch_val h) (ch_ok h) h.sd.w64 (by rw [l1]; unfold Ch.words; show _ = 4 * y.n + 4 + 4 * 8 + 8 * y.O; omega) w10 h.see1 (seeVal_of (by omega) h.sl1 h.sb1 (by rw [h.sh1]; rfl) (by rw [h.sh1]; exact ls_sg (by omega) rfl) fun i hi => see1_at h hi)
      · cases hk
    · rename_i nm _
      split at hk
      · rename_i hb
        have hnm : nm < rel := by
          have h6 : nm < 600000 := by simpa using hb
          exact h6
        rw [List.mem_singleton] at hk
        subst hk
        exact kc_seeX (c := cO y.n y.O) (g := y.tF.g) (K := y.K2) hnm (ch_val h) (ch_ok h) hd.1.w64 (by rw [l2]; unfold Ch.words; show _ = 4 * y.n + 4 + 4 * 8 + 8 * y.O; omega) w12 h.see2 (seeVal_of (by omega) h.sl2 h.sb2 (by rw [h.sh2]; rfl) (by rw [h.sh2]; exact ls_sg (by omega) rfl) fun i hi => see2_at h hi)
      · cases hk
    · cases hk
/-- its loops -/
theorem lns_L (hro : ∀ i p, ro i = some p → 40 ≤ i ∧ i < 43) : LnAll [] rks ro Try.prog 3 y.σL Ωn [LS y.n y.e1, LQ y.n y.e1 y.e2] := by
  refine lnAll_cons (fun fs ok c hc hck => ?_) (lnAll_cons (fun fs ok c hc hck => ?_) lnAll_nil)
  · refine ln_S h hro ?_ ?_ fs ok c hc hck
    · refine agree_t (s := y.tF) (s' := y.t0) hro (θv := [(2, l 0), (3, l 0), (4, v 34), (5, l 0), (6, l 0), (7, l 0), (8, l 0), (9, l 0), (10, l 0)]) (L := .lvar 9) (fun p hp => ?_) (fun h => by cases h) (fun h => by cases h) (fun h => by cases h) (fun h => by cases h) (fun h => by cases h) (fun h => by cases h) (fun h => by cases h) (fun h => by cases h) (fun h => by cases h) w9
      simp only [List.mem_cons, List.not_mem_nil, or_false] at hp
      rcases hp with rfl | rfl | rfl | rfl | rfl | rfl | rfl | rfl | rfl
      · rfl
      · rfl
      · show (y.c.cnt : Int) = (v 34).ev (y.σT y.tF)
        rw [tev (by omega)]
        rfl
      · rfl
      · rfl
      · rfl
      · rfl
      · rfl
      · rfl
    · refine agree_sgR (fun i p hp => ⟨by have := hro i p hp; omega, LsRec.var (by have := hro i p hp; omega)⟩) (by decide) (by decide) rfl (fun i hi => ?_) fun q hq => ?_
      · rw [vAt_nil rfl]
        exact (tev (by have : i < 250 := hi; omega)).symm
      · rw [lAt_nil rfl]
        exact LsRec.var (by have : q < 12 := hq; omega)
  · exact ln_Q h hro fs ok c hc hck
/-- what is known -/
theorem facts_L : ∀ q ∈ fAll y.n y.e1 y.e2, q.1.ev y.σL = q.2 := by
  have a1 : 1 ≤ y.n := h.x.n1
  have a2 : y.n ≤ 4 := h.x.n4
  have a3 : 1 ≤ y.O := h.x.O1
  have a4 : y.O ≤ 16 := h.x.O16
  have a5 := h.x.mn
  have hd := done h
  have l1 : y.c.g.length = 4 * y.n + 36 + 8 * y.O := h.sd.len
  have l2 : y.tF.g.length = 4 * y.n + 36 + 8 * y.O := hd.1.len
  have hlA := lenA h
  have hlB : y.B.length ≤ 8 := few hd.1.nd hd.1.bd
  have hcc := c_cnt h
  have e9 : (SE.len (.lvar 9)).ev y.σL = ((4 * y.n + 36 + 8 * y.O : Nat) : Int) := by rw [len_rec w9, natsI_len, l1]
  have e10 : (SE.len (.lvar 10)).ev y.σL = ((4 * y.n + 36 + 8 * y.O : Nat) : Int) := by rw [len_rec w10r, natsI_len, l1]
  have e0 : (SE.len (.lvar 0)).ev y.σL = ((4 * y.n + 36 + 8 * y.O : Nat) : Int) := by
    have := len_rec (rT0 (y := y) (s := y.tF))
    rw [natsI_len, l2] at this
    exact this
  have e12 : (SE.len (.lvar 12)).ev y.σL = ((4 * y.n + 36 + 8 * y.O : Nat) : Int) := by rw [len_rec w12r, natsI_len, l2]
  have e34 : (v 34).ev y.σL = (y.c.cnt : Int) := by show (v 34).ev (y.σT y.tF) = _; rw [tev (by omega)]; rfl
  have e11 := len_rec (w11 (y := y))
  have e13 := len_rec (w13 (y := y))
  have e14 := len_rec (w14 (y := y))
  have eh : (at0 (heldE (y.n : Int))).ev y.σL = (y.B.length : Int) := by
    have := at0_ev (y := y) (s := y.tF) (e := heldE (y.n : Int)) held_ev
    rw [hd.1.held] at this
    exact this
  have eB : (if y.e2 then l 0 else SE.len (.lvar 13)).ev y.σL = (y.B.length : Int) := by
    cases he : y.e2 with
    | true =>
      have : y.B = [] := List.isEmpty_iff.1 he
      rw [this]; rfl
    | false => exact e13
  intro q hq
  simp only [fAll, fL, fAft, fEndL, List.append_assoc, List.cons_append, List.nil_append, List.mem_append, List.mem_cons] at hq
  rcases hq with hq | hq | hq | hq | hq | hq | hq | hq | hq | hq | hq | rfl | rfl | rfl | rfl | hq
  · exact rng_ok (t0_ (y := y) (s := y.tF)) (by omega) (by omega) q hq
  · exact rng_ok (t1_ (y := y) (s := y.tF)) (by omega) (by omega) q hq
  · exact rng_ok e9 (by omega) (by omega) q hq
  · exact rng_ok e10 (by omega) (by omega) q hq
  · exact rng_ok e34 (by omega) (by omega) q hq
  · exact rng_ok (t4_ (y := y) (s := y.tF)) (by omega) (by omega) q hq
  · exact rng_ok e0 (by omega) (by omega) q hq
  · exact rng_ok e12 (by omega) (by omega) q hq
  · exact rng_ok (t3_ (y := y) (s := y.tF)) (by omega) (by omega) q hq
  · exact rng_ok e11 (by omega) (by omega) q hq
  · exact rng_ok e13 (by omega) (by omega) q hq
  · have e1 : (v (200 + 4 * y.n + 1)).ev y.σL = 0 := by
      have := see2_at h (i := 4 * y.n + 1) (by omega)
      rw [coreNo_lock, h.lk2] at this
      exact this
    exact eq_t e1 (y := 0) rfl rfl
  · exact eq_t eh (ev_u eB (by omega)) rfl
  · exact eq_t eh eB rfl
  · refine eq_t (t3_ (y := y) (s := y.tF)) (y := (y.tF.gone : Int)) ?_ rfl
    cases he1 : y.e1 with
    | true =>
      have : y.A = [] := List.isEmpty_iff.1 he1
      have h0 : y.A.length = 0 := by rw [this]; rfl
      show (0 : Int) = _
      omega
    | false =>
      have eB2 : (if y.e2 then l 0 else SE.len (.lvar 14)).ev y.σL = (y.B.length : Int) := by
        cases he : y.e2 with
        | true =>
          have : y.B = [] := List.isEmpty_iff.1 he
          rw [this]; rfl
        | false => exact e14
      have := ev_sub e11 eB2 (by omega) (by omega)
      show (SE.bin .sub (.len (.lvar 11)) (if y.e2 then l 0 else .len (.lvar 14))).ev y.σL = _
      rw [this]
      omega
  · exact rng_ok e14 (by omega) (by omega) q hq
end
/-- .. of all such numbers -/
theorem law_of {y : La} (h : y.Ok) (w : World) {A0 : Option Addr} {l0 c0 : Nat} {A1 : Option Addr} {l1 c1 : Nat} {A2 : Option Addr} {l2 c2 : Nat} (b0 : l0 ≤ c0 ∧ c0 ≤ maxLen) (b1 : l1 ≤ c1 ∧ c1 ≤ maxLen) (b2 : l2 ≤ c2 ∧ c2 ≤ maxLen)
    (r0 : y.x.how.length = l0 ∧ (∀ a, A0 = some a → 0 < l0 → a.block < w.heap.size ∧ ∀ e, e < l0 → w.cell? (a.add e) = some ((ckOf (some .i64)).val (y.x.how[e]?.getD 0))) ∧ (A0 = none → l0 = 0))
    (r1 : y.x.own.length = l1 ∧ (∀ a, A1 = some a → 0 < l1 → a.block < w.heap.size ∧ ∀ e, e < l1 → w.cell? (a.add e) = some ((ckOf (some .i64)).val (y.x.own[e]?.getD 0))) ∧ (A1 = none → l1 = 0))
    (r2 : y.x.mine.length = l2 ∧ (∀ a, A2 = some a → 0 < l2 → a.block < w.heap.size ∧ ∀ e, e < l2 → w.cell? (a.add e) = some ((ckOf (some .i64)).val (y.x.mine[e]?.getD 0))) ∧ (A2 = none → l2 = 0)) :
    Calls Try.prog 3 #[.agg #[.int .i64 y.x.x0, .int .i64 y.x.x1, .int .i64 y.x.x2, .slice A0 l0 c0, .slice A1 l1 c1, .slice A2 l2 c2]] w fun r w' => r = .returned (.bool true) ∧ Own w [] w' := by
  have a1 : 1 ≤ y.n := h.x.n1
  have a2 : y.n ≤ 4 := h.x.n4
  have ok := facts_L h
  have hrun := ok_L a1 a2 y.e1 y.e2 he12
  have nl : ∀ {q : Nat} {L : List Int}, q < 64 → y.lT y.tF q = one L → (y.σL (ln q)).toNat = L.length := fun hq hl => by
    show (sg (y.vT y.tF) (y.lT y.tF) (ln _)).toNat = _
    rw [sg_oneN hq hl, Int.toNat_natCast]
  have nc : ∀ {q : Nat} {L : List Int} (e : Nat), q < 64 → y.lT y.tF q = one L → y.σL (lc q e 0) = L[e]?.getD 0 := fun e hq hl => by
    show sg (y.vT y.tF) (y.lT y.tF) (lc _ e 0) = _
    rw [sg_one hq hl, List.getD_eq_getElem?_getD]
  have hk := kcs_L h (ro := roW3 A0 l0 c0 A1 l1 c1 A2 l2 c2) roW3_in
  have hl := lns_L h (ro := roW3 A0 l0 c0 A1 l1 c1 A2 l2 c2) roW3_in
  have hrun0 : treeC Try.prog [] rks (kgL y.n y.e1 y.e2) [LS y.n y.e1, LQ y.n y.e1 y.e2] 40 3 argL ⟨[], [], ⟨0, 0, 0, 0⟩⟩ (.is (.bool true) []) (fAll y.n y.e1 y.e2) = true := by
    unfold runL at hrun
    rw [treeC_h (t := ⟨[], [], ⟨0, 0, 0, 0⟩⟩) (t' := ⟨[], [], ⟨50, 43, 0, 0⟩⟩) rfl]
    exact hrun
  refine law_calls (f := 3) mixed hk hl ok hrun0 rfl w tabs_nil ?_ ?_
  · intro i ck A' len' c' hck hro
    have hro : roW3 A0 l0 c0 A1 l1 c1 A2 l2 c2 i = some (A', len', c') := hro
    have hi := roW3_in i _ hro
    match i, hi, hck, hro with
    | 40, _, hck, hro =>
      have hro : some (A0, l0, c0) = some (A', len', c') := hro
      cases hro
      have hck : some (CK.int .i64) = some ck := hck
      cases hck
      refine ⟨(nl (q := 40) (by omega) rfl).trans r0.1, fun a ha h0 => ?_⟩
      obtain ⟨h1, h2⟩ := r0.2.1 a ha h0
      refine ⟨h1, fun e he => ?_⟩
      rw [h2 e he]
      show some (Value.int .i64 _) = some (Value.int .i64 (y.σL (lc 40 e 0)))
      rw [nc (q := 40) e (by omega) rfl]
    | 41, _, hck, hro =>
      have hro : some (A1, l1, c1) = some (A', len', c') := hro
      cases hro
      have hck : some (CK.int .i64) = some ck := hck
      cases hck
      refine ⟨(nl (q := 41) (by omega) rfl).trans r1.1, fun a ha h0 => ?_⟩
      obtain ⟨h1, h2⟩ := r1.2.1 a ha h0
      refine ⟨h1, fun e he => ?_⟩
      rw [h2 e he]
      show some (Value.int .i64 _) = some (Value.int .i64 (y.σL (lc 41 e 0)))
      rw [nc (q := 41) e (by omega) rfl]
    | 42, _, hck, hro =>
      have hro : some (A2, l2, c2) = some (A', len', c') := hro
      cases hro
      have hck : some (CK.int .i64) = some ck := hck
      cases hck
      refine ⟨(nl (q := 42) (by omega) rfl).trans r2.1, fun a ha h0 => ?_⟩
      obtain ⟨h1, h2⟩ := r2.2.1 a ha h0
      refine ⟨h1, fun e he => ?_⟩
      rw [h2 e he]
      show some (Value.int .i64 _) = some (Value.int .i64 (y.σL (lc 42 e 0)))
      rw [nc (q := 42) e (by omega) rfl]
    | i + 43, hi, _, _ => exact absurd hi (by omega)
  · letI N : Nums := nums [] rks (roW3 A0 l0 c0 A1 l1 c1 A2 l2 c2) y.σL Ωn (fAll y.n y.e1 y.e2) ok
    have e30 : ∀ i, 30 ≤ i → i < 33 → (v i).ev y.σL = y.vC i := fun i h0 h1 => by
      show (v i).ev (y.σT y.tF) = _
      rw [tev (by omega), vT_C (by omega) (by omega)]
    show VRs (fun _ => none) [.agg worldL] [.agg #[.int .i64 y.x.x0, .int .i64 y.x.x1, .int .i64 y.x.x2, .slice A0 l0 c0, .slice A1 l1 c1, .slice A2 l2 c2]]
    refine VRs.cons ?_ VRs.nil
    unfold VR
    refine ⟨_, rfl, VRs.cons ?_ (VRs.cons ?_ (VRs.cons ?_ (VRs.cons ?_ (VRs.cons ?_ (VRs.cons ?_ VRs.nil)))))⟩
    · unfold VR
      show _ = Value.int .i64 ((v 30).ev y.σL)
      rw [e30 30 (by omega) (by omega)]
      rfl
    · unfold VR
      show _ = Value.int .i64 ((v 31).ev y.σL)
      rw [e30 31 (by omega) (by omega)]
      rfl
    · unfold VR
      show _ = Value.int .i64 ((v 32).ev y.σL)
      rw [e30 32 (by omega) (by omega)]
      rfl
    · unfold VR
      exact ⟨A0, l0, c0, rfl, rfl, b0.1, b0.2, (nl (q := 40) (by omega) rfl).trans r0.1, r0.2.2⟩
    · unfold VR
      exact ⟨A1, l1, c1, rfl, rfl, b1.1, b1.2, (nl (q := 41) (by omega) rfl).trans r1.1, r1.2.2⟩
    · unfold VR
      exact ⟨A2, l2, c2, rfl, rfl, b2.1, b2.2, (nl (q := 42) (by omega) rfl).trans r2.1, r2.2.2⟩
/-- such numbers there are, for each world -/
theorem of_world {x : Wo} (hx : x.Ok) : ∃ y : La, y.Ok ∧ y.x = x := by
  have hT := Wo.T_le (x := x)
  obtain ⟨A, P, u, hs⟩ := (Wo.st_good hx.toOk x.T hT).sd
  rw [Wo.st_t] at hs
  have hs8 := hs.upTo (8 - x.T) x.T (by omega)
  have hlA := few hs8.nd hs8.bd
  obtain ⟨a1, b1, s1, sl1, sb1, at1⟩ := hs8.see
  have tg0 : TG x.n x.O P u A (x.st x.T).cnt ⟨.a95, 0, 0, (x.st x.T).cnt, 0, 0, 0, 0, 0, 0, (x.st x.T).g, [], A⟩ := by
    refine ⟨by show (x.st x.T).cnt ≤ (x.st x.T).cnt + 0; omega, Nat.le_refl _, ?_, rfl, (fun z hz => by cases hz), ?_, hs8, rfl⟩
    · show 0 + (40 * ([] ++ A).length + 30) ≤ 400
      rw [List.nil_append]; omega
    · show 0 + ([] ++ A).length + 0 = A.length
      rw [List.nil_append]; omega
  obtain ⟨m, hfin, htg⟩ := tg0.ends
  have hd := (htg m (Nat.le_refl _)).1.done hfin
  obtain ⟨a2, b2, s2, sl2, sb2, at2⟩ := hd.1.see
  refine ⟨⟨x, A, P, u, _, _, m⟩, ⟨hx, hs8, s1, rfl, rfl, sl1, sb1, fun z hz => ?_, htg, hfin, s2, rfl, rfl, sl2, sb2⟩, rfl⟩
  have hb := hs8.bd z hz
  obtain ⟨k, hk⟩ := hs8.slabs z.toNat (by omega)
  refine ⟨k, ?_, hs8.inuse hz hk⟩
  rw [← at1 z.toNat (by omega)]
  exact hk
end La
theorem toNat_of (z m : Int) (hm : 1 ≤ m) : ∃ a : Nat, z % m = a ∧ (a : Int) < m := by
  have h1 := Int.emod_nonneg z (show m ≠ 0 by omega)
  have h2 := Int.emod_lt_of_pos z (show 0 < m by omega)
  generalize z % m = r at h1 h2
  exact ⟨r.toNat, by omega, by omega⟩
theorem wf_get {L : List Int} (h : ∀ z ∈ L, ckWf (some .i64) z) (i : Nat) : (Lit.int .i64 (L.getD i 0)).wf = true := by
  rw [List.getD_eq_getElem?_getD]
  cases hi : L[i]? with
  | none => rfl
  | some z => exact h z (List.mem_of_getElem? hi)
/-- THE LAW -/
theorem trims_law (w : World) (x0 x1 x2 : Int) (w0 : (Lit.int .i64 x0).wf = true) (w1 : (Lit.int .i64 x1).wf = true) (w2 : (Lit.int .i64 x2).wf = true) {A0 : Option Addr} {l0 c0 : Nat} {A1 : Option Addr} {l1 c1 : Nat} {A2 : Option Addr} {l2 c2 : Nat} (b0 : l0 ≤ c0 ∧ c0 ≤ maxLen) (b1 : l1 ≤ c1 ∧ c1 ≤ maxLen) (b2 : l2 ≤ c2 ∧ c2 ≤ maxLen)
    (f0 : FlatAt w [some .i64] A0 l0) (f1 : FlatAt w [some .i64] A1 l1) (f2 : FlatAt w [some .i64] A2 l2) :
    Calls Try.prog 3 #[.agg #[.int .i64 x0, .int .i64 x1, .int .i64 x2, .slice A0 l0 c0, .slice A1 l1 c1, .slice A2 l2 c2]] w fun r w' => r = .returned (.bool true) ∧ Own w [] w' := by
  obtain ⟨how, p1, p2, p3, p4⟩ := flat_list f0
  obtain ⟨own, q1, q2, q3, q4⟩ := flat_list f1
  obtain ⟨mine, s1, s2, s3, s4⟩ := flat_list f2
  obtain ⟨a, ha, ha2⟩ := toNat_of x0 4 (by omega)
  obtain ⟨b, hb, hb2⟩ := toNat_of x1 16 (by omega)
  obtain ⟨c, hc, hc2⟩ := toNat_of x2 3 (by omega)
  have hx : Wo.Ok ⟨⟨a + 1, b + 1, c⟩, x0, x1, x2, how, own, mine⟩ := by
    refine ⟨⟨?_, ?_, ?_, ?_, ?_⟩, ?_, ?_, ?_, w0, w1, w2, wf_get p4, wf_get q4, wf_get s4⟩
    · show 1 ≤ a + 1; omega
    · show a + 1 ≤ 4; omega
    · show 1 ≤ b + 1; omega
    · show b + 1 ≤ 16; omega
    · show c < 3; omega
    · show ((a + 1 : Nat) : Int) = 1 + x0 % 4; omega
    · show ((b + 1 : Nat) : Int) = 1 + x1 % 16; omega
    · show ((c : Nat) : Int) = x2 % 3; omega
  obtain ⟨y, hy, he⟩ := La.of_world hx
  have := La.law_of hy w (A0 := A0) (A1 := A1) (A2 := A2) b0 b1 b2 (by rw [he]; exact ⟨p1, p2, p3⟩) (by rw [he]; exact ⟨q1, q2, q3⟩) (by rw [he]; exact ⟨s1, s2, s3⟩)
  rw [he] at this
  exact this
end Go.Proofs.Ytmfemophafncnaa.Ft
