/-
  Texts of this claim, joined. No condition.
-/
import Derived.Test.YtmfemophafncnaaFt9
import Derived.Test.YtmfemophafncnaaFt6
/-
  wainscotlaw25.chained, as a known call. No condition.
-/
namespace Go.Proofs.Ytmfemophafncnaa.Ft
open Go Ex Mem See Fast
open Go.RowKit
theorem fn_chained : FnOk Try.prog 39 := ⟨Try.f39, _, Try.func39, by kernel_rfl, rfl⟩
section
variable {σ : Nat → Int} {a b : SE} {x y : Int}
theorem lt_t (ha : a.ev σ = x) (hb : b.ev σ = y) (h : x < y) : (Cnd.lt a b).ev σ = true := by
  show decide (a.ev σ < b.ev σ) = true
  rw [ha, hb]
  exact decide_eq_true h
theorem lt_f (ha : a.ev σ = x) (hb : b.ev σ = y) (h : y ≤ x) : (Cnd.lt a b).ev σ = false := by
  show decide (a.ev σ < b.ev σ) = false
  rw [ha, hb]
  exact decide_eq_false (by omega)
theorem eq_t (ha : a.ev σ = x) (hb : b.ev σ = y) (h : x = y) : (Cnd.eq a b).ev σ = true := by
  show (a.ev σ == b.ev σ) = true
  rw [ha, hb]
  exact beq_iff_eq.2 h
theorem eq_f (ha : a.ev σ = x) (hb : b.ev σ = y) (h : x ≠ y) : (Cnd.eq a b).ev σ = false := by
  show (a.ev σ == b.ev σ) = false
  rw [ha, hb]
  exact beq_eq_false_iff_ne.2 h
theorem lt_d (e : Bool) (ha : a.ev σ = x) (hb : b.ev σ = y) (h : e = decide (x < y)) : (Cnd.lt a b).ev σ = e := by
  show decide (a.ev σ < b.ev σ) = e
  rw [ha, hb, h]
theorem eq_d (e : Bool) (ha : a.ev σ = x) (hb : b.ev σ = y) (h : e = decide (x = y)) : (Cnd.eq a b).ev σ = e := by
  show (a.ev σ == b.ev σ) = e
  rw [ha, hb, h]
  rfl
theorem rng_ok {e : SE} {a b : Int} (he : e.ev σ = x) (h1 : a ≤ x) (h2 : x < b) : ∀ q ∈ rng e a b, q.1.ev σ = q.2 := by
  intro q hq
  simp only [rng, List.mem_cons, List.not_mem_nil, or_false] at hq
  rcases hq with rfl | rfl
  · exact lt_f he rfl h1
  · exact lt_t he rfl h2
theorem ev_add (ha : a.ev σ = x) (hb : b.ev σ = y) (h0 : -1000000 ≤ x + y) (h1 : x + y < 1000000) : (add a b).ev σ = x + y := by
  show IntKind.i64.wrap (a.ev σ + b.ev σ) = _
  rw [ha, hb, i64_small (by omega) (by omega)]
theorem ev_sub (ha : a.ev σ = x) (hb : b.ev σ = y) (h0 : -1000000 ≤ x - y) (h1 : x - y < 1000000) : (SE.bin .sub a b).ev σ = x - y := by
  show IntKind.i64.wrap (a.ev σ - b.ev σ) = _
  rw [ha, hb, i64_small (by omega) (by omega)]
theorem ev_mul (ha : a.ev σ = x) (hb : b.ev σ = y) (h0 : -1000000 ≤ x * y) (h1 : x * y < 1000000) : (SE.bin .mul a b).ev σ = x * y := by
  show IntKind.i64.wrap (a.ev σ * b.ev σ) = _
  rw [ha, hb, i64_small (by omega) (by omega)]
theorem ev_v {v : Nat → Int} {l : Nat → List (List Int)} {i : Nat} (hi : i < 2048) : (Ft.v i).ev (sg v l) = v i := by
  show sg v l i = _
  rw [sg_v hi]
theorem ev_len {v : Nat → Int} {l : Nat → List (List Int)} {q : Nat} {g : List Nat} (hq : q < 64) (h : l q = one (natsI g)) : (SE.len (.lvar q)).ev (sg v l) = (g.length : Int) := by
  show ((sg v l (ln q)).toNat : Int) = _
  rw [sg_oneN hq h, natsI_len]
  rfl
theorem nats_set {g : List Nat} {i w : Nat} : natsI (g.set i w) = (natsI g).set i (w : Int) := by
  unfold natsI
  rw [List.map_set]
theorem rec_set {L e x : SE} {g : List Nat} {i y : Nat} (hL : LsRec σ L (one (natsI g))) (he : e.ev σ = (i : Int)) (hx : x.ev σ = (y : Int)) (hi : i < g.length) : LsRec σ (.lset L e 0 x) (one (natsI (g.set i y))) := by
  rw [nats_set]
  exact hL.set he hx (by rw [natsI_len]; exact hi)
theorem rec_at {L e : SE} {g : List Nat} {i : Nat} (hL : LsRec σ L (one (natsI g))) (he : e.ev σ = (i : Int)) : (SE.at L e 0).ev σ = (at_ g i : Int) := by
  show L.evA σ (e.ev σ).toNat 0 = _
  rw [he, Int.toNat_natCast, hL.at_ i 0 (by omega), one_at, if_pos rfl, List.getD_eq_getElem?_getD]
  unfold natsI at_
  rw [List.getElem?_map, List.getD_eq_getElem?_getD]
  cases g[i]? <;> rfl
end
theorem lookS_lits {x : Nat → Int} {r : List (Nat × SE)} {m : Nat} : ∀ {a i : Nat}, lookS i (((List.range' a m).map fun j => (j, SE.lit (x j))) ++ r) = if a ≤ i ∧ i < a + m then some (.lit (x i)) else lookS i r := by
  induction m with
  | zero => intro a i; rw [if_neg (by omega)]; rfl
  | succ m ih =>
    intro a i
    rw [List.range'_succ, List.map_cons, List.cons_append]
    by_cases hai : a = i
    · subst hai
      rw [lookS_eq, if_pos (by omega)]
    · rw [lookS_ne hai, ih]
      by_cases h1 : a ≤ i ∧ i < a + (m + 1)
      · rw [if_pos h1, if_pos (by omega)]
      · rw [if_neg h1, if_neg (by omega)]
theorem lookS_vars {r : List (Nat × SE)} {m : Nat} : ∀ {a i : Nat}, lookS i (((List.range' a m).map fun j => (j, SE.lvar (50 + j))) ++ r) = if a ≤ i ∧ i < a + m then some (.lvar (50 + i)) else lookS i r := by
  induction m with
  | zero => intro a i; rw [if_neg (by omega)]; rfl
  | succ m ih =>
    intro a i
    rw [List.range'_succ, List.map_cons, List.cons_append]
    by_cases hai : a = i
    · subst hai
      rw [lookS_eq, if_pos (by omega)]
    · rw [lookS_ne hai, ih]
      by_cases h1 : a ≤ i ∧ i < a + (m + 1)
      · rw [if_pos h1, if_pos (by omega)]
      · rw [if_neg h1, if_neg (by omega)]
theorem look_app {i : Nat} {b : List (Nat × SE)} : ∀ {a : List (Nat × SE)}, lookS i (a ++ b) = (match lookS i a with | some e => some e | none => lookS i b)
  | [] => rfl
  | (j, e) :: a => by
    by_cases h : j = i
    · subst h
      rw [List.cons_append, lookS_eq, lookS_eq]
    · rw [List.cons_append, lookS_ne h, lookS_ne h, look_app]
theorem look_mem {i : Nat} {e : SE} : ∀ {a : List (Nat × SE)}, lookS i a = some e → (i, e) ∈ a
  | [], h => by cases h
  | (j, e') :: a, h => by
    by_cases hj : j = i
    · subst hj
      rw [lookS_eq] at h
      cases h
      exact List.mem_cons_self
    · rw [lookS_ne hj] at h
      exact List.mem_cons_of_mem _ (look_mem h)
/-- what a callee's end says of its caller's numbers: some are told, the others are as they were -/
def bk (outs outl : List (Nat × SE)) (v2 : Nat → Int) : Sub := { v := outs ++ (((List.range' 0 44).map fun j => (j, .lit (v2 j))) ++ []), l := outl ++ (((List.range' 0 10).map fun j => (j, .lvar (50 + j))) ++ []) }
theorem agree_bk {outs outl : List (Nat × SE)} {v1 v2 : Nat → Int} {l1 l2 : Nat → List (List Int)} {kn : Nat} {ro : Nat → Option (Option Addr × Nat × Nat)} {Ω Ω' : Nat → Nat → Nat → Obj → Prop} (hro : ∀ i p, ro i = some p → i < 64 ∧ l1 i = l2 i)
    (ho : ∀ p ∈ outs, v2 p.1 = p.2.ev (sg v1 l1)) (hl : ∀ p ∈ outl, LsRec (sg v1 l1) p.2 (l2 p.1)) (hc : ∀ i, i < 10 → l1 (50 + i) = l2 i) : AgreeD (bk outs outl v2) ⟨44, 10, 0, kn⟩ ro (sg v1 l1) Ω (sg v2 l2) Ω' := by
  refine agree_sgR (fun i p hp => ⟨(hro i p hp).1, LsRec.var' (hro i p hp).1 (hro i p hp).2⟩) (by show 44 ≤ 2048; omega) (by show 10 ≤ 64; omega) rfl (fun i hi => ?_) fun q hq => ?_
  · have hi : i < 44 := hi
    unfold bk Sub.vAt
    simp only
    rw [look_app]
    cases h : lookS i outs with
    | some e => exact ho _ (look_mem h)
    | none =>
      simp only
      rw [lookS_lits, if_pos (by omega)]
      rfl
  · have hq : q < 10 := hq
    unfold bk Sub.lAt
    simp only
    rw [look_app]
    cases h : lookS q outl with
    | some e => exact hl _ (look_mem h)
    | none =>
      simp only
      rw [lookS_vars, if_pos (by omega)]
      exact LsRec.var' (by omega) (hc q hq)
def Ωn : Nat → Nat → Nat → Obj → Prop := fun _ _ _ _ => False
/-- the chart's numbers -/
structure Cn where
  n : Nat
  O : Nat
  mn : Nat
structure Cn.Ok (c : Cn) : Prop where
  n1 : 1 ≤ c.n
  n4 : c.n ≤ 4
  O1 : 1 ≤ c.O
  O16 : c.O ≤ 16
  mn : c.mn < 3
section
variable {c : Cn} (hc : c.Ok) {σ : Nat → Int} (h0 : (v 0).ev σ = (c.O : Int) - 1)
include hc h0
theorem ev_k : kE.ev σ = (c.O : Int) := by
  have := hc.O16
  have := hc.O1
  have := ev_add (σ := σ) (a := l 1) (b := v 0) (x := 1) (y := (c.O : Int) - 1) rfl h0 (by omega) (by omega)
  show (add (l 1) (v 0)).ev σ = _
  rw [this]
  omega
theorem ev_words : (wordsE (c.n : Int)).ev σ = ((4 * c.n + 36 + 8 * c.O : Nat) : Int) := by
  have := hc.O16
  have := hc.n4
  have h1 := ev_mul (a := l 8) (b := kE) (x := 8) (y := (c.O : Int)) rfl (ev_k hc h0) (by omega) (by omega)
  have h2 := ev_add (a := l (4 * (c.n : Int) + 36)) (x := 4 * (c.n : Int) + 36) rfl h1 (by omega) (by omega)
  show (add (l (4 * (c.n : Int) + 36)) (.bin .mul (l 8) kE)).ev σ = _
  rw [h2]
  omega
theorem ev_link {s i : SE} {S j : Nat} (hs : s.ev σ = (S : Int)) (hS : S < 8) (hi : i.ev σ = (j : Int)) (hj : j < 1000) : (linkE (c.n : Int) s i).ev σ = ((4 * c.n + 36 + S * c.O + j : Nat) : Int) := by
  have := hc.O16
  have := hc.n4
  have hm := Nat.mul_le_mul (show S ≤ 7 by omega) hc.O16
  have hx : (S : Int) * (c.O : Int) = ((S * c.O : Nat) : Int) := by rw [Int.natCast_mul]
  have h1 := ev_mul (a := s) (b := kE) hs (ev_k hc h0) (by rw [hx]; omega) (by rw [hx]; omega)
  rw [hx] at h1
  have h2 := ev_add (a := l (4 * (c.n : Int) + 36)) (x := 4 * (c.n : Int) + 36) rfl h1 (by omega) (by omega)
  have h3 := ev_add h2 hi (by omega) (by omega)
  show (add (add (l (4 * (c.n : Int) + 36)) (.bin .mul s kE)) i).ev σ = _
  rw [h3]
  omega
end
theorem ev_key {σ : Nat → Int} {s : SE} {S : Nat} (hs : s.ev σ = (S : Int)) (hS : S < 8) : (keyE s).ev σ = (See.keyOf 11 S : Int) := by
  show IntKind.u64.wrap (11 + IntKind.u64.wrap (IntKind.u64.wrap (s.ev σ) * 11400714819323198485)) = _
  rw [hs, IntKind.wrap_u64, IntKind.wrap_u64, IntKind.wrap_u64]
  unfold See.keyOf
  omega
end Go.Proofs.Ytmfemophafncnaa.Ft

/-
  wainscotlaw25.FlushTrims: all runs. No condition.
-/
namespace Go.Proofs.Ytmfemophafncnaa.Ft
open Go Ex
theorem all4 {p : Nat → Prop} (h1 : p 1) (h2 : p 2) (h3 : p 3) (h4 : p 4) {n : Nat} (a : 1 ≤ n) (b : n ≤ 4) : p n := by
  match n, a, b with
  | 1, _, _ => exact h1
  | 2, _, _ => exact h2
  | 3, _, _ => exact h3
  | 4, _, _ => exact h4
  | n + 5, _, b => exact absurd b (by omega)
theorem ok_C1 (e : Bool) {n : Nat} (a : 1 ≤ n) (b : n ≤ 4) : runC1 M0 n e = true := by
  cases e <;> exact all4 (p := fun n => runC1 M0 n _ = true) (by kernel_rfl) (by kernel_rfl) (by kernel_rfl) (by kernel_rfl) a b
theorem ok_C2 {n : Nat} (a : 1 ≤ n) (b : n ≤ 4) : runC2 M0 n = true := all4 (p := fun n => runC2 M0 n = true) (by kernel_rfl) (by kernel_rfl) (by kernel_rfl) (by kernel_rfl) a b
theorem ok_C {n : Nat} (a : 1 ≤ n) (b : n ≤ 4) : runC M0 n = true := all4 (p := fun n => runC M0 n = true) (by kernel_rfl) (by kernel_rfl) (by kernel_rfl) (by kernel_rfl) a b
theorem ok_Sl (fz : Bool) {n : Nat} (a : 1 ≤ n) (b : n ≤ 4) : runSl M0 n fz = true := by
  cases fz <;> exact all4 (p := fun n => runSl M0 n _ = true) (by kernel_rfl) (by kernel_rfl) (by kernel_rfl) (by kernel_rfl) a b
/-- the ways that there are -/
def ways : List Way := [.none true, .none false, .shelf true, .shelf false, .head, .part, .full 1, .full 3, .full 4]
theorem all_ways {n : Nat} (a : 1 ≤ n) (b : n ≤ 4) : ways.all (fun w => runW n w) = true := all4 (p := fun n => ways.all (fun w => runW n w) = true) (by kernel_rfl) (by kernel_rfl) (by kernel_rfl) (by kernel_rfl) a b
theorem ok_W {w : Way} (hw : w ∈ ways) {n : Nat} (a : 1 ≤ n) (b : n ≤ 4) : runW n w = true := List.all_eq_true.1 (all_ways a b) w hw
theorem all_We {n : Nat} (a : 1 ≤ n) (b : n ≤ 4) : [0, 1, 2, 3].all (fun k => runWe n k) = true := all4 (p := fun n => [0, 1, 2, 3].all (fun k => runWe n k) = true) (by kernel_rfl) (by kernel_rfl) (by kernel_rfl) (by kernel_rfl) a b
theorem ok_We {k : Nat} (hk : k < 4) {n : Nat} (a : 1 ≤ n) (b : n ≤ 4) : runWe n k = true := List.all_eq_true.1 (all_We a b) k (by match k, hk with | 0, _ => simp | 1, _ => simp | 2, _ => simp | 3, _ => simp | k + 4, h => exact absurd h (by omega))
theorem ok_Co {n : Nat} (a : 1 ≤ n) (b : n ≤ 4) : runCo n = true := all4 (p := fun n => runCo n = true) (by kernel_rfl) (by kernel_rfl) (by kernel_rfl) (by kernel_rfl) a b
/-- the shelf that is looked through -/
theorem all_Q {n : Nat} (a : 1 ≤ n) (b : n ≤ 4) : ([0, 1, 2, 3, 4, 5, 6, 7].all fun sl => [true, false].all fun e2 => [true, false].all fun we => [true, false].all fun k => (!we && e2) || (e2 && k) || runQ n e2 we k sl) = true :=
  all4 (p := fun n => ([0, 1, 2, 3, 4, 5, 6, 7].all fun sl => [true, false].all fun e2 => [true, false].all fun we => [true, false].all fun k => (!we && e2) || (e2 && k) || runQ n e2 we k sl) = true) (by kernel_rfl) (by kernel_rfl) (by kernel_rfl) (by kernel_rfl) a b
theorem ok_Q {n : Nat} (a : 1 ≤ n) (b : n ≤ 4) {sl : Nat} (hs : sl < 8) (e2 we k : Bool) (h1 : e2 = true → we = true) (h2 : e2 = true → k = false) : runQ n e2 we k sl = true := by
  have h := List.all_eq_true.1 (List.all_eq_true.1 (List.all_eq_true.1 (List.all_eq_true.1 (all_Q a b) sl (by
    match sl, hs with
    | 0, _ => simp
    | 1, _ => simp
    | 2, _ => simp
    | 3, _ => simp
    | 4, _ => simp
    | 5, _ => simp
    | 6, _ => simp
    | 7, _ => simp
    | k + 8, h => exact absurd h (by omega))) e2 (by cases e2 <;> simp)) we (by cases we <;> simp)) k (by cases k <;> simp)
  cases e2 with
  | false => simpa using h
  | true =>
    rw [h1 rfl, h2 rfl] at h ⊢
    simpa using h
theorem ok_Qe {n : Nat} (a : 1 ≤ n) (b : n ≤ 4) (e1 e2 : Bool) (he : e1 = true → e2 = true) : runQe n e1 e2 = true := by
  match e1, e2, he with
  | true, true, _ => exact all4 (p := fun n => runQe n true true = true) (by kernel_rfl) (by kernel_rfl) (by kernel_rfl) (by kernel_rfl) a b
  | false, true, _ => exact all4 (p := fun n => runQe n false true = true) (by kernel_rfl) (by kernel_rfl) (by kernel_rfl) (by kernel_rfl) a b
  | false, false, _ => exact all4 (p := fun n => runQe n false false = true) (by kernel_rfl) (by kernel_rfl) (by kernel_rfl) (by kernel_rfl) a b
  | true, false, he => exact absurd (he rfl) (by decide)
theorem ok_L {n : Nat} (a : 1 ≤ n) (b : n ≤ 4) (e1 e2 : Bool) (he : e1 = true → e2 = true) : runL n e1 e2 = true := by
  match e1, e2, he with
  | true, true, _ => exact all4 (p := fun n => runL n true true = true) (by kernel_rfl) (by kernel_rfl) (by kernel_rfl) (by kernel_rfl) a b
  | false, true, _ => exact all4 (p := fun n => runL n false true = true) (by kernel_rfl) (by kernel_rfl) (by kernel_rfl) (by kernel_rfl) a b
  | false, false, _ => exact all4 (p := fun n => runL n false false = true) (by kernel_rfl) (by kernel_rfl) (by kernel_rfl) (by kernel_rfl) a b
  | true, false, he => exact absurd (he rfl) (by decide)
end Go.Proofs.Ytmfemophafncnaa.Ft

/-
  wainscotlaw25.chained, as a known call: the loop, the whole. No condition.
-/
namespace Go.Proofs.Ytmfemophafncnaa.Ft
open Go Ex Mem See Fast
open Go.RowKit
/-- what chained sees -/
structure Cc extends Cn where
  S : Nat
  fr : Nat
  tp : Nat
  cnt : Nat
  g : List Nat
  ls : Nat → List (List Int)
namespace Cc
structure Ok (x : Cc) : Prop extends x.toCn.Ok where
  S : x.S < 8
  frtp : x.fr ≤ x.tp
  tpO : x.tp ≤ x.O
  cnt : x.cnt < 300
  len : x.g.length = 4 * x.n + 36 + 8 * x.O
def b (x : Cc) : Nat := 4 * x.n + 36 + x.S * x.O
def key (x : Cc) : Nat := See.keyOf 11 x.S
def gJ (x : Cc) (j : Nat) : List Nat := chG x.b x.key x.fr x.tp x.g j
def m (x : Cc) : Nat := x.tp - x.fr
def v0 (x : Cc) (i : Nat) : Int := match i with
  | 0 => (x.O : Int) - 1
  | 1 => x.mn
  | 5 => x.S
  | 6 => x.fr
  | 7 => x.tp
  | 8 => x.cnt
  | _ => 0
def vJ (x : Cc) (j i : Nat) : Int := if i = 9 then ((x.fr + j : Nat) : Int) else if i = 11 then ((x.cnt + j : Nat) : Int) else if i = 30 then (hideW (if x.fr + j + 1 = x.tp then -1 else ((x.fr + j : Nat) : Int) + 1) x.key (x.fr + j) : Nat) else x.v0 i
def lJ (x : Cc) (j q : Nat) : List (List Int) := if q = 0 then one (natsI x.g) else if q = 1 then one (natsI (x.gJ j)) else if q < 40 then [] else if q < 50 then x.ls q else x.ls (q - 50)
def σ (x : Cc) (j : Nat) : Nat → Int := sg (x.vJ j) (x.lJ j)
section
variable {x : Cc} {j : Nat}
theorem ev {i : Nat} (hi : i < 2048) : (v i).ev (x.σ j) = x.vJ j i := ev_v hi
theorem y0 : (v 0).ev (x.σ j) = (x.O : Int) - 1 := by rw [ev (by omega)]; rfl
theorem y1 : (v 1).ev (x.σ j) = (x.mn : Int) := by rw [ev (by omega)]; rfl
theorem y5 : (v 5).ev (x.σ j) = (x.S : Int) := by rw [ev (by omega)]; rfl
theorem y6 : (v 6).ev (x.σ j) = (x.fr : Int) := by rw [ev (by omega)]; rfl
theorem y7 : (v 7).ev (x.σ j) = (x.tp : Int) := by rw [ev (by omega)]; rfl
theorem y8 : (v 8).ev (x.σ j) = (x.cnt : Int) := by rw [ev (by omega)]; rfl
theorem y9 : (v 9).ev (x.σ j) = ((x.fr + j : Nat) : Int) := by rw [ev (by omega)]; rfl
theorem y11 : (v 11).ev (x.σ j) = ((x.cnt + j : Nat) : Int) := by rw [ev (by omega)]; rfl
theorem y30 : (v 30).ev (x.σ j) = (hideW (if x.fr + j + 1 = x.tp then -1 else ((x.fr + j : Nat) : Int) + 1) x.key (x.fr + j) : Nat) := by rw [ev (by omega)]; rfl
variable (h : x.Ok)
include h
theorem gJ_len : (x.gJ j).length = 4 * x.n + 36 + 8 * x.O := by unfold gJ; rw [chG_len, h.len]
theorem ylen0 : (SE.len (.lvar 0)).ev (x.σ j) = ((4 * x.n + 36 + 8 * x.O : Nat) : Int) := by
  have := ev_len (v := x.vJ j) (l := x.lJ j) (q := 0) (g := x.g) (by omega) rfl
  rw [h.len] at this
  exact this
theorem ylen1 : (SE.len (.lvar 1)).ev (x.σ j) = ((4 * x.n + 36 + 8 * x.O : Nat) : Int) := by
  have := ev_len (v := x.vJ j) (l := x.lJ j) (q := 1) (g := x.gJ j) (by omega) rfl
  rw [gJ_len h] at this
  exact this
theorem hm : x.S * x.O + x.O ≤ 8 * x.O := by
  have := Nat.mul_le_mul_right x.O (show x.S + 1 ≤ 8 by have := h.S; omega)
  rwa [Nat.succ_mul] at this
theorem yfC1 (hj : j ≤ x.m) : ∀ q ∈ fC1 (x.n : Int), q.1.ev (x.σ j) = q.2 := by
  intro q hq
  have a1 := h.O1
  have a2 := h.O16
  have a3 := h.mn
  have a4 := h.S
  have a5 := h.tpO
  have a6 := h.frtp
  have a7 := h.n4
  have a8 := h.cnt
  have a9 := h.n1
  have hj : j ≤ x.tp - x.fr := hj
  simp only [fC1, fN, List.append_assoc, List.mem_append] at hq
  rcases hq with hq | hq | hq | hq | hq | hq | hq
  · exact rng_ok y0 (by omega) (by omega) q hq
  · exact rng_ok y1 (by omega) (by omega) q hq
  · exact rng_ok y5 (by omega) (by omega) q hq
  · exact rng_ok y7 (by omega) (by omega) q hq
  · exact rng_ok y9 (by omega) (by omega) q hq
  · exact rng_ok y11 (by omega) (by omega) q hq
  · exact rng_ok (ylen1 h) (by omega) (by omega) q hq
/-- the loop -/
theorem lns {ro : Nat → Option (Option Addr × Nat × Nat)} (hro : ∀ i p, ro i = some p → 40 ≤ i ∧ i < 43) : LnAll [] rks ro Try.prog 39 (x.σ x.m) Ωn [LC M0 (x.n : Int)] := by
  have a1 := h.O1
  have a2 := h.O16
  have a3 := h.mn
  have a4 := h.S
  have a5 := h.tpO
  have a6 := h.frtp
  have a7 := h.n4
  have a8 := h.cnt
  have a9 := h.n1
  have hM := hm h
  have hth : keeps 41 (LC M0 (x.n : Int)).th (LC M0 (x.n : Int)).t.heap = true := rfl
  have hr : ∀ (j j' : Nat) i p, ro i = some p → i < 64 ∧ LsRec (x.σ j) (.lvar i) (x.lJ j' i) := fun j j' i p hp => by
    have hi := hro i p hp
    refine ⟨by omega, LsRec.var' (by omega) ?_⟩
    unfold lJ
    rw [if_neg (by omega), if_neg (by omega), if_neg (by omega), if_pos (by omega), if_neg (by omega), if_neg (by omega)]
  have keep : ∀ (j j' i : Nat), i < 20 → i ≠ 9 → i ≠ 11 → x.vJ j' i = (v i).ev (x.σ j) := fun j j' i h1 h2 h3 => by
    rw [ev (by omega)]
    unfold vJ
    rw [if_neg h2, if_neg h3, if_neg (by omega), if_neg h2, if_neg h3, if_neg (by omega)]
  refine lnAll_cons (fun fs ok c hc hck => ?_) lnAll_nil
  refine ln_okS [] rks ro mixed (f := 39) (l := LC M0 (x.n : Int)) (n := 30) (kcs := fun j => if j < x.m then kgs [kcHide (nxE (decide (x.fr + j + 1 = x.tp))) (v 5) (v 9)] else kgs []) (lns := fun _ => [])
    (dt := fun j => if j < x.m then .leaf (.cont { v := [(9, add (v 9) (l 1)), (11, add (v 11) (l 1))], l := [(1, set0 (.lvar 1) (linkE (x.n : Int) (v 5) (v 9)) (v 30))] }) else .leaf (.out {}))
    (fs0 := fun j => if j < x.m then fCc (x.n : Int) (decide (x.fr + j + 1 = x.tp)) else fC1 (x.n : Int) ++ [(.lt (v 9) (v 7), false)]) (fun j => j ≤ x.m) (fun j hj => ?_) (by kernel_rfl) hth rfl rfl (fun j => x.m - j) x.σ (fun _ => Ωn) (fun j hj q hq => ?_)
    (fun j hj => ?_) (fun _ _ => lnAll_nil) 0 (Nat.zero_le _) ?_ (fun j hj => ?_) fs ok c hc hck
  · by_cases hlt : j < x.m
    · simp only [if_pos hlt]
      exact ok_C1 _ h.n1 h.n4
    · simp only [if_neg hlt]
      exact ok_C2 h.n1 h.n4
  · have e1 := yfC1 h hj
    by_cases hlt : j < x.m
    · have hlt' : j < x.tp - x.fr := hlt
      simp only [if_pos hlt, fCc] at hq
      have hl := ev_link h.toOk (σ := x.σ j) y0 (s := v 5) y5 a4 (i := v 9) y9 (by omega)
      have hw := ev_words h.toOk (σ := x.σ j) y0
      rcases List.mem_append.1 hq with hq | hq
      · exact e1 q hq
      · simp only [List.mem_cons, List.not_mem_nil, or_false] at hq
        rcases hq with rfl | rfl | rfl | rfl | rfl | rfl
        · exact lt_t y9 y7 (by omega)
        · refine eq_d _ (ev_add y9 (y := 1) rfl (by omega) (by omega)) y7 ?_
          rw [decide_eq_decide]
          omega
        · exact lt_t y9 (ev_k h.toOk y0) (by omega)
        · refine lt_f (ev_sub hw (y := 1) rfl (by omega) (by omega)) hl (by omega)
        · exact lt_t hl hw (by omega)
        · exact lt_t hl (ylen1 h) (by omega)
    · have hlt' : ¬ j < x.tp - x.fr := hlt
      simp only [if_neg hlt] at hq
      rcases List.mem_append.1 hq with hq | hq
      · exact e1 q hq
      · simp only [List.mem_cons, List.not_mem_nil, or_false] at hq
        subst hq
        exact lt_f y9 y7 (by omega)
  · by_cases hlt : j < x.m
    · have hlt' : j < x.tp - x.fr := hlt
      simp only [if_pos hlt]
      refine kcAll_cons (fun fs ok => ?_) kcAll_nil
      letI N : Nums := nums [] rks ro (x.σ j) Ωn fs ok
      refine kc_hide (x := if x.fr + j + 1 = x.tp then -1 else ((x.fr + j : Nat) : Int) + 1) (y := ((x.fr + j : Nat) : Int)) (key := x.key) ?_ (ev_key y5 a4) y9 ?_ (by omega) (by unfold key See.keyOf; exact Nat.mod_lt _ (by omega)) ?_
      · show (nxE (decide (x.fr + j + 1 = x.tp))).ev (x.σ j) = _
        unfold nxE
        by_cases he : x.fr + j + 1 = x.tp
        · rw [decide_eq_true he, if_pos rfl, if_pos he]; rfl
        · rw [decide_eq_false he, if_neg (by decide), if_neg he]
          exact ev_add y9 rfl (by omega) (by omega)
      · split <;> omega
      · rw [Int.toNat_natCast]
        exact y30
    · simp only [if_neg hlt]
      exact kcAll_nil
  · show AgreeD _ ⟨20, 3, 0, 50⟩ _ _ _ _ _
    refine agree_sgR (hr _ _) (by decide) (by decide) rfl (fun i hi => ?_) fun q hq => ?_
    · have hi : i < 20 := hi
      by_cases h9 : i = 9
      · subst h9; exact y6.symm
      · by_cases h11 : i = 11
        · subst h11; exact y8.symm
        · rw [vAt_ne (j := 9) (r := [(11, v 8)]) rfl (fun h => h9 h.symm), vAt_ne (j := 11) (r := []) rfl (fun h => h11 h.symm), vAt_nil rfl]
          exact keep _ _ i hi h9 h11
    · have hq : q < 3 := hq
      match q, hq with
      | 0, _ => exact LsRec.var' (q := 0) (by omega) rfl
      | 1, _ => exact LsRec.var' (q := 0) (by omega) rfl
      | 2, _ => exact LsRec.var' (q := 2) (by omega) rfl
      | q + 3, hq => exact absurd hq (by omega)
  · by_cases hlt : j < x.m
    · have hlt' : j < x.tp - x.fr := hlt
      simp only [if_pos hlt]
      refine ⟨j + 1, by omega, by omega, ?_⟩
      show AgreeD _ ⟨20, 3, 0, 50⟩ _ _ _ _ _
      refine agree_sgR (hr _ _) (by decide) (by decide) rfl (fun i hi => ?_) fun q hq => ?_
      · have hi : i < 20 := hi
        by_cases h9 : i = 9
        · subst h9
          exact (ev_add y9 (y := 1) rfl (by omega) (by omega)).symm
        · by_cases h11 : i = 11
          · subst h11
            exact (ev_add y11 (y := 1) rfl (by omega) (by omega)).symm
          · rw [vAt_ne (j := 9) (r := [(11, add (v 11) (l 1))]) rfl (fun h => h9 h.symm), vAt_ne (j := 11) (r := []) rfl (fun h => h11 h.symm), vAt_nil rfl]
            exact keep _ _ i hi h9 h11
      · have hq : q < 3 := hq
        match q, hq with
        | 0, _ => exact LsRec.var' (q := 0) (by omega) rfl
        | 1, _ =>
          have r1 : LsRec (x.σ j) (.lvar 1) (one (natsI (x.gJ j))) := LsRec.var' (by omega) rfl
          have hl := ev_link h.toOk (σ := x.σ j) y0 (s := v 5) y5 a4 (i := v 9) y9 (by omega)
          have := rec_set r1 hl y30 (by rw [gJ_len h]; omega)
          exact this
        | 2, _ => exact LsRec.var' (q := 2) (by omega) rfl
        | q + 3, hq => exact absurd hq (by omega)
    · simp only [if_neg hlt]
      have hje : j = x.m := by omega
      subst hje
      show AgreeD _ ⟨20, 3, 0, 50⟩ _ _ _ _ _
      refine agree_sgR (hr _ _) (by decide) (by decide) rfl (fun i hi => ?_) fun q hq => ?_
      · rw [vAt_nil rfl]
        exact (ev (by have : i < 20 := hi; omega)).symm
      · rw [lAt_nil rfl]
        exact LsRec.var (by have : q < 3 := hq; omega)
/-- what is told of its caller's numbers -/
def thE (x : Cc) (q rcnt r : Nat) (v2 : Nat → Int) : Sub := bk [(rcnt, v 11), (r, if x.fr < x.tp then v 6 else l (-1)), (0, v 0), (1, v 1)] [(q, .lvar 1)] v2
/-- CHAINED, AS A KNOWN CALL -/
theorem kc {ro : Nat → Option (Option Addr × Nat × Nat)} (hro : ∀ i p, ro i = some p → 40 ≤ i ∧ i < 43) {v2 : Nat → Int} {l2 : Nat → List (List Int)} (hls : x.ls = l2) {s fr tp L cnt : SE} {q rcnt r : Nat}
    (hform : kcForm (kcCh M0 (x.n : Int) s fr tp L cnt q rcnt r) (memA M0 (x.n : Int) (v 8) (.lvar 0)) ⟨9, 1, 0, 40⟩ (argC M0 (x.n : Int) (v 5) (v 6) (v 7)) = true) (hleaf : leafOk (kcCh M0 (x.n : Int) s fr tp L cnt q rcnt r) (memA M0 (x.n : Int) (v 8) (.lvar 0)) 40 (thE x q rcnt r v2) ⟨44, 10, 0, rel⟩ = true)
    (hres : (kcCh M0 (x.n : Int) s fr tp L cnt q rcnt r).res.sub (thE x q rcnt r v2) = .sym .i64 (if x.fr < x.tp then v 6 else l (-1))) (hpost : leafPost (kcCh M0 (x.n : Int) s fr tp L cnt q rcnt r) (thE x q rcnt r v2) = memA M0 (x.n : Int) (v 11) (.lvar 1))
    (e0 : v2 0 = (x.O : Int) - 1) (e1 : v2 1 = (x.mn : Int)) (es : s.ev (sg v2 l2) = x.S) (efr : fr.ev (sg v2 l2) = x.fr) (etp : tp.ev (sg v2 l2) = x.tp) (ecnt : cnt.ev (sg v2 l2) = x.cnt) (eL : LsRec (sg v2 l2) L (one (natsI x.g)))
    (eq : l2 q = one (natsI (x.gJ x.m))) (erc : v2 rcnt = ((x.cnt + x.m : Nat) : Int)) (er : v2 r = if x.fr < x.tp then (x.fr : Int) else -1) (fs) (ok : ∀ f ∈ fs, f.1.ev (sg v2 l2) = f.2) : @KcOk (nums [] rks ro (sg v2 l2) Ωn fs ok) Try.prog (kcCh M0 (x.n : Int) s fr tp L cnt q rcnt r) := by
  have a1 := h.O1
  have a2 := h.O16
  have a3 := h.mn
  have a4 := h.S
  have a5 := h.tpO
  have a6 := h.frtp
  have a7 := h.n4
  have a8 := h.cnt
  have a9 := h.n1
  refine kc_tree (σ1 := x.σ x.m) (Ω1 := Ωn) (A := argC M0 (x.n : Int) (v 5) (v 6) (v 7)) (pre := memA M0 (x.n : Int) (v 8) (.lvar 0)) (B0 := ⟨9, 1, 0, 40⟩) (θ0 := { v := [(5, s), (6, fr), (7, tp), (8, cnt), (2, l 0), (3, l 0), (4, l 0)], l := [(0, L)] }) (kcs := kgs []) (lns := [LC M0 (x.n : Int)]) (n := 30)
    (k := kcCh M0 (x.n : Int) s fr tp L cnt q rcnt r) (d := .node (.lt (v 6) (v 7)) ((kcCh M0 (x.n : Int) (v 5) (v 6) (v 7) (.lvar 0) (v 8) 20 20 21).leaf (thC 20 20 21 (v 6))) ((kcCh M0 (x.n : Int) (v 5) (v 6) (v 7) (.lvar 0) (v 8) 20 20 21).leaf (thC 20 20 21 (l (-1))))) (fs1 := fC2 (x.n : Int)) mixed fn_chained rfl rfl rfl rfl hform kcAll_nil (lns h hro) (fun q hq => ?_) (ok_C h.n1 h.n4) ?_ ?_ fs ok
  · simp only [fC2, fC, fN, List.append_assoc, List.mem_append] at hq
    have hm : x.m = x.tp - x.fr := rfl
    rcases hq with hq | hq | hq | hq | hq | hq | hq | hq
    · exact rng_ok y0 (by omega) (by omega) q hq
    · exact rng_ok y1 (by omega) (by omega) q hq
    · exact rng_ok y5 (by omega) (by omega) q hq
    · exact rng_ok y6 (by omega) (by omega) q hq
    · exact rng_ok y7 (by omega) (by omega) q hq
    · exact rng_ok y8 (by omega) (by omega) q hq
    · exact rng_ok (ylen0 h) (by omega) (by omega) q hq
    · exact rng_ok y11 (by omega) (by omega) q hq
  · refine agree_sgR (fun i p hp => ?_) (by decide) (by decide) rfl (fun i hi => ?_) fun q hq => ?_
    · have hi := hro i p hp
      refine ⟨by omega, LsRec.var' (by omega) ?_⟩
      unfold lJ
      rw [if_neg (by omega), if_neg (by omega), if_neg (by omega), if_pos (by omega), hls]
    · have hi : i < 9 := hi
      match i, hi with
      | 0, _ =>
        show (x.O : Int) - 1 = sg v2 l2 0
        rw [sg_v (by omega), e0]
      | 1, _ =>
        show (x.mn : Int) = sg v2 l2 1
        rw [sg_v (by omega), e1]
      | 2, _ => rfl
      | 3, _ => rfl
      | 4, _ => rfl
      | 5, _ => exact es.symm
      | 6, _ => exact efr.symm
      | 7, _ => exact etp.symm
      | 8, _ => exact ecnt.symm
      | i + 9, hi => exact absurd hi (by omega)
    · obtain rfl : q = 0 := by have : q < 1 := hq; omega
      exact eL
  · have fin : ∀ z : SE, z = (if x.fr < x.tp then v 6 else l (-1)) → ∃ θ B, AV.sym .i64 z = (kcCh M0 (x.n : Int) s fr tp L cnt q rcnt r).res.sub θ ∧ memA M0 (x.n : Int) (v 11) (.lvar 1) = leafPost (kcCh M0 (x.n : Int) s fr tp L cnt q rcnt r) θ ∧ leafOk (kcCh M0 (x.n : Int) s fr tp L cnt q rcnt r) (memA M0 (x.n : Int) (v 8) (.lvar 0)) 40 θ B = true ∧ AgreeD θ B ro (x.σ x.m) Ωn (sg v2 l2) Ωn := by
      intro z hz
      refine ⟨thE x q rcnt r v2, ⟨44, 10, 0, rel⟩, by rw [hres, hz], hpost.symm, hleaf, ?_⟩
      refine agree_bk (fun i p hp => ?_) (fun p hp => ?_) (fun p hp => ?_) (fun i hi => ?_)
      · have hi := hro i p hp
        refine ⟨by omega, ?_⟩
        unfold lJ
        rw [if_neg (by omega), if_neg (by omega), if_neg (by omega), if_pos (by omega), hls]
      · simp only [List.mem_cons, List.not_mem_nil, or_false] at hp
        rcases hp with rfl | rfl | rfl | rfl
        · exact erc.trans y11.symm
        · refine er.trans ?_
          by_cases hlt : x.fr < x.tp
          · simp only [if_pos hlt]; exact y6.symm
          · simp only [if_neg hlt]; rfl
        · exact e0.trans y0.symm
        · exact e1.trans y1.symm
      · simp only [List.mem_cons, List.not_mem_nil, or_false] at hp
        subst hp
        show LsRec _ (.lvar 1) (l2 q)
        rw [eq]
        exact LsRec.var' (by omega) rfl
      · unfold lJ
        rw [if_neg (by omega), if_neg (by omega), if_neg (by omega), if_neg (by omega), hls, Nat.add_sub_cancel_left]
    refine ⟨fun hq => ?_, fun hq => ?_⟩
    · have hlt : x.fr < x.tp := by
        have := of_decide_eq_true (show decide ((v 6).ev (x.σ x.m) < (v 7).ev (x.σ x.m)) = true from hq)
        rw [y6, y7] at this
        omega
      exact fin (v 6) (by rw [if_pos hlt])
    · have hlt : ¬ x.fr < x.tp := by
        have := of_decide_eq_false (show decide ((v 6).ev (x.σ x.m) < (v 7).ev (x.σ x.m)) = false from hq)
        rw [y6, y7] at this
        omega
      exact fin (l (-1)) (by rw [if_neg hlt])
end
end Cc
end Go.Proofs.Ytmfemophafncnaa.Ft

/-
  wainscotlaw25.slabbed, as a known call. No condition.
-/
namespace Go.Proofs.Ytmfemophafncnaa.Ft
open Go Ex Mem See Fast
open Go.RowKit
theorem fn_slabbed : FnOk Try.prog 15 := ⟨Try.f15, _, Try.func15, by kernel_rfl, rfl⟩
section
variable {c : Cn} (hc : c.Ok) {σ : Nat → Int}
include hc
theorem ev_first {s : SE} {S : Nat} (hs : s.ev σ = (S : Int)) (hS : S < 8) : (firstE (c.n : Int) s).ev σ = (fsIx c.n (S : Int) : Int) := by
  have := hc.n4
  have h1 := ev_mul (a := l 4) (b := s) (x := 4) rfl hs (by omega) (by omega)
  have h2 := ev_add (a := l (4 * (c.n : Int) + 4)) (x := 4 * (c.n : Int) + 4) rfl h1 (by omega) (by omega)
  show (add (l (4 * (c.n : Int) + 4)) (.bin .mul (l 4) s)).ev σ = _
  rw [h2]
  unfold fsIx
  omega
theorem ev_first1 {s : SE} {S : Nat} (hs : s.ev σ = (S : Int)) (hS : S < 8) : (first1 (c.n : Int) s).ev σ = (ctIx c.n (S : Int) : Int) := by
  have := hc.n4
  have h1 := ev_add (ev_first hc hs hS) (b := l 1) (y := 1) rfl (by unfold fsIx; omega) (by unfold fsIx; omega)
  show (add (firstE (c.n : Int) s) (l 1)).ev σ = _
  rw [h1]
  unfold fsIx ctIx
  omega
theorem ev_next {s : SE} {S : Nat} (hs : s.ev σ = (S : Int)) (hS : S < 8) : (nextE (c.n : Int) s).ev σ = (nxIx c.n (S : Int) : Int) := by
  have := hc.n4
  have h1 := ev_add (ev_first hc hs hS) (b := l 2) (y := 2) rfl (by unfold fsIx; omega) (by unfold fsIx; omega)
  show (add (firstE (c.n : Int) s) (l 2)).ev σ = _
  rw [h1]
  unfold fsIx nxIx
  omega
end
/-- what slabbed sees -/
structure Cs extends Cn where
  S : Nat
  own : Nat
  mine : Nat
  cnt : Nat
  fz : Bool
  g : List Nat
  ls : Nat → List (List Int)
namespace Cs
structure Ok (x : Cs) : Prop extends x.toCn.Ok where
  S : x.S < 8
  om : x.own ≤ x.mine
  mO : x.mine ≤ x.O
  cnt : x.cnt < 250
  len : x.g.length = 4 * x.n + 36 + 8 * x.O
def b (x : Cs) : Nat := 4 * x.n + 36 + x.S * x.O
def key (x : Cs) : Nat := See.keyOf 11 x.S
def pk (x : Cs) : Nat := packN (x.O - x.own) x.O x.fz true
def g1 (x : Cs) : List Nat := chG x.b x.key 0 x.own x.g x.own
def g2 (x : Cs) : List Nat := (x.g1.set (fsIx x.n x.S) (if x.own = 0 then 0 else 1)).set (ctIx x.n x.S) x.pk
def g3 (x : Cs) : List Nat := slbG x.n x.O x.S x.own x.mine x.fz x.g
def vS (x : Cs) (i : Nat) : Int := match i with
  | 0 => (x.O : Int) - 1
  | 1 => x.mn
  | 5 => x.S
  | 6 => x.own
  | 7 => x.mine
  | 8 => x.cnt
  | 31 => x.pk
  | 32 => if 0 < x.own then ((0 : Nat) : Int) else -1
  | 33 => if x.own < x.mine then (x.own : Int) else -1
  | 34 => ((x.cnt + x.own : Nat) : Int)
  | 35 => ((x.cnt + x.own + 2 + (x.mine - x.own) : Nat) : Int)
  | _ => 0
def lS (x : Cs) (q : Nat) : List (List Int) := if q = 0 then one (natsI x.g) else if q = 1 then one (natsI x.g1) else if q = 2 then one (natsI x.g3) else if q < 40 then [] else if q < 50 then x.ls q else x.ls (q - 50)
def σ (x : Cs) : Nat → Int := sg x.vS x.lS
/-- its two chains -/
def c1 (x : Cs) : Cc := { toCn := x.toCn, S := x.S, fr := 0, tp := x.own, cnt := x.cnt, g := x.g, ls := x.lS }
def c2 (x : Cs) : Cc := { toCn := x.toCn, S := x.S, fr := x.own, tp := x.mine, cnt := x.cnt + x.own + 2, g := x.g2, ls := x.lS }
section
variable {x : Cs}
theorem ev {i : Nat} (hi : i < 2048) : (v i).ev x.σ = x.vS i := ev_v hi
theorem y0 : (v 0).ev x.σ = (x.O : Int) - 1 := by rw [ev (by omega)]; rfl
theorem y1 : (v 1).ev x.σ = (x.mn : Int) := by rw [ev (by omega)]; rfl
theorem y5 : (v 5).ev x.σ = (x.S : Int) := by rw [ev (by omega)]; rfl
theorem y6 : (v 6).ev x.σ = (x.own : Int) := by rw [ev (by omega)]; rfl
theorem y7 : (v 7).ev x.σ = (x.mine : Int) := by rw [ev (by omega)]; rfl
theorem y8 : (v 8).ev x.σ = (x.cnt : Int) := by rw [ev (by omega)]; rfl
theorem y31 : (v 31).ev x.σ = (x.pk : Int) := by rw [ev (by omega)]; rfl
theorem y32 : (v 32).ev x.σ = if 0 < x.own then ((0 : Nat) : Int) else -1 := by rw [ev (by omega)]; rfl
theorem y33 : (v 33).ev x.σ = if x.own < x.mine then (x.own : Int) else -1 := by rw [ev (by omega)]; rfl
theorem y34 : (v 34).ev x.σ = ((x.cnt + x.own : Nat) : Int) := by rw [ev (by omega)]; rfl
theorem y35 : (v 35).ev x.σ = ((x.cnt + x.own + 2 + (x.mine - x.own) : Nat) : Int) := by rw [ev (by omega)]; rfl
variable (h : x.Ok)
include h
theorem g1_len : x.g1.length = 4 * x.n + 36 + 8 * x.O := by unfold g1; rw [chG_len, h.len]
theorem g2_len : x.g2.length = 4 * x.n + 36 + 8 * x.O := by unfold g2; rw [List.length_set, List.length_set, g1_len h]
theorem g3_len : x.g3.length = 4 * x.n + 36 + 8 * x.O := by unfold g3; rw [slbG_len, h.len]
theorem ok1 : x.c1.Ok := ⟨h.toOk, h.S, Nat.zero_le _, by have := h.om; have := h.mO; show x.own ≤ x.O; omega, by have := h.cnt; show x.cnt < 300; omega, h.len⟩
theorem ok2 : x.c2.Ok := ⟨h.toOk, h.S, h.om, h.mO, by have := h.cnt; have := h.om; have := h.mO; have := h.O16; show x.cnt + x.own + 2 < 300; omega, g2_len h⟩
theorem mid : LsRec x.σ (midL (x.n : Int) (v 5)) (one (natsI x.g2)) := by
  have hS := h.S
  have r1 : LsRec x.σ (.lvar 1) (one (natsI x.g1)) := LsRec.var' (by omega) rfl
  have a1 : (SE.cv .u64 (add (v 32) (l 1))).ev x.σ = ((if x.own = 0 then 0 else 1 : Nat) : Int) := by
    have := ev_add (y32 (x := x)) (b := l 1) (y := 1) rfl (by split <;> omega) (by split <;> omega)
    show IntKind.u64.wrap ((add (v 32) (l 1)).ev x.σ) = _
    rw [this]
    by_cases h0 : x.own = 0
    · rw [if_neg (by omega), if_pos h0]; rfl
    · rw [if_pos (by omega), if_neg h0]; rfl
  have r2 := rec_set r1 (ev_first h.toOk y5 hS) a1 (by rw [g1_len h]; unfold fsIx; omega)
  exact rec_set r2 (ev_first1 h.toOk y5 hS) y31 (by rw [List.length_set, g1_len h]; unfold ctIx; omega)
theorem midc : midC.ev x.σ = ((x.cnt + x.own + 2 : Nat) : Int) := by
  have := h.cnt
  have := h.om
  have := h.mO
  have := h.O16
  have h1 := ev_add (y34 (x := x)) (b := l 1) (y := 1) rfl (by omega) (by omega)
  have h2 := ev_add h1 (b := l 1) (y := 1) rfl (by omega) (by omega)
  show (add (add (v 34) (l 1)) (l 1)).ev x.σ = _
  rw [h2]
  omega
theorem kcs {ro : Nat → Option (Option Addr × Nat × Nat)} (hro : ∀ i p, ro i = some p → 40 ≤ i ∧ i < 43) : KcAll [] rks ro Try.prog x.σ Ωn (kgs (kcsSl M0 (x.n : Int) x.fz)) := by
  have a1 := h.O1
  have a2 := h.O16
  have a3 := h.om
  have a4 := h.mO
  refine kcAll_cons (fun fs ok => ?_) (kcAll_cons (fun fs ok => ?_) (kcAll_cons (fun fs ok => ?_) kcAll_nil))
  · letI N : Nums := nums [] rks ro x.σ Ωn fs ok
    refine kc_pack (A := x.O - x.own) (B := x.O) ?_ (ev_k h.toOk y0) (by omega) (by omega) a2 y31
    have := ev_sub (ev_k h.toOk (y0 (x := x))) (y6 (x := x)) (by omega) (by omega)
    rw [show (v 6 : SE) = v 6 from rfl] at this
    show (SE.bin .sub kE (v 6)).ev x.σ = _
    rw [this]
    omega
  · exact Cc.kc (x := x.c1) (ok1 h) hro (v2 := x.vS) (l2 := x.lS) rfl rfl rfl rfl rfl rfl rfl y5 rfl y6 y8 (LsRec.var' (by omega) rfl) rfl rfl rfl fs ok
  · exact Cc.kc (x := x.c2) (ok2 h) hro (v2 := x.vS) (l2 := x.lS) rfl rfl rfl rfl rfl rfl rfl y5 y6 y7 (midc h) (mid h) rfl rfl rfl fs ok
/-- what is told of its caller's numbers -/
def thE (q rcnt r : Nat) (v2 : Nat → Int) : Sub := bk [(rcnt, v 35), (r, v 33), (0, v 0), (1, v 1)] [(q, .lvar 2)] v2
/-- SLABBED, AS A KNOWN CALL -/
theorem kc {ro : Nat → Option (Option Addr × Nat × Nat)} (hro : ∀ i p, ro i = some p → 40 ≤ i ∧ i < 43) {v2 : Nat → Int} {l2 : Nat → List (List Int)} (hls : x.ls = l2) {s own mine L cnt : SE} {q rcnt r : Nat}
    (hform : kcForm (kcSlab M0 (x.n : Int) s own mine x.fz L cnt q rcnt r) (memA M0 (x.n : Int) (v 8) (.lvar 0)) ⟨9, 1, 0, 40⟩ (argS M0 (x.n : Int) (v 5) (v 6) (v 7) x.fz) = true) (hleaf : leafOk (kcSlab M0 (x.n : Int) s own mine x.fz L cnt q rcnt r) (memA M0 (x.n : Int) (v 8) (.lvar 0)) 40 (thE q rcnt r v2) ⟨44, 10, 0, rel⟩ = true)
    (hres : (kcSlab M0 (x.n : Int) s own mine x.fz L cnt q rcnt r).res.sub (thE q rcnt r v2) = .sym .i64 (v 33)) (hpost : leafPost (kcSlab M0 (x.n : Int) s own mine x.fz L cnt q rcnt r) (thE q rcnt r v2) = memA M0 (x.n : Int) (v 35) (.lvar 2))
    (e0 : v2 0 = (x.O : Int) - 1) (e1 : v2 1 = (x.mn : Int)) (es : s.ev (sg v2 l2) = x.S) (eo : own.ev (sg v2 l2) = x.own) (em : mine.ev (sg v2 l2) = x.mine) (ecnt : cnt.ev (sg v2 l2) = x.cnt) (eL : LsRec (sg v2 l2) L (one (natsI x.g)))
    (eq : l2 q = one (natsI x.g3)) (erc : v2 rcnt = ((x.cnt + x.own + 2 + (x.mine - x.own) : Nat) : Int)) (er : v2 r = if x.own < x.mine then (x.own : Int) else -1) (fs) (ok : ∀ f ∈ fs, f.1.ev (sg v2 l2) = f.2) : @KcOk (nums [] rks ro (sg v2 l2) Ωn fs ok) Try.prog (kcSlab M0 (x.n : Int) s own mine x.fz L cnt q rcnt r) := by
  have a1 := h.O1
  have a2 := h.O16
  have a3 := h.mn
  have a4 := h.S
  have a5 := h.mO
  have a6 := h.om
  have a7 := h.n4
  have a8 := h.cnt
  have a9 := h.n1
  refine kc_tree (σ1 := x.σ) (Ω1 := Ωn) (A := argS M0 (x.n : Int) (v 5) (v 6) (v 7) x.fz) (pre := memA M0 (x.n : Int) (v 8) (.lvar 0)) (B0 := ⟨9, 1, 0, 40⟩) (θ0 := { v := [(5, s), (6, own), (7, mine), (8, cnt), (2, l 0), (3, l 0), (4, l 0)], l := [(0, L)] }) (kcs := kgs (kcsSl M0 (x.n : Int) x.fz)) (lns := []) (n := 30)
    (k := kcSlab M0 (x.n : Int) s own mine x.fz L cnt q rcnt r) (d := (kcSlab M0 (x.n : Int) (v 5) (v 6) (v 7) x.fz (.lvar 0) (v 8) 20 20 21).leaf { v := [(20, v 35), (21, v 33)], l := [(20, .lvar 2)] }) (fs1 := fSl (x.n : Int)) mixed fn_slabbed rfl rfl rfl rfl hform (kcs h hro) lnAll_nil (fun q hq => ?_) (ok_Sl x.fz h.n1 h.n4) ?_ ?_ fs ok
  · simp only [fSl, fN, List.append_assoc, List.mem_append] at hq
    have len : ∀ q g, q < 64 → x.lS q = one (natsI g) → g.length = 4 * x.n + 36 + 8 * x.O → (SE.len (.lvar q)).ev x.σ = ((4 * x.n + 36 + 8 * x.O : Nat) : Int) := fun q g h1 h2 h3 => by
      rw [← h3]
      exact ev_len h1 h2
    rcases hq with hq | hq | hq | hq | hq | hq | hq | hq | hq | hq | hq | hq
    · exact rng_ok y0 (by omega) (by omega) q hq
    · exact rng_ok y1 (by omega) (by omega) q hq
    · exact rng_ok y5 (by omega) (by omega) q hq
    · exact rng_ok y6 (by omega) (by omega) q hq
    · exact rng_ok y7 (by omega) (by omega) q hq
    · exact rng_ok y8 (by omega) (by omega) q hq
    · exact rng_ok y32 (by split <;> omega) (by split <;> omega) q hq
    · exact rng_ok y34 (by omega) (by omega) q hq
    · exact rng_ok y35 (by omega) (by omega) q hq
    · exact rng_ok (len 0 x.g (by omega) rfl h.len) (by omega) (by omega) q hq
    · exact rng_ok (len 1 x.g1 (by omega) rfl (g1_len h)) (by omega) (by omega) q hq
    · exact rng_ok (len 2 x.g3 (by omega) rfl (g3_len h)) (by omega) (by omega) q hq
  · refine agree_sgR (fun i p hp => ?_) (by decide) (by decide) rfl (fun i hi => ?_) fun q hq => ?_
    · have hi := hro i p hp
      refine ⟨by omega, LsRec.var' (by omega) ?_⟩
      unfold lS
      rw [if_neg (by omega), if_neg (by omega), if_neg (by omega), if_neg (by omega), if_pos (by omega), hls]
    · have hi : i < 9 := hi
      match i, hi with
      | 0, _ =>
        show (x.O : Int) - 1 = sg v2 l2 0
        rw [sg_v (by omega), e0]
      | 1, _ =>
        show (x.mn : Int) = sg v2 l2 1
        rw [sg_v (by omega), e1]
      | 2, _ => rfl
      | 3, _ => rfl
      | 4, _ => rfl
      | 5, _ => exact es.symm
      | 6, _ => exact eo.symm
      | 7, _ => exact em.symm
      | 8, _ => exact ecnt.symm
      | i + 9, hi => exact absurd hi (by omega)
    · obtain rfl : q = 0 := by have : q < 1 := hq; omega
      exact eL
  · refine ⟨thE q rcnt r v2, ⟨44, 10, 0, rel⟩, by rw [hres]; rfl, hpost.symm, hleaf, ?_⟩
    refine agree_bk (fun i p hp => ?_) (fun p hp => ?_) (fun p hp => ?_) (fun i hi => ?_)
    · have hi := hro i p hp
      refine ⟨by omega, ?_⟩
      unfold lS
      rw [if_neg (by omega), if_neg (by omega), if_neg (by omega), if_neg (by omega), if_pos (by omega), hls]
    · simp only [List.mem_cons, List.not_mem_nil, or_false] at hp
      rcases hp with rfl | rfl | rfl | rfl
      · exact erc.trans y35.symm
      · exact er.trans y33.symm
      · exact e0.trans y0.symm
      · exact e1.trans y1.symm
    · simp only [List.mem_cons, List.not_mem_nil, or_false] at hp
      subst hp
      show LsRec _ (.lvar 2) (l2 q)
      rw [eq]
      exact LsRec.var' (by omega) rfl
    · unfold lS
      rw [if_neg (by omega), if_neg (by omega), if_neg (by omega), if_neg (by omega), if_neg (by omega), hls, Nat.add_sub_cancel_left]
end
end Cs
end Go.Proofs.Ytmfemophafncnaa.Ft

/-
  wainscotlaw25's World.core: how its words come to be, in plain numbers. No condition.
-/
namespace Go.Proofs.Ytmfemophafncnaa.Ft
open Go Ex Mem See Fast
open Go.RowKit
/-- a world -/
structure Wo extends Cn where
  x0 : Int
  x1 : Int
  x2 : Int
  how : List Int
  own : List Int
  mine : List Int
/-- the state of the core's loop: the slab, how many heads, accesses, words -/
structure Ws where
  t : Nat
  hd : Nat
  cnt : Nat
  g : List Nat
namespace Wo
def ow (x : Wo) (s : Ws) : Nat := (x.own.getD s.t 0 % ((x.O + 1 : Nat) : Int)).toNat
def mi (x : Wo) (s : Ws) : Nat := (x.mine.getD s.t 0 % ((x.O - x.ow s + 1 : Nat) : Int)).toNat
def hw (x : Wo) (s : Ws) : Nat := (x.how.getD s.t 0 % 6).toNat
def way (x : Wo) (s : Ws) : Way :=
  if x.hw s = 0 then .none false else if x.hw s = 5 then .shelf true else if x.hw s = 4 then .full 4 else if x.hw s = 2 then (if s.hd = x.n then .none true else .head) else if x.hw s = 1 then (if x.ow s = 0 then .full 1 else .shelf false) else (if x.ow s = 0 then .full 3 else .part)
def la (x : Wo) (s : Ws) : Nat := match x.way s with
  | .shelf true => x.O
  | .shelf false => x.ow s
  | .head => x.ow s
  | .part => x.ow s
  | _ => 0
def lb (x : Wo) (s : Ws) : Nat := match x.way s with
  | .shelf true => x.O
  | .shelf false => x.ow s
  | .head => x.ow s + x.mi s
  | .part => x.ow s
  | _ => 0
def lf (x : Wo) (s : Ws) : Bool := match x.way s with
  | .head => true
  | .part => true
  | _ => false
def g6 (x : Wo) (s : Ws) : List Nat := slbG x.n x.O s.t (x.la s) (x.lb s) (x.lf s) s.g
def c6 (x : Wo) (s : Ws) : Nat := s.cnt + x.la s + 2 + (x.lb s - x.la s)
def f6 (x : Wo) (s : Ws) : Int := if x.la s < x.lb s then (x.la s : Int) else -1
def cpu (x : Wo) (s : Ws) : Nat := s.t % x.n
def pa (x : Wo) (s : Ws) : Int × Int := (partOf (at_ (x.g6 s) (4 * x.cpu s + 2))).getD (-1, 0)
def inner (x : Wo) (s : Ws) (k : Nat) : Int := match k with
  | 0 => x.ow s
  | 1 => x.mi s
  | 2 => x.hw s
  | 3 => x.f6 s
  | 4 => (headW (s.t : Int) (x.f6 s) : Nat)
  | 5 => (x.pa s).1
  | 6 => (x.pa s).2
  | 7 => (partW (s.t : Int) ((x.pa s).2 + 1) : Nat)
  | 8 => x.c6 s
  | _ => 0
def nxt (x : Wo) (s : Ws) : Ws := match x.way s with
  | .none _ => { s with t := s.t + 1 }
  | .shelf _ => ⟨s.t + 1, s.hd, x.c6 s + 4, (((x.g6 s).set (nxIx x.n s.t) (at_ (x.g6 s) (4 * x.n + 1))).set (4 * x.n + 1) (s.t + 1)).set (4 * x.n + 2) (at_ (x.g6 s) (4 * x.n + 2) + 1)⟩
  | .head => ⟨s.t + 1, s.hd + 1, x.c6 s + 1, (x.g6 s).set (4 * s.hd) (headW (s.t : Int) (x.f6 s))⟩
  | .part => ⟨s.t + 1, s.hd, x.c6 s + 3, ((x.g6 s).set (nxIx x.n s.t) (at_ (x.g6 s) (4 * x.cpu s + 2))).set (4 * x.cpu s + 2) (partW (s.t : Int) ((x.pa s).2 + 1))⟩
  | .full _ => ⟨s.t + 1, s.hd, x.c6 s, x.g6 s⟩
theorem nxt_t {x : Wo} {s : Ws} : (x.nxt s).t = s.t + 1 := by unfold nxt; split <;> rfl
theorem way_mem {x : Wo} {s : Ws} : x.way s ∈ ways := by
  unfold way
  repeat' split
  all_goals simp [ways]
/-- how a state stands -/
structure Good (x : Wo) (s : Ws) : Prop where
  hd : s.hd ≤ x.n
  cnt : s.cnt ≤ 22 * s.t
  sd : ∃ A P u, Sd x.n x.O s.g A P u 0 A.length s.t
section
variable {x : Wo} {s : Ws} (hx : x.toCn.Ok) (h : x.Good s) (ht : s.t < 8)
include hx
omit hx in
theorem ow_le : x.ow s ≤ x.O := by
  have := Int.emod_lt_of_pos (x.own.getD s.t 0) (show (0 : Int) < ((x.O + 1 : Nat) : Int) by omega)
  unfold ow
  omega
omit hx in
theorem mi_le : x.ow s + x.mi s ≤ x.O := by
  have := ow_le (x := x) (s := s)
  have h2 := Int.emod_lt_of_pos (x.mine.getD s.t 0) (show (0 : Int) < ((x.O - x.ow s + 1 : Nat) : Int) by omega)
  unfold mi
  omega
omit hx in
theorem hw_lt : x.hw s < 6 := by unfold hw; omega
omit hx in
theorem lab : x.la s ≤ x.lb s ∧ x.lb s ≤ x.O := by
  have h1 := ow_le (x := x) (s := s)
  have h2 := mi_le (x := x) (s := s)
  unfold la lb
  split <;> simp <;> omega
omit hx in
theorem Good.len (h : x.Good s) : s.g.length = 4 * x.n + 36 + 8 * x.O := by
  obtain ⟨A, P, u, hs⟩ := h.sd
  exact hs.len
theorem g6_sd (h : x.Good s) (ht : s.t < 8) : ∃ A P u, Sd x.n x.O (x.g6 s) A P u 0 A.length s.t := by
  obtain ⟨A, P, u, hs⟩ := h.sd
  have hl := lab (x := x) (s := s)
  exact ⟨A, P, u, hs.slb ht hl.1 hl.2 hx.O16 hx.O1⟩
theorem cpu_lt : x.cpu s < x.n := Nat.mod_lt _ hx.n1
theorem pa_is (h : x.Good s) (ht : s.t < 8) : ∃ k : Nat, k ≤ s.t ∧ partOf (at_ (x.g6 s) (4 * x.cpu s + 2)) = some (x.pa s) ∧ (x.pa s).2 = k ∧ -1 ≤ (x.pa s).1 ∧ (x.pa s).1 < 8 := by
  obtain ⟨A, P, u, hs⟩ := g6_sd hx h ht
  obtain ⟨k, h1, h2⟩ := hs.many _ (cpu_lt hx (s := s))
  have h3 := Back.fst_in (L := P (x.cpu s)) (O := s.t) (hs.bdP _ (cpu_lt hx))
  unfold pa
  rw [h2]
  exact ⟨k, h1, rfl, rfl, h3.1, by show Back.fst (P (x.cpu s)) < 8; omega⟩
omit hx in
theorem headW_of {a : Nat} {o : Int} (ha : a < 8) (h0 : -1 ≤ o) (h1 : o < 16) : headOf (headW a o) = some ((a : Int), o) ∧ headW a o < 18446744073709551616 := by
  unfold headW headOf
  rw [if_neg (by omega), if_pos (by omega)]
  refine ⟨?_, by omega⟩
  congr 1
  apply Prod.ext
  · show (((64 * ((a : Int) + 1) + (o + 1)).toNat / 64 : Nat) : Int) - 1 = a
    omega
  · show (((64 * ((a : Int) + 1) + (o + 1)).toNat % 64 : Nat) : Int) - 1 = o
    omega
omit hx in
theorem partW_of {a k : Nat} (ha : a < 8) (h0 : 1 ≤ k) (h1 : k < 20) : partOf (partW a k) = some ((a : Int), (k : Int)) ∧ partW a k < 18446744073709551616 := by
  unfold partW partOf
  rw [if_neg (by omega), if_pos (by omega)]
  refine ⟨?_, by omega⟩
  congr 1
  apply Prod.ext
  · show (((64 * (k : Int) + ((a : Int) + 1)).toNat % 64 : Nat) : Int) - 1 = a
    omega
  · show (((64 * (k : Int) + ((a : Int) + 1)).toNat / 64 : Nat) : Int) = k
    omega
theorem f6_in : -1 ≤ x.f6 s ∧ x.f6 s < 16 := by
  have h1 := lab (x := x) (s := s)
  have h2 := hx.O16
  unfold f6
  split <;> omega
/-- the next state stands well -/
theorem good_next (h : x.Good s) (ht : s.t < 8) : x.Good (x.nxt s) := by
  obtain ⟨A, P, u, hs⟩ := h.sd
  have hl := lab (x := x) (s := s)
  have h6 := hs.slb (own := x.la s) (mine := x.lb s) (fz := x.lf s) ht hl.1 hl.2 hx.O16 hx.O1
  have hcnt := h.cnt
  have hO := hx.O16
  have hhd := h.hd
  have hc6 : x.c6 s ≤ 22 * s.t + 18 := by unfold c6; omega
  have hAl := few hs.nd hs.bd
  have e6 : slbG x.n x.O s.t (x.la s) (x.lb s) (x.lf s) s.g = x.g6 s := rfl
  rw [e6] at h6
  cases hw : x.way s with
  | none two =>
    unfold nxt
    rw [hw]
    exact ⟨hhd, by show s.cnt ≤ 22 * (s.t + 1); omega, A, P, u, hs.up ht⟩
  | shelf all =>
    have hlf : x.lf s = false := by unfold lf; rw [hw]
    have hct := slbG_ct (n := x.n) (O := x.O) (s := s.t) (own := x.la s) (mine := x.lb s) (fz := x.lf s) hs.len ht
    rw [e6, hlf] at hct
    have hc : countsOf (at_ (x.g6 s) (ctIx x.n s.t)) = some ⟨x.O - x.la s, x.O, false, true⟩ := by
      rw [hct]
      exact Back.countsOf_pack (by omega) hx.O1 hO
    have hp := h6.push ht (hd' := at_ (x.g6 s) (4 * x.n + 2) + 1) hc (by rw [h6.held]; omega)
    unfold nxt
    rw [hw]
    refine ⟨hhd, by show x.c6 s + 4 ≤ 22 * (s.t + 1); omega, (s.t : Int) :: A, P, fun s' => if s' = s.t then x.O - x.la s else u s', ?_⟩
    have e : ((s.t : Int) :: A).length = at_ (x.g6 s) (4 * x.n + 2) + 1 := by rw [h6.held]; rfl
    rw [e]
    exact hp
  | head =>
    have hlt : s.hd < x.n := by
      have : x.way s = .head := hw
      unfold way at this
      repeat' split at this
      all_goals first | cases this; done | omega
    have hf := f6_in hx (s := s)
    have hh := headW_of ht hf.1 hf.2
    have hlist : ∃ l, listP (cO x.n x.O) (x.g6 s) s.t (x.f6 s) = some l := ⟨_, slbG_mine hs.len ht hl.1 hl.2 hO⟩
    have hp := h6.head ht hlt hh.2 hh.1 hlist
    unfold nxt
    rw [hw]
    exact ⟨hlt, by show x.c6 s + 1 ≤ 22 * (s.t + 1); omega, A, P, u, hp⟩
  | part =>
    obtain ⟨k, k1, k2, k3, _, _⟩ := pa_is hx h ht
    have hh := partW_of (a := s.t) (k := k + 1) ht (by omega) (by omega)
    have hp := h6.part ht (i := x.cpu s) (k := k + 1) (cpu_lt hx) hh.2 (by omega) hh.1
    unfold nxt
    rw [hw]
    refine ⟨hhd, by show x.c6 s + 3 ≤ 22 * (s.t + 1); omega, A, fun j => if j = x.cpu s then (s.t : Int) :: P (x.cpu s) else P j, u, ?_⟩
    rw [k3]
    exact hp
  | full k =>
    unfold nxt
    rw [hw]
    exact ⟨hhd, by show x.c6 s ≤ 22 * (s.t + 1); omega, A, P, u, h6.up ht⟩
end
/-- the states, one by one -/
def s0 (x : Wo) : Ws := ⟨0, 0, 0, List.replicate (4 * x.n + 36 + 8 * x.O) 0⟩
def st (x : Wo) : Nat → Ws
  | 0 => x.s0
  | j + 1 => x.nxt (x.st j)
theorem st_t {x : Wo} : ∀ j, (x.st j).t = j
  | 0 => rfl
  | j + 1 => by show (x.nxt (x.st j)).t = _; rw [nxt_t, st_t j]
theorem st_good {x : Wo} (hx : x.toCn.Ok) : ∀ j, j ≤ 8 → x.Good (x.st j)
  | 0, _ => ⟨Nat.zero_le _, Nat.zero_le _, _, _, _, Sd.zero⟩
  | j + 1, h => good_next hx (st_good hx j (by omega)) (by rw [st_t]; omega)
end Wo
end Go.Proofs.Ytmfemophafncnaa.Ft

/-
  wainscotlaw25's World.core: readings, calls, a round. No condition.
-/
namespace Go.Proofs.Ytmfemophafncnaa.Ft
open Go Ex Mem See Fast
open Go.RowKit
theorem fn_core : FnOk Try.prog 4 := ⟨Try.f4, _, Try.func4, by kernel_rfl, rfl⟩
theorem rec_atI {σ : Nat → Int} {L e : SE} {g : List Int} {i : Nat} (hL : LsRec σ L (one g)) (he : e.ev σ = (i : Int)) : (SE.at L e 0).ev σ = g.getD i 0 := by
  show L.evA σ (e.ev σ).toNat 0 = _
  rw [he, Int.toNat_natCast, hL.at_ i 0 (by omega), one_at, if_pos rfl]
namespace Wo
/-- a reading: of the state, and of the next one -/
def vS (x : Wo) (s s2 : Ws) (i : Nat) : Int :=
  if i < 10 then (match i with | 0 => (x.O : Int) - 1 | 1 => x.mn | 2 => s.t | 3 => s.hd | 4 => s.cnt | _ => 0)
  else if i < 19 then x.inner s (i - 10)
  else if i < 33 then (match i with | 30 => x.x0 | 31 => x.x1 | 32 => x.x2 | _ => 0)
  else if i < 60 then 0 else x.inner s2 (i - 60)
def lB (x : Wo) (ls : Nat → List (List Int)) (q : Nat) : List (List Int) := if q = 1 then one (natsI x.s0.g) else if q = 40 then one x.how else if q = 41 then one x.own else if q = 42 then one x.mine else if 50 ≤ q ∧ q < 60 then ls (q - 50) else []
def lS (x : Wo) (ls : Nat → List (List Int)) (s s2 : Ws) (q : Nat) : List (List Int) := if q = 0 then one (natsI s.g) else if q = 6 then one (natsI (x.g6 s)) else if q = 60 then one (natsI (x.g6 s2)) else x.lB ls q
theorem lS_B {x : Wo} {ls : Nat → List (List Int)} {s s2 : Ws} {q : Nat} (h0 : q ≠ 0) (h6 : q ≠ 6) (h60 : q ≠ 60) : x.lS ls s s2 q = x.lB ls q := by
  unfold lS
  rw [if_neg h0, if_neg h6, if_neg h60]
def σ (x : Wo) (ls : Nat → List (List Int)) (s s2 : Ws) : Nat → Int := sg (x.vS s s2) (x.lS ls s s2)
/-- what is known of a world's numbers -/
structure Ok (x : Wo) : Prop extends x.toCn.Ok where
  e0 : (x.n : Int) = 1 + x.x0 % 4
  e1 : (x.O : Int) = 1 + x.x1 % 16
  e2 : (x.mn : Int) = x.x2 % 3
  w0 : (Lit.int .i64 x.x0).wf = true
  w1 : (Lit.int .i64 x.x1).wf = true
  w2 : (Lit.int .i64 x.x2).wf = true
  wh : ∀ i, (Lit.int .i64 (x.how.getD i 0)).wf = true
  wo : ∀ i, (Lit.int .i64 (x.own.getD i 0)).wf = true
  wm : ∀ i, (Lit.int .i64 (x.mine.getD i 0)).wf = true
section
variable {x : Wo} {ls : Nat → List (List Int)} {s s2 : Ws}
theorem ev {i : Nat} (hi : i < 2048) : (v i).ev (x.σ ls s s2) = x.vS s s2 i := ev_v hi
theorem y0 : (v 0).ev (x.σ ls s s2) = (x.O : Int) - 1 := by rw [ev (by omega)]; rfl
theorem y1 : (v 1).ev (x.σ ls s s2) = (x.mn : Int) := by rw [ev (by omega)]; rfl
theorem y2 : (v 2).ev (x.σ ls s s2) = (s.t : Int) := by rw [ev (by omega)]; rfl
theorem y3 : (v 3).ev (x.σ ls s s2) = (s.hd : Int) := by rw [ev (by omega)]; rfl
theorem y4 : (v 4).ev (x.σ ls s s2) = (s.cnt : Int) := by rw [ev (by omega)]; rfl
theorem y10 : (v 10).ev (x.σ ls s s2) = (x.ow s : Int) := by rw [ev (by omega)]; rfl
theorem y11 : (v 11).ev (x.σ ls s s2) = (x.mi s : Int) := by rw [ev (by omega)]; rfl
theorem y12 : (v 12).ev (x.σ ls s s2) = (x.hw s : Int) := by rw [ev (by omega)]; rfl
theorem y13 : (v 13).ev (x.σ ls s s2) = x.f6 s := by rw [ev (by omega)]; rfl
theorem y14 : (v 14).ev (x.σ ls s s2) = (headW (s.t : Int) (x.f6 s) : Nat) := by rw [ev (by omega)]; rfl
theorem y15 : (v 15).ev (x.σ ls s s2) = (x.pa s).1 := by rw [ev (by omega)]; rfl
theorem y16 : (v 16).ev (x.σ ls s s2) = (x.pa s).2 := by rw [ev (by omega)]; rfl
theorem y17 : (v 17).ev (x.σ ls s s2) = (partW (s.t : Int) ((x.pa s).2 + 1) : Nat) := by rw [ev (by omega)]; rfl
theorem y18 : (v 18).ev (x.σ ls s s2) = (x.c6 s : Int) := by rw [ev (by omega)]; rfl
theorem r0 : LsRec (x.σ ls s s2) (.lvar 0) (one (natsI s.g)) := LsRec.var' (by omega) rfl
theorem r6 : LsRec (x.σ ls s s2) (.lvar 6) (one (natsI (x.g6 s))) := LsRec.var' (by omega) rfl
theorem r40 : LsRec (x.σ ls s s2) (.lvar 40) (one x.how) := LsRec.var' (by omega) rfl
theorem r41 : LsRec (x.σ ls s s2) (.lvar 41) (one x.own) := LsRec.var' (by omega) rfl
theorem r42 : LsRec (x.σ ls s s2) (.lvar 42) (one x.mine) := LsRec.var' (by omega) rfl
theorem lenI {q : Nat} {L : List Int} (hq : q < 64) (h : x.lS ls s s2 q = one L) : (SE.len (.lvar q)).ev (x.σ ls s s2) = (L.length : Int) := by
  show ((sg (x.vS s s2) (x.lS ls s s2) (ln q)).toNat : Int) = _
  rw [sg_oneN hq h]
  rfl
variable (h : x.Ok) (hg : x.Good s) (ht : s.t < 8)
include h hg ht
omit h ht in
theorem g6_len : (x.g6 s).length = 4 * x.n + 36 + 8 * x.O := by unfold g6; rw [slbG_len, hg.len]
theorem c6_le : x.c6 s ≤ 400 := by
  have := hg.cnt
  have := lab (x := x) (s := s)
  have := h.O16
  unfold c6
  omega
omit hg in
theorem ev_cpu : (partE (x.n : Int)).ev (x.σ ls s s2) = ((4 * x.cpu s + 2 : Nat) : Int) := by
  have h1 := cpu_lt h.toOk (s := s)
  have h4 := h.n4
  have e1 : (cpuE (x.n : Int)).ev (x.σ ls s s2) = (x.cpu s : Int) := by
    show ((v 2).ev (x.σ ls s s2)).tmod (x.n : Int) = _
    rw [y2]
    unfold cpu
    rw [Int.tmod_eq_emod_of_nonneg (by omega)]
    omega
  have e2 := ev_mul (a := l 4) (x := 4) rfl e1 (by omega) (by omega)
  have e3 := ev_add e2 (b := l 2) (y := 2) rfl (by omega) (by omega)
  show (add (.bin .mul (l 4) (cpuE (x.n : Int))) (l 2)).ev _ = _
  rw [e3]
  omega
omit ht in
theorem cs_ok (ht : s.t < 8) (ls2 : Nat → List (List Int)) : (Cs.mk x.toCn s.t (x.la s) (x.lb s) s.cnt (x.lf s) s.g ls2).Ok :=
  ⟨h.toOk, ht, (lab (x := x) (s := s)).1, (lab (x := x) (s := s)).2, by have := hg.cnt; show s.cnt < 250; omega, hg.len⟩
/-- its slab, as a known call -/
theorem kcS {ro : Nat → Option (Option Addr × Nat × Nat)} (hro : ∀ i p, ro i = some p → 40 ≤ i ∧ i < 43) {own mine : SE} (hf : kcForm (kcSlab M0 (x.n : Int) (v 2) own mine (x.lf s) (.lvar 0) (v 4) 6 18 13) (memA M0 (x.n : Int) (v 8) (.lvar 0)) ⟨9, 1, 0, 40⟩ (argS M0 (x.n : Int) (v 5) (v 6) (v 7) (x.lf s)) = true)
    (ho : own.ev (x.σ ls s s2) = (x.la s : Int)) (hm : mine.ev (x.σ ls s s2) = (x.lb s : Int)) (fs) (ok : ∀ f ∈ fs, f.1.ev (x.σ ls s s2) = f.2) : @KcOk (nums [] rks ro (x.σ ls s s2) Ωn fs ok) Try.prog (slabK (x.n : Int) own mine (x.lf s)) :=
  Cs.kc (x := Cs.mk x.toCn s.t (x.la s) (x.lb s) s.cnt (x.lf s) s.g (x.lS ls s s2)) (cs_ok h hg ht _) hro (v2 := x.vS s s2) (l2 := x.lS ls s s2) rfl hf rfl rfl rfl rfl rfl y2 ho hm y4 r0 rfl rfl rfl fs ok
/-- its calls -/
theorem kcs {ro : Nat → Option (Option Addr × Nat × Nat)} (hro : ∀ i p, ro i = some p → 40 ≤ i ∧ i < 43) : KcAll [] rks ro Try.prog (x.σ ls s s2) Ωn (kgs (bringsW ++ (x.way s).kcs (x.n : Int))) := by
  have a1 := h.O1
  have a2 := h.O16
  have b1 := ow_le (x := x) (s := s)
  have b2 := mi_le (x := x) (s := s)
  have ek : kE.ev (x.σ ls s s2) = (x.O : Int) := ev_k h.toOk y0
  have tail : KcAll [] rks ro Try.prog (x.σ ls s s2) Ωn (kgs ((x.way s).kcs (x.n : Int))) := by
    cases hw : x.way s with
    | none two => exact kcAll_nil
    | shelf all =>
      cases all with
      | true =>
        have e1 : x.la s = x.O := by unfold la; rw [hw]
        have e2 : x.lb s = x.O := by unfold lb; rw [hw]
        have e3 : x.lf s = false := by unfold lf; rw [hw]
        refine kcAll_cons (fun fs ok => ?_) kcAll_nil
        have := kcS (ls := ls) (s2 := s2) h hg ht hro (own := kE) (mine := kE) (by cases x.lf s <;> rfl) (by rw [ek, e1]) (by rw [ek, e2]) fs ok
        rw [e3] at this
        exact this
      | false =>
        have e1 : x.la s = x.ow s := by unfold la; rw [hw]
        have e2 : x.lb s = x.ow s := by unfold lb; rw [hw]
        have e3 : x.lf s = false := by unfold lf; rw [hw]
        refine kcAll_cons (fun fs ok => ?_) kcAll_nil
        have := kcS (ls := ls) (s2 := s2) h hg ht hro (own := v 10) (mine := v 10) (by cases x.lf s <;> rfl) (by rw [y10, e1]) (by rw [y10, e2]) fs ok
        rw [e3] at this
        exact this
    | head =>
      have e1 : x.la s = x.ow s := by unfold la; rw [hw]
      have e2 : x.lb s = x.ow s + x.mi s := by unfold lb; rw [hw]
      have e3 : x.lf s = true := by unfold lf; rw [hw]
      have em : mineE.ev (x.σ ls s s2) = ((x.ow s + x.mi s : Nat) : Int) := by
        have := ev_add (y10 (x := x) (ls := ls) (s := s) (s2 := s2)) y11 (by omega) (by omega)
        show (add (v 10) (v 11)).ev _ = _
        rw [this]
        omega
      refine kcAll_cons (fun fs ok => ?_) (kcAll_cons (fun fs ok => ?_) kcAll_nil)
      · have := kcS (ls := ls) (s2 := s2) h hg ht hro (own := v 10) (mine := mineE) (by cases x.lf s <;> rfl) (by rw [y10, e1]) (by rw [em, e2]) fs ok
        rw [e3] at this
        exact this
      · letI N : Nums := nums [] rks ro (x.σ ls s s2) Ωn fs ok
        have := f6_in h.toOk (s := s)
        exact kc_headF y2 y13 ⟨by omega, by omega, by omega, by omega⟩ y14
    | part =>
      have e1 : x.la s = x.ow s := by unfold la; rw [hw]
      have e2 : x.lb s = x.ow s := by unfold lb; rw [hw]
      have e3 : x.lf s = true := by unfold lf; rw [hw]
      obtain ⟨k, k1, k2, k3, k4, k5⟩ := pa_is h.toOk hg ht
      have hcp := cpu_lt h.toOk (s := s)
      refine kcAll_cons (fun fs ok => ?_) (kcAll_cons (fun fs ok => ?_) (kcAll_cons (fun fs ok => ?_) kcAll_nil))
      · have := kcS (ls := ls) (s2 := s2) h hg ht hro (own := v 10) (mine := v 10) (by cases x.lf s <;> rfl) (by rw [y10, e1]) (by rw [y10, e2]) fs ok
        rw [e3] at this
        exact this
      · letI N : Nums := nums [] rks ro (x.σ ls s s2) Ωn fs ok
        obtain ⟨A, P, u, hs⟩ := g6_sd h.toOk hg ht
        exact kc_partOf (w0 := at_ (x.g6 s) (4 * x.cpu s + 2)) (rec_at r6 (ev_cpu h ht)) (Back.w64_at hs.w64 _) (x := (x.pa s).1) (y := (x.pa s).2) k2 y15 y16
      · letI N : Nums := nums [] rks ro (x.σ ls s s2) Ωn fs ok
        have e4 : (add (v 16) (l 1)).ev (x.σ ls s s2) = (x.pa s).2 + 1 := ev_add y16 rfl (by omega) (by omega)
        exact kc_partF y2 e4 ⟨by omega, by omega, by omega, by omega⟩ y17
    | full k =>
      have e1 : x.la s = 0 := by unfold la; rw [hw]
      have e2 : x.lb s = 0 := by unfold lb; rw [hw]
      have e3 : x.lf s = false := by unfold lf; rw [hw]
      refine kcAll_cons (fun fs ok => ?_) kcAll_nil
      have := kcS (ls := ls) (s2 := s2) h hg ht hro (own := l 0) (mine := l 0) (by cases x.lf s <;> rfl) (by rw [e1]; rfl) (by rw [e2]; rfl) fs ok
      rw [e3] at this
      exact this
  refine kcAll_cons (fun fs ok => ?_) (kcAll_cons (fun fs ok => ?_) (kcAll_cons (fun fs ok => ?_) tail)) <;> letI N : Nums := nums [] rks ro (x.σ ls s s2) Ωn fs ok
  · refine kc_bring (x := x.own.getD s.t 0) (n := ((x.O + 1 : Nat) : Int)) rfl rfl (congrArg (Value.int .i64) (rec_atI (σ := x.σ ls s s2) (r41 (x := x) (ls := ls) (s := s) (s2 := s2)) y2)) ?_ (by omega) (by omega) (h.wo _) ?_
    · show Value.int .i64 ((add kE (l 1)).ev (x.σ ls s s2)) = _
      rw [ev_add ek (b := l 1) (y := 1) rfl (by omega) (by omega)]
      rfl
    · refine (y10 (x := x) (ls := ls) (s := s) (s2 := s2)).trans ?_
      have := Int.emod_nonneg (x.own.getD s.t 0) (show ((x.O + 1 : Nat) : Int) ≠ 0 by omega)
      unfold ow
      omega
  · refine kc_bring (x := x.mine.getD s.t 0) (n := ((x.O - x.ow s + 1 : Nat) : Int)) rfl rfl (congrArg (Value.int .i64) (rec_atI (σ := x.σ ls s s2) (r42 (x := x) (ls := ls) (s := s) (s2 := s2)) y2)) ?_ (by omega) (by omega) (h.wm _) ?_
    · have e1 := ev_sub ek (y10 (x := x) (ls := ls) (s := s) (s2 := s2)) (by omega) (by omega)
      show Value.int .i64 ((add (.bin .sub kE (v 10)) (l 1)).ev (x.σ ls s s2)) = _
      rw [ev_add e1 (b := l 1) (y := 1) rfl (by omega) (by omega)]
      congr 1
      omega
    · refine (y11 (x := x) (ls := ls) (s := s) (s2 := s2)).trans ?_
      have := Int.emod_nonneg (x.mine.getD s.t 0) (show ((x.O - x.ow s + 1 : Nat) : Int) ≠ 0 by omega)
      unfold mi
      omega
  · refine kc_bring (x := x.how.getD s.t 0) (n := 6) rfl rfl (congrArg (Value.int .i64) (rec_atI (σ := x.σ ls s s2) (r40 (x := x) (ls := ls) (s := s) (s2 := s2)) y2)) rfl (by omega) (by omega) (h.wh _) ?_
    refine (y12 (x := x) (ls := ls) (s := s) (s2 := s2)).trans ?_
    unfold hw
    omega
end
end Wo
end Go.Proofs.Ytmfemophafncnaa.Ft

/-
  wainscotlaw25's World.core: the loop. No condition.
-/
namespace Go.Proofs.Ytmfemophafncnaa.Ft
open Go Ex Mem See Fast
open Go.RowKit
namespace Wo
/-- how many rounds -/
def T (x : Wo) : Nat := min 8 (min x.how.length (min x.own.length x.mine.length))
def endK (x : Wo) : Nat := if x.T = 8 then 0 else if x.how.length = x.T then 1 else if x.own.length = x.T then 2 else 3
def s2 (x : Wo) (j : Nat) : Ws := if j < x.T then x.st (j + 1) else x.st 0
def σJ (x : Wo) (ls : Nat → List (List Int)) (j : Nat) : Nat → Int := x.σ ls (x.st j) (x.s2 j)
section
variable {x : Wo} {ls : Nat → List (List Int)}
theorem lookS_shV {i : Nat} : lookS i shV = if 10 ≤ i ∧ i < 19 then some (v (i + 50)) else none := by
  by_cases h : 10 ≤ i ∧ i < 19
  · rw [if_pos h]
    match i, h with
    | 10, _ => rfl
    | 11, _ => rfl
    | 12, _ => rfl
    | 13, _ => rfl
    | 14, _ => rfl
    | 15, _ => rfl
    | 16, _ => rfl
    | 17, _ => rfl
    | 18, _ => rfl
    | i + 19, h => exact absurd h (by omega)
  · rw [if_neg h]
    unfold shV
    rw [lookS_ne (by omega), lookS_ne (by omega), lookS_ne (by omega), lookS_ne (by omega), lookS_ne (by omega), lookS_ne (by omega), lookS_ne (by omega), lookS_ne (by omega), lookS_ne (by omega)]
    rfl
theorem lS_same {s s2 s3 : Ws} {q : Nat} (hq : q < 43) (h0 : q ≠ 0) (h6 : q ≠ 6) : x.lS ls s s2 q = x.lS ls s2 s3 q := by
  have h60 : q ≠ 60 := by omega
  rw [lS_B h0 h6 h60, lS_B h0 h6 h60]
theorem keep_l {s s2 s3 : Ws} {q : Nat} (hq : q < 43) (h0 : q ≠ 0) (h6 : q ≠ 6) : LsRec (x.σ ls s s2) (.lvar q) (x.lS ls s2 s3 q) := by
  rw [← lS_same (ls := ls) (s := s) (s2 := s2) (s3 := s3) hq h0 h6]
  have h64 : q < 64 := by omega
  exact LsRec.var h64
theorem lS_60 {s s2 : Ws} : x.lS ls s s2 60 = one (natsI (x.g6 s2)) := rfl
theorem lS_6 {s s2 : Ws} : x.lS ls s s2 6 = one (natsI (x.g6 s)) := rfl
theorem look_shL {q : Nat} (h6 : q ≠ 6) : lookS q shL = none := by
  unfold shL
  rw [lookS_ne (fun he => h6 he.symm)]
  rfl
theorem agree_l {s s2 s3 : Ws} {q : Nat} (hq : q < 43) {outl : List (Nat × SE)} (hl : ∀ p ∈ outl, p.1 = 0 ∧ LsRec (x.σ ls s s2) p.2 (one (natsI s2.g))) (hlk : lookS 0 outl = none → s2.g = s.g) :
    LsRec (x.σ ls s s2) (({ l := outl ++ shL } : Sub).lAt q) (x.lS ls s2 s3 q) := by
  unfold Sub.lAt
  simp only
  rw [look_app]
  cases h : lookS q outl with
  | some e =>
    obtain ⟨rfl, h2⟩ := hl _ (look_mem h)
    exact h2
  | none =>
    simp only
    by_cases h6 : q = 6
    · subst h6
      rw [lS_6]
      exact LsRec.var' (q := 60) (by omega) lS_60
    · rw [look_shL h6]
      by_cases h0 : q = 0
      · subst h0
        have e1 : x.lS ls s s2 0 = one (natsI s2.g) := by rw [hlk h]; rfl
        exact LsRec.var' (by omega) e1
      · exact keep_l hq h0 h6
theorem agree_step {s s2 s3 : Ws} {ro : Nat → Option (Option Addr × Nat × Nat)} (hro : ∀ i p, ro i = some p → 40 ≤ i ∧ i < 43) {outs outl : List (Nat × SE)}
    (ho : ∀ p ∈ outs, x.vS s2 s3 p.1 = p.2.ev (x.σ ls s s2)) (hk : ∀ i, 2 ≤ i → i ≤ 4 → lookS i outs = none → x.vS s2 s3 i = x.vS s s2 i) (hl : ∀ p ∈ outl, p.1 = 0 ∧ LsRec (x.σ ls s s2) p.2 (one (natsI s2.g))) (hlk : lookS 0 outl = none → s2.g = s.g) :
    AgreeD { v := outs ++ shV, l := outl ++ shL } ⟨33, 43, 0, 60⟩ ro (x.σ ls s s2) Ωn (x.σ ls s2 s3) Ωn := by
  refine agree_sgR (fun i p hp => ?_) (by decide) (by decide) rfl (fun i hi => ?_) fun q hq => ?_
  · have hi := hro i p hp
    refine ⟨by omega, LsRec.var' (by omega) ?_⟩
    rw [lS_B (by omega) (by omega) (by omega), lS_B (by omega) (by omega) (by omega)]
  · have hi : i < 33 := hi
    unfold Sub.vAt
    simp only
    rw [look_app]
    cases h : lookS i outs with
    | some e => exact ho _ (look_mem h)
    | none =>
      simp only
      rw [lookS_shV]
      by_cases h1 : 10 ≤ i ∧ i < 19
      · rw [if_pos h1]
        show _ = (v (i + 50)).ev (x.σ ls s s2)
        rw [ev (by omega)]
        unfold vS
        rw [if_neg (by omega), if_pos (by omega), if_neg (by omega), if_neg (by omega), if_neg (by omega), if_neg (by omega), show i + 50 - 60 = i - 10 from by omega]
      · rw [if_neg h1]
        show _ = (v i).ev (x.σ ls s s2)
        rw [ev (by omega)]
        by_cases h2 : 2 ≤ i ∧ i ≤ 4
        · exact hk i h2.1 h2.2 h
        · unfold vS
          by_cases h3 : i < 10
          · rw [if_pos h3, if_pos h3]
            match i, h2, h3 with
            | 0, _, _ => rfl
            | 1, _, _ => rfl
            | 2, h, _ => exact absurd ⟨by omega, by omega⟩ h
            | 3, h, _ => exact absurd ⟨by omega, by omega⟩ h
            | 4, h, _ => exact absurd ⟨by omega, by omega⟩ h
            | i + 5, _, _ => rfl
          · have h4 : ¬ i < 19 := by omega
            simp only [if_neg h3, if_neg h4, if_pos hi]
  · exact agree_l hq hl hlk
variable (h : x.Ok)
include h
omit h in
theorem way_fs {s s2 : Ws} (hd : s.hd ≤ x.n) : ∀ q ∈ (x.way s).fs (x.n : Int), q.1.ev (x.σ ls s s2) = q.2 := by
  have hl := hw_lt (x := x) (s := s)
  unfold way
  repeat' split
  all_goals
    intro q hq
    simp only [Way.fs, if_true, if_false, Bool.false_eq_true, List.mem_cons, List.not_mem_nil, or_false] at hq
  · subst hq
    exact eq_t y12 (y := 0) rfl (by omega)
  · subst hq
    exact eq_t y12 (y := 5) rfl (by omega)
  · subst hq
    exact eq_t y12 (y := 4) rfl (by omega)
  · rcases hq with rfl | rfl
    · exact eq_t y12 (y := 2) rfl (by omega)
    · exact eq_t y3 (y := (x.n : Int)) rfl (by omega)
  · rcases hq with rfl | hq
    · exact eq_t y12 (y := 2) rfl (by omega)
    · exact rng_ok y3 (by omega) (by omega) q hq
  · rw [if_neg (by omega)] at hq
    simp only [List.mem_cons, List.not_mem_nil, or_false] at hq
    rcases hq with rfl | rfl
    · exact eq_t y12 (y := 1) rfl (by omega)
    · exact eq_t y10 (y := 0) rfl (by omega)
  · rcases hq with rfl | rfl
    · exact eq_t y12 (y := 1) rfl (by omega)
    · exact eq_f y10 (y := 0) rfl (by omega)
  · rw [if_neg (by omega)] at hq
    simp only [List.mem_cons, List.not_mem_nil, or_false] at hq
    rcases hq with rfl | rfl
    · exact eq_t y12 (y := 3) rfl (by omega)
    · exact eq_t y10 (y := 0) rfl (by omega)
  · rcases hq with rfl | rfl
    · exact eq_t y12 (y := 3) rfl (by omega)
    · exact eq_f y10 (y := 0) rfl (by omega)
omit h in
theorem T_le : x.T ≤ 8 := by unfold T; omega
theorem fW_ok {s s2 : Ws} (hg : x.Good s) (ht : s.t < x.T) : ∀ q ∈ fW (x.n : Int), q.1.ev (x.σ ls s s2) = q.2 := by
  intro q hq
  have hT := T_le (x := x)
  have a1 := h.O1
  have a2 := h.O16
  have a3 := h.mn
  have a4 := h.n4
  have a5 := hg.hd
  have a6 := hg.cnt
  have b1 := ow_le (x := x) (s := s)
  have b2 := mi_le (x := x) (s := s)
  have b3 := hw_lt (x := x) (s := s)
  obtain ⟨k, k1, k2, k3, k4, k5⟩ := pa_is h.toOk hg (by omega : s.t < 8)
  have b4 := c6_le h hg (by omega : s.t < 8)
  have hT2 : x.T ≤ x.how.length ∧ x.T ≤ x.own.length ∧ x.T ≤ x.mine.length := by unfold T; omega
  have e0 : (SE.len (.lvar 0)).ev (x.σ ls s s2) = ((4 * x.n + 36 + 8 * x.O : Nat) : Int) := by rw [← hg.len]; exact ev_len (by omega) rfl
  have e6 : (SE.len (.lvar 6)).ev (x.σ ls s s2) = ((4 * x.n + 36 + 8 * x.O : Nat) : Int) := by rw [← g6_len hg]; exact ev_len (by omega) rfl
  simp only [fW, List.append_assoc, List.mem_append, List.mem_cons, List.not_mem_nil, or_false] at hq
  rcases hq with hq | hq | hq | hq | hq | hq | hq | hq | hq | hq | hq | hq | hq | rfl | rfl | rfl
  · exact rng_ok y0 (by omega) (by omega) q hq
  · exact rng_ok y1 (by omega) (by omega) q hq
  · exact rng_ok y2 (by omega) (by omega) q hq
  · exact rng_ok y3 (by omega) (by omega) q hq
  · exact rng_ok y4 (by omega) (by omega) q hq
  · exact rng_ok y10 (by omega) (by omega) q hq
  · exact rng_ok y11 (by omega) (by omega) q hq
  · exact rng_ok y12 (by omega) (by omega) q hq
  · exact rng_ok y15 (by omega) (by omega) q hq
  · exact rng_ok y16 (by omega) (by omega) q hq
  · exact rng_ok y18 (by omega) (by omega) q hq
  · exact rng_ok e0 (by omega) (by omega) q hq
  · exact rng_ok e6 (by omega) (by omega) q hq
  · exact lt_t y2 (lenI (by omega) rfl) (by omega)
  · exact lt_t y2 (lenI (by omega) rfl) (by omega)
  · exact lt_t y2 (lenI (by omega) rfl) (by omega)
omit h in
theorem fEnd_ok {s s2 : Ws} (ht : s.t = x.T) : ∀ q ∈ fEnd x.endK, q.1.ev (x.σ ls s s2) = q.2 := by
  intro q hq
  have hT2 : x.T ≤ 8 ∧ x.T ≤ x.how.length ∧ x.T ≤ x.own.length ∧ x.T ≤ x.mine.length ∧ (x.T = 8 ∨ x.T = x.how.length ∨ x.T = x.own.length ∨ x.T = x.mine.length) := by unfold T; omega
  unfold endK at hq
  split at hq
  · simp only [fEnd, List.mem_cons, List.not_mem_nil, or_false] at hq
    subst hq
    exact eq_t y2 (y := 8) rfl (by omega)
  · split at hq
    · simp only [fEnd, List.mem_append, List.mem_cons, List.not_mem_nil, or_false] at hq
      rcases hq with hq | rfl
      · exact rng_ok y2 (by omega) (by omega) q hq
      · exact lt_f y2 (lenI (by omega) rfl) (by omega)
    · split at hq
      · simp only [fEnd, List.mem_append, List.mem_cons, List.not_mem_nil, or_false] at hq
        rcases hq with hq | rfl | rfl
        · exact rng_ok y2 (by omega) (by omega) q hq
        · exact lt_t y2 (lenI (by omega) rfl) (by omega)
        · exact lt_f y2 (lenI (by omega) rfl) (by omega)
      · simp only [fEnd, List.mem_append, List.mem_cons, List.not_mem_nil, or_false] at hq
        rcases hq with hq | rfl | rfl | rfl
        · exact rng_ok y2 (by omega) (by omega) q hq
        · exact lt_t y2 (lenI (by omega) rfl) (by omega)
        · exact lt_t y2 (lenI (by omega) rfl) (by omega)
        · exact lt_f y2 (lenI (by omega) rfl) (by omega)
end
end Wo
end Go.Proofs.Ytmfemophafncnaa.Ft

/-
  wainscotlaw25's World.core, as a known call. No condition.
-/
namespace Go.Proofs.Ytmfemophafncnaa.Ft
open Go Ex Mem See Fast
open Go.RowKit
section
variable [Nums]
/-- Bring, to a number that is known -/
theorem kc_bringN {a b : AV} {x n r : Int} (h1 : a.shut = true) (h2 : b.shut = true) (ha : Ex.valOf Nums.σ a = .int .i64 x) (hb : Ex.valOf Nums.σ b = .int .i64 n) (hn : 1 ≤ n) (hn2 : n ≤ 100000) (hx : (Lit.int .i64 x).wf = true) (hr : x % n = r) :
    KcOk Try.prog { f := 10, args := [a, b], res := .int .i64 r } := by
  refine kc_pure (by simp only [AV.shuts, h1, h2, Bool.and_self]) rfl rfl rfl rfl fn_bringK fun _ W w m hO => ?_
  rw [show (valsOf Nums.σ [a, b]).toArray = #[.int .i64 x, .int .i64 n] from by simp only [valsOf, ha, hb]]
  refine (bring_spec x n hn (by omega) hx w).mono ?_
  rintro e w' ⟨rfl, rfl⟩
  refine ⟨?_, hO⟩
  simp only [Ex.valOf, hr]
end
theorem plus_ev {σ : Nat → Int} : ∀ (k : Nat) {x : Int} {e : SE}, 0 ≤ x → x + k < 1000 → e.ev σ = x → (plus k e).ev σ = x + k
  | 0, x, e, _, _, he => by
    show e.ev σ = x + 0
    rw [he]; omega
  | k + 1, x, e, h0, h1, he => by
    have h2 := ev_add he (b := l 1) (y := 1) rfl (by omega) (by omega)
    have h3 : (plus (k + 1) e).ev σ = (plus k (add e (l 1))).ev σ := rfl
    rw [h3, plus_ev k (x := x + 1) (by omega) (by omega) h2]
    omega
theorem ev_u {σ : Nat → Int} {e : SE} {x : Nat} (h : e.ev σ = (x : Int)) (hx : x < 18446744073709551616) : (SE.cv .u64 e).ev σ = (x : Int) := by
  show IntKind.u64.wrap (e.ev σ) = _
  rw [h, u64_small (by omega) (by omega)]
theorem ev_uadd {σ : Nat → Int} {a b : SE} {x y : Nat} (ha : a.ev σ = (x : Int)) (hb : b.ev σ = (y : Int)) (hx : x + y < 18446744073709551616) : (SE.ubin .add a b).ev σ = ((x + y : Nat) : Int) := by
  show IntKind.u64.wrap (a.ev σ + b.ev σ) = _
  rw [ha, hb, u64_small (by omega) (by omega)]
  omega
theorem ev_nat {σ : Nat → Int} {x : Int} {y : Nat} (h : x = (y : Int)) : (l x).ev σ = (y : Int) := h
namespace Wo
section
variable {x : Wo} {ls : Nat → List (List Int)}
/-- a round's end tells the next one -/
theorem th_ok (h : x.Ok) {s s3 : Ws} (hg : x.Good s) (ht : s.t < 8) {ro : Nat → Option (Option Addr × Nat × Nat)} (hro : ∀ i p, ro i = some p → 40 ≤ i ∧ i < 43) : AgreeD ((x.way s).th (x.n : Int)) ⟨33, 43, 0, 60⟩ ro (x.σ ls s (x.nxt s)) Ωn (x.σ ls (x.nxt s) s3) Ωn := by
  have hn4 := h.n4
  have hc6 := c6_le h hg ht
  obtain ⟨A, P, u, hs⟩ := g6_sd h.toOk hg ht
  have hl6 := g6_len hg
  have hAl := few hs.nd hs.bd
  have hO := h.O16
  have z2 : (add (v 2) (l 1)).ev (x.σ ls s (x.nxt s)) = ((s.t + 1 : Nat) : Int) := by
    rw [ev_add y2 (b := l 1) (y := 1) rfl (by omega) (by omega)]; omega
  have t2 : ∀ k, x.vS (x.nxt s) k 2 = ((s.t + 1 : Nat) : Int) := fun k => by
    show (((x.nxt s).t : Nat) : Int) = _
    rw [nxt_t]
  have r6 : LsRec (x.σ ls s (x.nxt s)) (.lvar 6) (one (natsI (x.g6 s))) := LsRec.var' (by omega) rfl
  have no : ∀ {i : Nat} {r : List (Nat × SE)}, i = 2 → lookS i ((2, add (v 2) (l 1)) :: r) = none → False := fun hi hn => by subst hi; rw [lookS_eq] at hn; cases hn
  have hk3 : ∀ {s' : Ws}, s'.hd = s.hd → x.vS s' s3 3 = x.vS s (x.nxt s) 3 := fun hh => by
    show ((_ : Nat) : Int) = ((_ : Nat) : Int)
    rw [hh]
  have hk4 : ∀ {s' : Ws}, s'.cnt = s.cnt → x.vS s' s3 4 = x.vS s (x.nxt s) 4 := fun hh => by
    show ((_ : Nat) : Int) = ((_ : Nat) : Int)
    rw [hh]
  have nxv := ev_next (σ := x.σ ls s (x.nxt s)) h.toOk (y2 (x := x) (ls := ls) (s := s) (s2 := x.nxt s)) ht
  cases hw : x.way s with
  | none two =>
    have e : x.nxt s = { s with t := s.t + 1 } := by unfold nxt; rw [hw]
    refine agree_step hro (outs := [(2, add (v 2) (l 1))]) (outl := []) (fun p hp => ?_) (fun i h2 h4 hn => ?_) (fun p hp => by cases hp) (fun _ => by rw [e])
    · simp only [List.mem_cons, List.not_mem_nil, or_false] at hp
      subst hp
      exact (t2 _).trans z2.symm
    · match i, h2, h4 with
      | 2, _, _ => exact (no rfl hn).elim
      | 3, _, _ => exact hk3 (by rw [e])
      | 4, _, _ => exact hk4 (by rw [e])
      | 0, h2, _ => exact absurd h2 (by omega)
      | 1, h2, _ => exact absurd h2 (by omega)
      | i + 5, _, h4 => exact absurd h4 (by omega)
  | shelf all =>
    have e : x.nxt s = ⟨s.t + 1, s.hd, x.c6 s + 4, (((x.g6 s).set (nxIx x.n s.t) (at_ (x.g6 s) (4 * x.n + 1))).set (4 * x.n + 1) (s.t + 1)).set (4 * x.n + 2) (at_ (x.g6 s) (4 * x.n + 2) + 1)⟩ := by unfold nxt; rw [hw]
    refine agree_step hro (outs := [(2, add (v 2) (l 1)), (4, plus 4 (v 18))]) (outl := [(0, shelved (x.n : Int))]) (fun p hp => ?_) (fun i h2 h4 hn => ?_) (fun p hp => ?_) (fun hn => by cases hn)
    · simp only [List.mem_cons, List.not_mem_nil, or_false] at hp
      rcases hp with rfl | rfl
      · exact (t2 _).trans z2.symm
      · refine Eq.trans ?_ (plus_ev 4 (x := (x.c6 s : Int)) (by omega) (by omega) y18).symm
        show (((x.nxt s).cnt : Nat) : Int) = _
        rw [e]
        rfl
    · match i, h2, h4 with
      | 2, _, _ => exact (no rfl hn).elim
      | 3, _, _ => exact hk3 (by rw [e])
      | 4, _, _ => cases hn
      | 0, h2, _ => exact absurd h2 (by omega)
      | 1, h2, _ => exact absurd h2 (by omega)
      | i + 5, _, h4 => exact absurd h4 (by omega)
    · simp only [List.mem_cons, List.not_mem_nil, or_false] at hp
      subst hp
      refine ⟨rfl, ?_⟩
      have eg := congrArg Ws.g e
      dsimp only at eg
      rw [eg]
      have hsh := ev_nat (σ := x.σ ls s (x.nxt s)) (show 4 * (x.n : Int) + 1 = ((4 * x.n + 1 : Nat) : Int) by omega)
      have hhd := ev_nat (σ := x.σ ls s (x.nxt s)) (show 4 * (x.n : Int) + 2 = ((4 * x.n + 2 : Nat) : Int) by omega)
      have a1 := rec_set r6 nxv (rec_at r6 hsh) (by rw [hl6]; unfold nxIx; omega)
      have a2 := rec_set a1 hsh (ev_u z2 (by omega)) (by rw [List.length_set, hl6]; omega)
      have a3 := rec_set a2 hhd (ev_uadd (b := l 1) (y := 1) (rec_at r6 hhd) rfl (by rw [hs.held]; omega)) (by rw [List.length_set, List.length_set, hl6]; omega)
      exact a3
  | head =>
    have e : x.nxt s = ⟨s.t + 1, s.hd + 1, x.c6 s + 1, (x.g6 s).set (4 * s.hd) (headW (s.t : Int) (x.f6 s))⟩ := by unfold nxt; rw [hw]
    have hhd := hg.hd
    refine agree_step hro (outs := [(2, add (v 2) (l 1)), (3, add (v 3) (l 1)), (4, plus 1 (v 18))]) (outl := [(0, set0 (.lvar 6) headE (v 14))]) (fun p hp => ?_) (fun i h2 h4 hn => ?_) (fun p hp => ?_) (fun hn => by cases hn)
    · simp only [List.mem_cons, List.not_mem_nil, or_false] at hp
      rcases hp with rfl | rfl | rfl
      · exact (t2 _).trans z2.symm
      · refine Eq.trans ?_ (ev_add y3 (b := l 1) (y := 1) rfl (by omega) (by omega)).symm
        show (((x.nxt s).hd : Nat) : Int) = _
        rw [e]
        rfl
      · refine Eq.trans ?_ (plus_ev 1 (x := (x.c6 s : Int)) (by omega) (by omega) y18).symm
        show (((x.nxt s).cnt : Nat) : Int) = _
        rw [e]
        rfl
    · match i, h2, h4 with
      | 2, _, _ => exact (no rfl hn).elim
      | 3, _, _ => cases hn
      | 4, _, _ => cases hn
      | 0, h2, _ => exact absurd h2 (by omega)
      | 1, h2, _ => exact absurd h2 (by omega)
      | i + 5, _, h4 => exact absurd h4 (by omega)
    · simp only [List.mem_cons, List.not_mem_nil, or_false] at hp
      subst hp
      refine ⟨rfl, ?_⟩
      have eg := congrArg Ws.g e
      dsimp only at eg
      rw [eg]
      have hhe : headE.ev (x.σ ls s (x.nxt s)) = ((4 * s.hd : Nat) : Int) := by
        have := ev_mul (a := l 4) (x := 4) rfl (y3 (x := x) (ls := ls) (s := s) (s2 := x.nxt s)) (by omega) (by omega)
        show (SE.bin .mul (l 4) (v 3)).ev _ = _
        rw [this]; omega
      exact rec_set r6 hhe y14 (by rw [hl6]; omega)
  | part =>
    have e : x.nxt s = ⟨s.t + 1, s.hd, x.c6 s + 3, ((x.g6 s).set (nxIx x.n s.t) (at_ (x.g6 s) (4 * x.cpu s + 2))).set (4 * x.cpu s + 2) (partW (s.t : Int) ((x.pa s).2 + 1))⟩ := by unfold nxt; rw [hw]
    have hcp := cpu_lt h.toOk (s := s)
    refine agree_step hro (outs := [(2, add (v 2) (l 1)), (4, plus 3 (v 18))]) (outl := [(0, set0 (set0 (.lvar 6) (nextE (x.n : Int) (v 2)) (at6 (partE (x.n : Int)))) (partE (x.n : Int)) (v 17))]) (fun p hp => ?_) (fun i h2 h4 hn => ?_) (fun p hp => ?_) (fun hn => by cases hn)
    · simp only [List.mem_cons, List.not_mem_nil, or_false] at hp
      rcases hp with rfl | rfl
      · exact (t2 _).trans z2.symm
      · refine Eq.trans ?_ (plus_ev 3 (x := (x.c6 s : Int)) (by omega) (by omega) y18).symm
        show (((x.nxt s).cnt : Nat) : Int) = _
        rw [e]
        rfl
    · match i, h2, h4 with
      | 2, _, _ => exact (no rfl hn).elim
      | 3, _, _ => exact hk3 (by rw [e])
      | 4, _, _ => cases hn
      | 0, h2, _ => exact absurd h2 (by omega)
      | 1, h2, _ => exact absurd h2 (by omega)
      | i + 5, _, h4 => exact absurd h4 (by omega)
    · simp only [List.mem_cons, List.not_mem_nil, or_false] at hp
      subst hp
      refine ⟨rfl, ?_⟩
      have eg := congrArg Ws.g e
      dsimp only at eg
      rw [eg]
      have hpe := ev_cpu (ls := ls) (s2 := x.nxt s) h ht
      have a1 := rec_set r6 nxv (rec_at r6 hpe) (by rw [hl6]; unfold nxIx; omega)
      exact rec_set a1 hpe y17 (by rw [List.length_set, hl6]; omega)
  | full k =>
    have e : x.nxt s = ⟨s.t + 1, s.hd, x.c6 s, x.g6 s⟩ := by unfold nxt; rw [hw]
    refine agree_step hro (outs := [(2, add (v 2) (l 1)), (4, v 18)]) (outl := [(0, .lvar 6)]) (fun p hp => ?_) (fun i h2 h4 hn => ?_) (fun p hp => ?_) (fun hn => by cases hn)
    · simp only [List.mem_cons, List.not_mem_nil, or_false] at hp
      rcases hp with rfl | rfl
      · exact (t2 _).trans z2.symm
      · refine Eq.trans ?_ y18.symm
        show (((x.nxt s).cnt : Nat) : Int) = _
        rw [e]
    · match i, h2, h4 with
      | 2, _, _ => exact (no rfl hn).elim
      | 3, _, _ => exact hk3 (by rw [e])
      | 4, _, _ => cases hn
      | 0, h2, _ => exact absurd h2 (by omega)
      | 1, h2, _ => exact absurd h2 (by omega)
      | i + 5, _, h4 => exact absurd h4 (by omega)
    · simp only [List.mem_cons, List.not_mem_nil, or_false] at hp
      subst hp
      refine ⟨rfl, ?_⟩
      have eg := congrArg Ws.g e
      dsimp only at eg
      rw [eg]
      exact LsRec.var' (by omega) rfl
theorem endK_lt : x.endK < 4 := by
  unfold endK
  repeat' split
  all_goals omega
/-- the loop -/
theorem lns (h : x.Ok) {ro : Nat → Option (Option Addr × Nat × Nat)} (hro : ∀ i p, ro i = some p → 40 ≤ i ∧ i < 43) : LnAll [] rks ro Try.prog 4 (x.σJ ls x.T) Ωn [LW (x.n : Int)] := by
  have hT := T_le (x := x)
  have hth : keeps 39 (LW (x.n : Int)).th (LW (x.n : Int)).t.heap = true := rfl
  have gd : ∀ j, j ≤ x.T → x.Good (x.st j) := fun j hj => st_good h.toOk j (by omega)
  have t8 : ∀ j, j < x.T → (x.st j).t < 8 := fun j hj => by rw [st_t]; omega
  have eT : x.s2 x.T = x.st 0 := if_neg (by omega)
  refine lnAll_cons (fun fs ok c hc hck => ?_) lnAll_nil
  refine ln_okS [] rks ro mixed (f := 4) (l := LW (x.n : Int)) (n := 40) (kcs := fun j => if j < x.T then kgs (bringsW ++ (x.way (x.st j)).kcs (x.n : Int)) else kgs []) (lns := fun _ => [])
    (dt := fun j => if j < x.T then .leaf (.cont ((x.way (x.st j)).th (x.n : Int))) else .leaf (.out {})) (fs0 := fun j => if j < x.T then fW (x.n : Int) ++ (x.way (x.st j)).fs (x.n : Int) else fEnd x.endK)
    (fun j => j ≤ x.T) (fun j hj => ?_) (by kernel_rfl) hth rfl rfl (fun j => x.T - j) (fun j => x.σJ ls j) (fun _ => Ωn) (fun j hj q hq => ?_)
    (fun j hj => ?_) (fun _ _ => lnAll_nil) 0 (Nat.zero_le _) ?_ (fun j hj => ?_) fs ok c hc hck
  · by_cases hlt : j < x.T
    · simp only [if_pos hlt]
      exact ok_W way_mem h.n1 h.n4
    · simp only [if_neg hlt]
      exact ok_We endK_lt h.n1 h.n4
  · by_cases hlt : j < x.T
    · simp only [if_pos hlt] at hq
      rcases List.mem_append.1 hq with hq | hq
      · exact fW_ok h (gd j hj) (by rw [st_t]; exact hlt) q hq
      · exact way_fs (gd j hj).hd q hq
    · simp only [if_neg hlt] at hq
      exact fEnd_ok (by rw [st_t]; omega) q hq
  · by_cases hlt : j < x.T
    · simp only [if_pos hlt]
      exact kcs h (gd j hj) (t8 j hlt) hro
    · simp only [if_neg hlt]
      exact kcAll_nil
  · unfold σJ
    rw [eT]
    refine agree_step hro (outs := [(2, l 0), (3, l 0), (4, l 0)]) (outl := [(0, .lvar 1)]) (fun p hp => ?_) (fun i h2 h4 hn => ?_) (fun p hp => ?_) (fun hn => by cases hn)
    · simp only [List.mem_cons, List.not_mem_nil, or_false] at hp
      rcases hp with rfl | rfl | rfl <;> rfl
    · match i, h2, h4 with
      | 2, _, _ => cases hn
      | 3, _, _ => cases hn
      | 4, _, _ => cases hn
      | 0, h2, _ => exact absurd h2 (by omega)
      | 1, h2, _ => exact absurd h2 (by omega)
      | i + 5, _, h4 => exact absurd h4 (by omega)
    · simp only [List.mem_cons, List.not_mem_nil, or_false] at hp
      subst hp
      exact ⟨rfl, LsRec.var' (by omega) rfl⟩
  · by_cases hlt : j < x.T
    · simp only [if_pos hlt]
      refine ⟨j + 1, by omega, by omega, ?_⟩
      have e2 : x.s2 j = x.st (j + 1) := if_pos hlt
      unfold σJ
      rw [e2]
      exact th_ok h (gd j hj) (t8 j hlt) hro
    · simp only [if_neg hlt]
      have hje : j = x.T := by omega
      subst hje
      show AgreeD {} ⟨33, 43, 0, 60⟩ _ _ _ _ _
      refine agree_sgR (fun i p hp => ?_) (by decide) (by decide) rfl (fun i hi => ?_) fun q hq => ?_
      · have hi := hro i p hp
        exact ⟨by omega, LsRec.var (by omega)⟩
      · rw [vAt_nil rfl]
        exact (ev (by have : i < 33 := hi; omega)).symm
      · rw [lAt_nil rfl]
        exact LsRec.var (by have : q < 43 := hq; omega)
/-- lists of the core's text that its caller has copies of -/
def clE (q : Nat) : SE := if q = 0 then .lvar 9 else if q = 1 then .lvar 51 else if q = 6 then .lvar 56 else .rnil
theorem lookS_fn {r : List (Nat × SE)} {f : Nat → SE} {m : Nat} : ∀ {a i : Nat}, lookS i (((List.range' a m).map fun j => (j, f j)) ++ r) = if a ≤ i ∧ i < a + m then some (f i) else lookS i r := by
  induction m with
  | zero => intro a i; rw [if_neg (by omega)]; rfl
  | succ m ih =>
    intro a i
    rw [List.range'_succ, List.map_cons, List.cons_append]
    by_cases hai : a = i
    · subst hai
      rw [lookS_eq, if_pos (by omega)]
    · rw [lookS_ne hai, ih]
      by_cases h1 : a ≤ i ∧ i < a + (m + 1)
      · rw [if_pos h1, if_pos (by omega)]
      · rw [if_neg h1, if_neg (by omega)]
/-- its calls -/
theorem kcs0 (h : x.Ok) {ro : Nat → Option (Option Addr × Nat × Nat)} {s s2 : Ws} (h0 : s2 = s2) : KcAll [] rks ro Try.prog (x.σ ls s s2) Ωn (kgs (kcsW (x.n : Int))) := by
  have a1 := h.O1
  have a2 := h.O16
  have a4 := h.n4
  have e0 := h.e0
  have e1 := h.e1
  have e2 := h.e2
  have y30 : (v 30).ev (x.σ ls s s2) = x.x0 := by rw [ev (by omega)]; rfl
  have y31 : (v 31).ev (x.σ ls s s2) = x.x1 := by rw [ev (by omega)]; rfl
  have y32 : (v 32).ev (x.σ ls s s2) = x.x2 := by rw [ev (by omega)]; rfl
  have hw := ev_words h.toOk (σ := x.σ ls s s2) y0
  refine kcAll_cons (fun fs ok => ?_) (kcAll_cons (fun fs ok => ?_) (kcAll_cons (fun fs ok => ?_) (kcAll_cons (fun fs ok => ?_) kcAll_nil))) <;> letI N : Nums := nums [] rks ro (x.σ ls s s2) Ωn fs ok
  · exact kc_bringN (x := x.x0) (n := 4) rfl rfl (congrArg (Value.int .i64) y30) rfl (by omega) (by omega) h.w0 (by omega)
  · exact kc_bring (x := x.x1) (n := 16) rfl rfl (congrArg (Value.int .i64) y31) rfl (by omega) (by omega) h.w1 ((y0 (x := x) (ls := ls) (s := s) (s2 := s2)).trans (by omega))
  · exact kc_bring (x := x.x2) (n := 3) rfl rfl (congrArg (Value.int .i64) y32) rfl (by omega) (by omega) h.w2 ((y1 (x := x) (ls := ls) (s := s) (s2 := s2)).trans (by omega))
  · exact kc_new hw (by omega) (by omega) (ls_sg (by omega) rfl)
/-- CORE, AS A KNOWN CALL -/
theorem kc (h : x.Ok) {ro : Nat → Option (Option Addr × Nat × Nat)} (hro : ∀ i p, ro i = some p → 40 ≤ i ∧ i < 43) {v2 : Nat → Int} {l2 : Nat → List (List Int)}
    (e0 : v2 0 = (x.O : Int) - 1) (e1 : v2 1 = (x.mn : Int)) (e30 : v2 30 = x.x0) (e31 : v2 31 = x.x1) (e32 : v2 32 = x.x2) (e34 : v2 34 = ((x.st x.T).cnt : Int)) (l40 : l2 40 = one x.how) (l41 : l2 41 = one x.own) (l42 : l2 42 = one x.mine)
    (l9 : l2 9 = one (natsI (x.st x.T).g)) (l51 : l2 51 = one (natsI x.s0.g)) (l56 : l2 56 = one (natsI (x.g6 (x.st x.T)))) (fs) (ok : ∀ f ∈ fs, f.1.ev (sg v2 l2) = f.2) : @KcOk (nums [] rks ro (sg v2 l2) Ωn fs ok) Try.prog (kcCore (x.n : Int) 9 34) := by
  have a1 := h.O1
  have a2 := h.O16
  have a3 := h.mn
  have rl : ∀ i p, ro i = some p → i < 64 ∧ x.lS l2 (x.st x.T) (x.s2 x.T) i = l2 i := fun i p hp => by
    have hi := hro i p hp
    refine ⟨by omega, ?_⟩
    match i, hi with
    | 40, _ => exact l40.symm
    | 41, _ => exact l41.symm
    | 42, _ => exact l42.symm
    | i + 43, hi => exact absurd hi (by omega)
  refine kc_tree (σ1 := x.σJ l2 x.T) (Ω1 := Ωn) (A := [.agg worldL]) (pre := []) (B0 := ⟨33, 43, 0, 0⟩) (θ0 := { v := ((List.range' 0 30).map fun j => (j, .lit (x.vS (x.st x.T) (x.s2 x.T) j))) ++ [], l := ((List.range' 0 40).map fun q => (q, clE q)) ++ [] }) (kcs := kgs (kcsW (x.n : Int))) (lns := [LW (x.n : Int)]) (n := 40)
    (k := kcCore (x.n : Int) 9 34) (d := (kcCore (x.n : Int) 44 34).leaf { v := [(34, v 4)], l := [(44, .lvar 0)], n := [(rel, M0), (rel + 1, M0 + 1)] }) (fs1 := fCo) mixed fn_core rfl rfl rfl rfl rfl (kcs0 h rfl) (lns h hro) (fun q hq => ?_) (ok_Co h.n1 h.n4) ?_ ?_ fs ok
  · simp only [fCo, List.mem_append] at hq
    rcases hq with hq | hq
    · exact rng_ok y0 (by omega) (by omega) q hq
    · exact rng_ok y1 (by omega) (by omega) q hq
  · refine agree_sgR (fun i p hp => ?_) (by decide) (by decide) rfl (fun i hi => ?_) fun q hq => ?_
    · obtain ⟨h1, h2⟩ := rl i p hp
      exact ⟨h1, LsRec.var' h1 h2.symm⟩
    · have hi : i < 33 := hi
      unfold Sub.vAt
      simp only
      rw [lookS_lits]
      by_cases h30 : i < 30
      · rw [if_pos ⟨Nat.zero_le _, by omega⟩]
        rfl
      · rw [if_neg (by omega)]
        show _ = (v i).ev (sg v2 l2)
        rw [ev_v (by omega)]
        match i, h30, hi with
        | 30, _, _ => exact e30.symm
        | 31, _, _ => exact e31.symm
        | 32, _, _ => exact e32.symm
        | i + 33, _, hi => exact absurd hi (by omega)
    · have hq : q < 43 := hq
      unfold Sub.lAt
      simp only
      rw [lookS_fn]
      by_cases h40 : q < 40
      · rw [if_pos ⟨Nat.zero_le _, by omega⟩]
        simp only [clE]
        by_cases q0 : q = 0
        · subst q0
          exact LsRec.var' (q := 9) (by omega) l9
        · by_cases q1 : q = 1
          · subst q1
            exact LsRec.var' (q := 51) (by omega) l51
          · by_cases q6 : q = 6
            · subst q6
              exact LsRec.var' (q := 56) (by omega) l56
            · rw [if_neg q0, if_neg q1, if_neg q6, lS_B q0 q6 (by omega)]
              unfold lB
              rw [if_neg q1, if_neg (by omega), if_neg (by omega), if_neg (by omega), if_neg (by omega)]
              exact LsRec.nil
      · rw [if_neg (by omega)]
        show LsRec _ (.lvar q) _
        match q, h40, hq with
        | 40, _, _ => exact LsRec.var' (by omega) l40
        | 41, _, _ => exact LsRec.var' (by omega) l41
        | 42, _, _ => exact LsRec.var' (by omega) l42
        | q + 43, _, hq => exact absurd hq (by omega)
  · have hb := agree_bk (outs := [(34, v 4), (0, v 0), (1, v 1)]) (outl := [(9, .lvar 0)]) (v1 := x.vS (x.st x.T) (x.s2 x.T)) (v2 := v2) (l1 := x.lS l2 (x.st x.T) (x.s2 x.T)) (l2 := l2) (kn := rel + 2) (ro := ro) (Ω := Ωn) (Ω' := Ωn) rl (fun p hp => ?_) (fun p hp => ?_) (fun i hi => ?_)
    · refine ⟨{ bk [(34, v 4), (0, v 0), (1, v 1)] [(9, .lvar 0)] v2 with n := [(rel, M0), (rel + 1, M0 + 1)] }, ⟨44, 10, 0, rel + 2⟩, ?_, ?_, ?_, ?_⟩
      · rfl
      · rfl
      · rfl
      · exact ⟨hb.1, hb.2, hb.3, hb.4, hb.5⟩
    · simp only [List.mem_cons, List.not_mem_nil, or_false] at hp
      rcases hp with rfl | rfl | rfl
      · exact e34.trans (y4 (x := x) (ls := l2) (s := x.st x.T) (s2 := x.s2 x.T)).symm
      · exact e0.trans (y0 (x := x) (ls := l2) (s := x.st x.T) (s2 := x.s2 x.T)).symm
      · exact e1.trans (y1 (x := x) (ls := l2) (s := x.st x.T) (s2 := x.s2 x.T)).symm
    · simp only [List.mem_cons, List.not_mem_nil, or_false] at hp
      subst hp
      show LsRec _ (.lvar 0) (l2 9)
      rw [l9]
      exact LsRec.var' (by omega) rfl
    · rw [lS_B (by omega) (by omega) (by omega)]
      unfold lB
      rw [if_neg (by omega), if_neg (by omega), if_neg (by omega), if_neg (by omega), if_pos (by omega), Nat.add_sub_cancel_left]
end
end Wo
end Go.Proofs.Ytmfemophafncnaa.Ft

/-
  A trim, step by step, in plain numbers. No condition.
-/
namespace Go.Proofs.Ytmfemophafncnaa.Ft
open See Fast Back
/-- where the task is -/
inductive Pc where
  | a95 | a96 | a97 | a98 | a99 | a100 | a101 | a102 | a103 | a76 | a77 | a78 | fin
  deriving DecidableEq
/-- the state of the trim's loop: place, round, given back, accesses, fields, words; slabs that were looked at, slabs that stand behind -/
structure Tr where
  pc : Pc
  i : Nat
  gone : Nat
  cnt : Nat
  sl : Int
  tv : Int
  bk : Int
  K : Nat
  N : Nat
  F : Nat
  g : List Nat
  As : List Int
  Bs : List Int
def tnx (n : Nat) (u : Nat → Nat) (s : Tr) : Tr := match s.pc with
  | .a95 => { s with pc := .a96, i := s.i + 1, cnt := s.cnt + 1, g := s.g.set (4 * n) 1 }
  | .a96 => match s.Bs with
    | [] => { s with pc := .a99, i := s.i + 1, cnt := s.cnt + 1, N := at_ s.g (4 * n + 1), tv := -1 }
    | x :: _ => { s with pc := .a97, i := s.i + 1, cnt := s.cnt + 1, N := at_ s.g (4 * n + 1), tv := -1, sl := x }
  | .a97 => { s with pc := if u s.sl.toNat = 0 then .a100 else .a98, i := s.i + 1, cnt := s.cnt + 1, K := at_ s.g (ctIx n s.sl) }
  | .a98 => match s.Bs with
    | x :: y :: Bs => { s with pc := .a97, i := s.i + 1, cnt := s.cnt + 1, N := at_ s.g (nxIx n s.sl), tv := s.sl, sl := y, As := s.As ++ [x], Bs := y :: Bs }
    | Bs => { s with pc := .a99, i := s.i + 1, cnt := s.cnt + 1, N := at_ s.g (nxIx n s.sl), tv := s.sl, As := s.As ++ Bs, Bs := [] }
  | .a99 => { s with pc := .fin, i := s.i + 1, cnt := s.cnt + 1, g := s.g.set (4 * n) 0 }
  | .a100 => { s with pc := .a101, i := s.i + 1, cnt := s.cnt + 1, F := at_ s.g (fsIx n s.sl) }
  | .a101 => { s with pc := .a102, i := s.i + 1, cnt := s.cnt + 1, N := at_ s.g (nxIx n s.sl) }
  | .a102 => { s with pc := .a103, i := s.i + 1, cnt := s.cnt + 1, g := s.g.set (if s.tv = -1 then 4 * n + 1 else nxIx n s.tv) s.N, Bs := s.Bs.tail }
  | .a103 => { s with pc := .a76, i := s.i + 1, cnt := s.cnt + 1, g := s.g.set (4 * n + 2) (at_ s.g (4 * n + 2) - 1), bk := 95 }
  | .a76 => { s with pc := .a77, i := s.i + 1, cnt := s.cnt + 1, g := (s.g.set (fsIx n s.sl) 0).set (ctIx n s.sl) 0 }
  | .a77 => { s with pc := .a78, i := s.i + 1, cnt := s.cnt + 1, g := s.g.set (4 * n) 0 }
  | .a78 => { s with pc := .a95, i := s.i + 1, gone := s.gone + 1, As := [], Bs := s.As ++ s.Bs }
  | .fin => s
def lkP : Pc → Nat
  | .a95 | .a78 | .fin => 0
  | _ => 1
def hdP : Pc → Nat
  | .a103 => 1
  | _ => 0
def goP : Pc → Nat
  | .a103 | .a76 | .a77 | .a78 => 1
  | _ => 0
def muP (b : Nat) : Pc → Nat
  | .a95 => 30 | .a96 => 29 | .a97 => 9 + 2 * b | .a98 => 8 + 2 * b | .a99 => 5 | .a100 => 8 | .a101 => 7 | .a102 => 6 | .a103 => 45 | .a76 => 44 | .a77 => 43 | .a78 => 42 | .fin => 0
def Tr.mu (s : Tr) : Nat := 40 * (s.As ++ s.Bs).length + muP s.Bs.length s.pc
/-- the slab that is looked at -/
def Tr.cur (n : Nat) (u : Nat → Nat) (s : Tr) : Prop := match s.pc with
  | .a95 => s.As = []
  | .a96 => s.As = []
  | .a97 => (∃ B, s.Bs = s.sl :: B) ∧ s.tv = toV s.As
  | .a98 => (∃ B, s.Bs = s.sl :: B) ∧ s.tv = toV s.As ∧ 0 < u s.sl.toNat
  | .a99 => s.Bs = []
  | .a100 => (∃ B, s.Bs = s.sl :: B) ∧ s.tv = toV s.As ∧ u s.sl.toNat = 0 ∧ s.K = at_ s.g (ctIx n s.sl)
  | .a101 => (∃ B, s.Bs = s.sl :: B) ∧ s.tv = toV s.As ∧ u s.sl.toNat = 0 ∧ s.K = at_ s.g (ctIx n s.sl) ∧ s.F = at_ s.g (fsIx n s.sl)
  | .a102 => (∃ B, s.Bs = s.sl :: B) ∧ s.tv = toV s.As ∧ u s.sl.toNat = 0 ∧ s.K = at_ s.g (ctIx n s.sl) ∧ s.F = at_ s.g (fsIx n s.sl) ∧ s.N = at_ s.g (nxIx n s.sl)
  | .a103 => s.sl ∉ s.As ++ s.Bs ∧ 0 ≤ s.sl ∧ s.sl < 8 ∧ s.K = at_ s.g (ctIx n s.sl) ∧ s.F = at_ s.g (fsIx n s.sl)
  | .a76 => s.sl ∉ s.As ++ s.Bs ∧ 0 ≤ s.sl ∧ s.sl < 8 ∧ s.K = at_ s.g (ctIx n s.sl) ∧ s.F = at_ s.g (fsIx n s.sl) ∧ s.bk = 95
  | .a77 => 0 ≤ s.sl ∧ s.sl < 8 ∧ s.bk = 95
  | .a78 => 0 ≤ s.sl ∧ s.sl < 8 ∧ s.bk = 95
  | .fin => s.Bs = []
/-- how it stands: the shelf was A0; so many accesses at the beginning -/
structure TG (n O : Nat) (P : Nat → List Int) (u : Nat → Nat) (A0 : List Int) (c0 : Nat) (s : Tr) : Prop where
  cnt : s.cnt ≤ c0 + s.i
  gi : s.gone ≤ s.i
  mu : s.i + s.mu ≤ 400
  flt : (s.As ++ s.Bs).filter (fun x => decide (0 < u x.toNat)) = A0.filter (fun x => decide (0 < u x.toNat))
  up : ∀ x ∈ s.As, s.pc ≠ .a103 → s.pc ≠ .a76 → s.pc ≠ .a77 → s.pc ≠ .a78 → 0 < u x.toNat
  sum : s.gone + (s.As ++ s.Bs).length + goP s.pc = A0.length
  sd : Sd n O s.g (s.As ++ s.Bs) P u (lkP s.pc) ((s.As ++ s.Bs).length + hdP s.pc) 8
  cur : s.cur n u
section
variable {n O c0 : Nat} {P : Nat → List Int} {u : Nat → Nat} {A0 : List Int} {s : Tr}
theorem TG.next (h : TG n O P u A0 c0 s) (hp : s.pc ≠ .fin) : TG n O P u A0 c0 (tnx n u s) ∧ (tnx n u s).mu < s.mu := by
  obtain ⟨pc, i, gone, cnt, sl, tv, bk, K, N, F, g, As, Bs⟩ := s
  obtain ⟨h1, h2, h3, h4, h5, h6, h7, h8⟩ := h
  have hlen := few h7.nd h7.bd
  dsimp only at h1 h2 h3 h4 h5 h6 h7 h8 hp hlen
  cases pc with
  | fin => exact absurd rfl hp
  | a95 =>
    simp only [Tr.cur] at h8
    subst h8
    have hm : Tr.mu (tnx n u ⟨.a95, i, gone, cnt, sl, tv, bk, K, N, F, g, [], Bs⟩) + 1 = Tr.mu ⟨.a95, i, gone, cnt, sl, tv, bk, K, N, F, g, [], Bs⟩ := by simp [Tr.mu, tnx, muP]
    refine ⟨⟨?_, ?_, ?_, h4, ?_, h6, h7.setLock (x := 1) (by omega), rfl⟩, by omega⟩
    · show cnt + 1 ≤ c0 + (i + 1); omega
    · show gone ≤ i + 1; omega
    · show i + 1 + _ ≤ 400; omega
    · intro x hx; cases hx
  | a96 =>
    simp only [Tr.cur] at h8
    subst h8
    cases Bs with
    | nil =>
      have hm : Tr.mu (tnx n u ⟨.a96, i, gone, cnt, sl, tv, bk, K, N, F, g, [], []⟩) + 24 = Tr.mu ⟨.a96, i, gone, cnt, sl, tv, bk, K, N, F, g, [], []⟩ := by simp [Tr.mu, tnx, muP]
      refine ⟨⟨?_, ?_, ?_, h4, ?_, h6, h7, rfl⟩, by omega⟩
      · show cnt + 1 ≤ c0 + (i + 1); omega
      · show gone ≤ i + 1; omega
      · show i + 1 + _ ≤ 400; omega
      · intro x hx; cases hx
    | cons y B =>
      have hm : Tr.mu (tnx n u ⟨.a96, i, gone, cnt, sl, tv, bk, K, N, F, g, [], y :: B⟩) + 20 = Tr.mu ⟨.a96, i, gone, cnt, sl, tv, bk, K, N, F, g, [], y :: B⟩ + 2 * (y :: B).length := by simp [Tr.mu, tnx, muP]; omega
      have hl : (y :: B).length ≤ 8 := by simpa using hlen
      refine ⟨⟨?_, ?_, ?_, h4, ?_, h6, h7, ⟨⟨B, rfl⟩, rfl⟩⟩, by omega⟩
      · show cnt + 1 ≤ c0 + (i + 1); omega
      · show gone ≤ i + 1; omega
      · show i + 1 + _ ≤ 400; omega
      · intro x hx; cases hx
  | a97 =>
    simp only [Tr.cur] at h8
    obtain ⟨⟨B, rfl⟩, rfl⟩ := h8
    by_cases hu : u sl.toNat = 0
    · have e : tnx n u ⟨.a97, i, gone, cnt, sl, toV As, bk, K, N, F, g, As, sl :: B⟩ = ⟨.a100, i + 1, gone, cnt + 1, sl, toV As, bk, at_ g (ctIx n sl), N, F, g, As, sl :: B⟩ := by simp [tnx, hu]
      rw [e]
      have hm : Tr.mu ⟨.a100, i + 1, gone, cnt + 1, sl, toV As, bk, at_ g (ctIx n sl), N, F, g, As, sl :: B⟩ + 1 ≤ Tr.mu ⟨.a97, i, gone, cnt, sl, toV As, bk, K, N, F, g, As, sl :: B⟩ := by simp [Tr.mu, muP]; omega
      refine ⟨⟨?_, ?_, ?_, h4, fun x hx _ _ _ _ => h5 x hx (by decide) (by decide) (by decide) (by decide), h6, h7, ⟨⟨B, rfl⟩, rfl, hu, rfl⟩⟩, by omega⟩
      · show cnt + 1 ≤ c0 + (i + 1); omega
      · show gone ≤ i + 1; omega
      · show i + 1 + _ ≤ 400; omega
    · have e : tnx n u ⟨.a97, i, gone, cnt, sl, toV As, bk, K, N, F, g, As, sl :: B⟩ = ⟨.a98, i + 1, gone, cnt + 1, sl, toV As, bk, at_ g (ctIx n sl), N, F, g, As, sl :: B⟩ := by simp [tnx, hu]
      rw [e]
      have hm : Tr.mu ⟨.a98, i + 1, gone, cnt + 1, sl, toV As, bk, at_ g (ctIx n sl), N, F, g, As, sl :: B⟩ + 1 = Tr.mu ⟨.a97, i, gone, cnt, sl, toV As, bk, K, N, F, g, As, sl :: B⟩ := by simp [Tr.mu, muP]; omega
      refine ⟨⟨?_, ?_, ?_, h4, fun x hx _ _ _ _ => h5 x hx (by decide) (by decide) (by decide) (by decide), h6, h7, ⟨⟨B, rfl⟩, rfl, by show 0 < u sl.toNat; omega⟩⟩, by omega⟩
      · show cnt + 1 ≤ c0 + (i + 1); omega
      · show gone ≤ i + 1; omega
      · show i + 1 + _ ≤ 400; omega
  | a98 =>
    simp only [Tr.cur] at h8
    obtain ⟨⟨B, rfl⟩, rfl, hu⟩ := h8
    have h5' : ∀ x ∈ As ++ [sl], 0 < u x.toNat := fun x hx => by
      rcases List.mem_append.1 hx with hx | hx
      · exact h5 x hx (by decide) (by decide) (by decide) (by decide)
      · rw [List.mem_singleton] at hx; subst hx; exact hu
    cases B with
    | nil =>
      have hm : Tr.mu (tnx n u ⟨.a98, i, gone, cnt, sl, toV As, bk, K, N, F, g, As, [sl]⟩) + 5 = Tr.mu ⟨.a98, i, gone, cnt, sl, toV As, bk, K, N, F, g, As, [sl]⟩ := by simp [Tr.mu, tnx, muP]
      refine ⟨⟨?_, ?_, ?_, ?_, fun x hx _ _ _ _ => h5' x hx, ?_, ?_, rfl⟩, by omega⟩
      · show cnt + 1 ≤ c0 + (i + 1); omega
      · show gone ≤ i + 1; omega
      · show i + 1 + _ ≤ 400; omega
      · show ((As ++ [sl]) ++ []).filter _ = _
        rw [List.append_nil]; exact h4
      · show gone + ((As ++ [sl]) ++ []).length + 0 = _
        rw [List.append_nil]; exact h6
      · show Sd n O g ((As ++ [sl]) ++ []) P u 1 (((As ++ [sl]) ++ []).length + 0) 8
        rw [List.append_nil]; exact h7
    | cons y B =>
      have e1 : ∀ z : List Int, (As ++ [sl]) ++ z = As ++ sl :: z := fun z => by simp
      have hm : Tr.mu (tnx n u ⟨.a98, i, gone, cnt, sl, toV As, bk, K, N, F, g, As, sl :: y :: B⟩) + 1 = Tr.mu ⟨.a98, i, gone, cnt, sl, toV As, bk, K, N, F, g, As, sl :: y :: B⟩ := by simp [Tr.mu, tnx, muP]; omega
      refine ⟨⟨?_, ?_, ?_, ?_, fun x hx _ _ _ _ => h5' x hx, ?_, ?_, ⟨⟨B, rfl⟩, ?_⟩⟩, by omega⟩
      · show cnt + 1 ≤ c0 + (i + 1); omega
      · show gone ≤ i + 1; omega
      · show i + 1 + _ ≤ 400; omega
      · show ((As ++ [sl]) ++ y :: B).filter _ = _
        rw [e1]; exact h4
      · show gone + ((As ++ [sl]) ++ y :: B).length + 0 = _
        rw [e1]; exact h6
      · show Sd n O g ((As ++ [sl]) ++ y :: B) P u 1 (((As ++ [sl]) ++ y :: B).length + 0) 8
        rw [e1]; exact h7
      · show sl = toV (As ++ [sl])
        rw [to_last]
  | a99 =>
    simp only [Tr.cur] at h8
    subst h8
    have hm : Tr.mu (tnx n u ⟨.a99, i, gone, cnt, sl, tv, bk, K, N, F, g, As, []⟩) + 5 = Tr.mu ⟨.a99, i, gone, cnt, sl, tv, bk, K, N, F, g, As, []⟩ := by simp [Tr.mu, tnx, muP]
    refine ⟨⟨?_, ?_, ?_, h4, fun x hx _ _ _ _ => h5 x hx (by decide) (by decide) (by decide) (by decide), h6, h7.setLock (x := 0) (by omega), rfl⟩, by omega⟩
    · show cnt + 1 ≤ c0 + (i + 1); omega
    · show gone ≤ i + 1; omega
    · show i + 1 + _ ≤ 400; omega
  | a100 =>
    simp only [Tr.cur] at h8
    obtain ⟨⟨B, rfl⟩, rfl, hu, rfl⟩ := h8
    have hm : Tr.mu (tnx n u ⟨.a100, i, gone, cnt, sl, toV As, bk, at_ g (ctIx n sl), N, F, g, As, sl :: B⟩) + 1 = Tr.mu ⟨.a100, i, gone, cnt, sl, toV As, bk, at_ g (ctIx n sl), N, F, g, As, sl :: B⟩ := by simp [Tr.mu, tnx, muP]
    refine ⟨⟨?_, ?_, ?_, h4, fun x hx _ _ _ _ => h5 x hx (by decide) (by decide) (by decide) (by decide), h6, h7, ⟨⟨B, rfl⟩, rfl, hu, rfl, rfl⟩⟩, by omega⟩
    · show cnt + 1 ≤ c0 + (i + 1); omega
    · show gone ≤ i + 1; omega
    · show i + 1 + _ ≤ 400; omega
  | a101 =>
    simp only [Tr.cur] at h8
    obtain ⟨⟨B, rfl⟩, rfl, hu, rfl, rfl⟩ := h8
    have hm : Tr.mu (tnx n u ⟨.a101, i, gone, cnt, sl, toV As, bk, at_ g (ctIx n sl), N, at_ g (fsIx n sl), g, As, sl :: B⟩) + 1 = Tr.mu ⟨.a101, i, gone, cnt, sl, toV As, bk, at_ g (ctIx n sl), N, at_ g (fsIx n sl), g, As, sl :: B⟩ := by simp [Tr.mu, tnx, muP]
    refine ⟨⟨?_, ?_, ?_, h4, fun x hx _ _ _ _ => h5 x hx (by decide) (by decide) (by decide) (by decide), h6, h7, ⟨⟨B, rfl⟩, rfl, hu, rfl, rfl, rfl⟩⟩, by omega⟩
    · show cnt + 1 ≤ c0 + (i + 1); omega
    · show gone ≤ i + 1; omega
    · show i + 1 + _ ≤ 400; omega
  | a102 =>
    simp only [Tr.cur] at h8
    obtain ⟨⟨B, rfl⟩, rfl, hu, rfl, rfl, rfl⟩ := h8
    have hb := h7.bd sl (by simp)
    have hnd := h7.nd
    have hix : (if toV As = -1 then 4 * n + 1 else nxIx n (toV As)) = cutIx n As := by
      rcases List.eq_nil_or_concat As with rfl | ⟨As', y, rfl⟩
      · rfl
      · rw [List.concat_eq_append, to_last, cut_last]
        have := h7.bd y (by simp)
        rw [if_neg (by omega)]
    have hcut := h7.cut
    have hm : Tr.mu (tnx n u ⟨.a102, i, gone, cnt, sl, toV As, bk, at_ g (ctIx n sl), at_ g (nxIx n sl), at_ g (fsIx n sl), g, As, sl :: B⟩) + 1 = Tr.mu ⟨.a102, i, gone, cnt, sl, toV As, bk, at_ g (ctIx n sl), at_ g (nxIx n sl), at_ g (fsIx n sl), g, As, sl :: B⟩ := by simp [Tr.mu, tnx, muP]; omega
    have hle := h7.le
    have hsl : ∀ j, (j = fsIx n sl ∨ j = ctIx n sl) → at_ (g.set (cutIx n As) (at_ g (nxIx n sl))) j = at_ g j := fun j hj => by
      refine at_set_ne fun he => ?_
      rcases List.eq_nil_or_concat As with rfl | ⟨As', y, rfl⟩
      · rw [cut_nil] at he
        rcases hj with rfl | rfl
        · unfold fsIx at he; omega
        · unfold ctIx at he; omega
      · rw [List.concat_eq_append, cut_last] at he
        rcases hj with rfl | rfl
        · unfold fsIx nxIx at he; omega
        · unfold ctIx nxIx at he; omega
    refine ⟨⟨?_, ?_, ?_, ?_, fun x hx h _ _ _ => absurd rfl h, ?_, ?_, ⟨?_, hb.1, by have := hb.2; show sl < 8; omega, ?_, ?_⟩⟩, by omega⟩
    · show cnt + 1 ≤ c0 + (i + 1); omega
    · show gone ≤ i + 1; omega
    · show i + 1 + _ ≤ 400; omega
    · show (As ++ B).filter _ = _
      rw [← h4]
      simp [List.filter_append, hu]
    · show gone + (As ++ B).length + 1 = _
      rw [← h6]
      simp [goP]; omega
    · show Sd n O (g.set (if toV As = -1 then 4 * n + 1 else nxIx n (toV As)) (at_ g (nxIx n sl))) (As ++ B) P u 1 ((As ++ B).length + 1) 8
      rw [hix]
      have e : (As ++ B).length + 1 = (As ++ sl :: B).length + 0 := by simp; omega
      rw [e]
      exact hcut
    · show sl ∉ As ++ B
      intro hm
      have h9 : (sl :: (As ++ B)).Nodup := (List.perm_middle.nodup_iff).1 hnd
      exact (List.nodup_cons.1 h9).1 hm
    · show at_ g (ctIx n sl) = at_ (g.set (if toV As = -1 then 4 * n + 1 else nxIx n (toV As)) (at_ g (nxIx n sl))) (ctIx n sl)
      rw [hix, hsl _ (Or.inr rfl)]
    · show at_ g (fsIx n sl) = at_ (g.set (if toV As = -1 then 4 * n + 1 else nxIx n (toV As)) (at_ g (nxIx n sl))) (fsIx n sl)
      rw [hix, hsl _ (Or.inl rfl)]
  | a103 =>
    simp only [Tr.cur] at h8
    obtain ⟨hni, h0, h88, rfl, rfl⟩ := h8
    have hm : Tr.mu (tnx n u ⟨.a103, i, gone, cnt, sl, tv, bk, at_ g (ctIx n sl), N, at_ g (fsIx n sl), g, As, Bs⟩) + 1 = Tr.mu ⟨.a103, i, gone, cnt, sl, tv, bk, at_ g (ctIx n sl), N, at_ g (fsIx n sl), g, As, Bs⟩ := by simp [Tr.mu, tnx, muP]
    have hh := h7.held
    have hlt := h7.setHeld (x := at_ g (4 * n + 2) - 1) (by rw [hh]; simp only [hdP]; omega)
    have e : at_ g (4 * n + 2) - 1 = (As ++ Bs).length + 0 := by rw [hh]; rfl
    have hne : ∀ j, j ≠ 4 * n + 2 → at_ (g.set (4 * n + 2) (at_ g (4 * n + 2) - 1)) j = at_ g j := fun j hj => at_set_ne fun he => hj he.symm
    refine ⟨⟨?_, ?_, ?_, h4, fun x hx _ h _ _ => absurd rfl h, h6, ?_, ⟨hni, h0, h88, ?_, ?_, rfl⟩⟩, by omega⟩
    · show cnt + 1 ≤ c0 + (i + 1); omega
    · show gone ≤ i + 1; omega
    · show i + 1 + _ ≤ 400; omega
    · show Sd n O (g.set (4 * n + 2) (at_ g (4 * n + 2) - 1)) (As ++ Bs) P u 1 ((As ++ Bs).length + 0) 8
      rw [← e]
      exact hlt
    · exact (hne _ (by unfold ctIx; omega)).symm
    · exact (hne _ (by unfold fsIx; omega)).symm
  | a76 =>
    simp only [Tr.cur] at h8
    obtain ⟨hni, h0, h88, rfl, rfl, rfl⟩ := h8
    have hm : Tr.mu (tnx n u ⟨.a76, i, gone, cnt, sl, tv, 95, at_ g (ctIx n sl), N, at_ g (fsIx n sl), g, As, Bs⟩) + 1 = Tr.mu ⟨.a76, i, gone, cnt, sl, tv, 95, at_ g (ctIx n sl), N, at_ g (fsIx n sl), g, As, Bs⟩ := by simp [Tr.mu, tnx, muP]
    refine ⟨⟨?_, ?_, ?_, h4, fun x hx _ _ h _ => absurd rfl h, h6, h7.wipe h0 h88 hni, ⟨h0, h88, rfl⟩⟩, by omega⟩
    · show cnt + 1 ≤ c0 + (i + 1); omega
    · show gone ≤ i + 1; omega
    · show i + 1 + _ ≤ 400; omega
  | a77 =>
    simp only [Tr.cur] at h8
    obtain ⟨h0, h88, rfl⟩ := h8
    have hm : Tr.mu (tnx n u ⟨.a77, i, gone, cnt, sl, tv, 95, K, N, F, g, As, Bs⟩) + 1 = Tr.mu ⟨.a77, i, gone, cnt, sl, tv, 95, K, N, F, g, As, Bs⟩ := by simp [Tr.mu, tnx, muP]
    refine ⟨⟨?_, ?_, ?_, h4, fun x hx _ _ _ h => absurd rfl h, h6, h7.setLock (x := 0) (by omega), ⟨h0, h88, rfl⟩⟩, by omega⟩
    · show cnt + 1 ≤ c0 + (i + 1); omega
    · show gone ≤ i + 1; omega
    · show i + 1 + _ ≤ 400; omega
  | a78 =>
    simp only [Tr.cur] at h8
    have hm : Tr.mu (tnx n u ⟨.a78, i, gone, cnt, sl, tv, bk, K, N, F, g, As, Bs⟩) + 12 = Tr.mu ⟨.a78, i, gone, cnt, sl, tv, bk, K, N, F, g, As, Bs⟩ := by simp [Tr.mu, tnx, muP]
    refine ⟨⟨?_, ?_, ?_, h4, ?_, ?_, h7, rfl⟩, by omega⟩
    · show cnt ≤ c0 + (i + 1); omega
    · show gone + 1 ≤ i + 1; omega
    · show i + 1 + _ ≤ 400; omega
    · intro x hx; cases hx
    · show gone + 1 + ([] ++ (As ++ Bs)).length + 0 = _
      rw [← h6]
      simp [goP]; omega
/-- the states, one by one -/
def tst (n : Nat) (u : Nat → Nat) (s : Tr) : Nat → Tr
  | 0 => s
  | j + 1 => tnx n u (tst n u s j)
theorem tst_shift {j : Nat} : tst n u (tnx n u s) j = tst n u s (j + 1) := by
  induction j with
  | zero => rfl
  | succ j ih => show tnx n u (tst n u (tnx n u s) j) = _; rw [ih]; rfl
/-- it ends -/
theorem TG.ends (h : TG n O P u A0 c0 s) : ∃ m, (tst n u s m).pc = .fin ∧ ∀ j, j ≤ m → TG n O P u A0 c0 (tst n u s j) ∧ (j < m → (tst n u s j).pc ≠ .fin) := by
  generalize hk : s.mu = k
  induction k using Nat.strongRecOn generalizing s with
  | ind k ih =>
    by_cases hp : s.pc = .fin
    · refine ⟨0, hp, fun j hj => ?_⟩
      obtain rfl : j = 0 := by omega
      exact ⟨h, fun h0 => absurd h0 (Nat.lt_irrefl 0)⟩
    · obtain ⟨h1, h2⟩ := h.next hp
      obtain ⟨m, h3, h4⟩ := ih _ (by omega) h1 rfl
      refine ⟨m + 1, by rw [← tst_shift]; exact h3, fun j hj => ?_⟩
      cases j with
      | zero => exact ⟨h, fun _ => hp⟩
      | succ j =>
        rw [← tst_shift]
        obtain ⟨h5, h6⟩ := h4 j (by omega)
        exact ⟨h5, fun hlt => h6 (by omega)⟩
/-- what is behind it -/
theorem TG.done (h : TG n O P u A0 c0 s) (hp : s.pc = .fin) : Sd n O s.g (A0.filter fun x => decide (0 < u x.toNat)) P u 0 (A0.filter fun x => decide (0 < u x.toNat)).length 8 ∧ s.gone + (A0.filter fun x => decide (0 < u x.toNat)).length = A0.length ∧ s.cnt ≤ c0 + 400 ∧ s.gone ≤ 400 := by
  have h1 := h.cur
  unfold Tr.cur at h1
  rw [hp] at h1
  simp only at h1
  have h2 := h.flt
  have h3 := h.up
  have h4 := h.sd
  have h5 := h.sum
  have h6 := h.mu
  have h7 := h.cnt
  have h8 := h.gi
  rw [hp] at h3 h4 h5
  rw [h1, List.append_nil] at h2 h4 h5
  have e : s.As.filter (fun x => decide (0 < u x.toNat)) = s.As := List.filter_eq_self.2 fun x hx => by
    have := h3 x hx (by decide) (by decide) (by decide) (by decide)
    simpa using this
  rw [e] at h2
  rw [← h2]
  exact ⟨h4, h5, by omega, by omega⟩
end
end Go.Proofs.Ytmfemophafncnaa.Ft
