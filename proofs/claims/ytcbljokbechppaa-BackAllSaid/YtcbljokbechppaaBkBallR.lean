import Derived.Test.YtcbljokbechppaaBkBallQ
import Derived.Test.YtcbljokbechppaaBkBallE
import Derived.Test.YtcbljokbechppaaBkBackD
/-
  wainscotlaw23.BackAll: a step of a task, as a known call. No condition.
-/
namespace Go.Proofs.Ytcbljokbechppaa.Ball
open Go Ex Mem See Fast Back
open Go.RowKit
theorem fn_step : FnOk Try.prog 13 := ⟨Try.f13, _, Try.func13, by kernel_rfl, rfl⟩
/-- what a step sees: objects less one, key, accesses, object, the task, the words; other lists -/
structure Sb where
  K : Nat
  key : Nat
  cnt : Nat
  o : Nat
  t : Tk
  g : List Nat
  ls : Nat → List (List Int)
namespace Sb
def k (s : Sb) : Nat := s.K + 1
def way (s : Sb) : SW :=
  if s.t.en = 0 then
    if s.t.pc = 50 then .first else if s.t.pc = 51 then .counts else if s.t.pc = 52 then .tie
    else if at_ s.g 12 = s.t.f then (if at_ s.g 13 = s.t.kw then .win else .loseK) else .loseF
  else .done
/-- Inuse of what is read -/
def inn (s : Sb) : Nat := if s.t.pc = 51 then inuse (at_ s.g 13) else inuse s.t.kw
def vB (s : Sb) (i : Nat) : Int := ([(s.K : Int), s.o, 0, 0, s.key, s.cnt, s.t.pc, s.t.en, s.t.f, s.t.kw, packN (s.inn - 1) s.k true true, hideW ((s.t.f : Int) - 1) (key1 s.key) s.o, s.inn] : List Int).getD i 0
def lB (s : Sb) (q : Nat) : List (List Int) := if q = 0 then one (natsI s.g) else s.ls q
def σB (s : Sb) : Nat → Int := sg s.vB s.lB
structure Ok (s : Sb) : Prop where
  K : s.K < 16
  key : s.key < 18446744073709551616
  cnt : s.cnt < 1000
  o : s.o ≤ s.K
  len : s.g.length = 16 + 2 * s.k
  en : s.t.en = 0 ∨ s.t.en = 1
  live : s.t.en = 0 → Live s.k s.key s.g s.o s.t
  g12 : at_ s.g 12 ≤ s.k
  g13 : s.t.en = 0 → ∃ c, 1 ≤ c ∧ c ≤ s.k ∧ at_ s.g 13 = packN c s.k true true
section
variable {s : Sb} (h : s.Ok)
include h
omit h in
theorem ev_v {i : Nat} (hi : i < 2048) : (v i).ev s.σB = s.vB i := by
  show sg s.vB s.lB i = _
  rw [sg_v hi]
omit h in
theorem x0 : (v 0).ev s.σB = (s.K : Int) := ev_v (by omega)
omit h in
theorem x1 : (v 1).ev s.σB = (s.o : Int) := ev_v (by omega)
omit h in
theorem x2 : (v 2).ev s.σB = 0 := ev_v (by omega)
omit h in
theorem x3 : (v 3).ev s.σB = 0 := ev_v (by omega)
omit h in
theorem x4 : (v 4).ev s.σB = (s.key : Int) := ev_v (by omega)
omit h in
theorem x5 : (v 5).ev s.σB = (s.cnt : Int) := ev_v (by omega)
omit h in
theorem x6 : (v 6).ev s.σB = (s.t.pc : Int) := ev_v (by omega)
omit h in
theorem x7 : (v 7).ev s.σB = (s.t.en : Int) := ev_v (by omega)
omit h in
theorem x8 : (v 8).ev s.σB = (s.t.f : Int) := ev_v (by omega)
omit h in
theorem x9 : (v 9).ev s.σB = (s.t.kw : Int) := ev_v (by omega)
omit h in
theorem x10 : (v 10).ev s.σB = (packN (s.inn - 1) s.k true true : Int) := ev_v (by omega)
omit h in
theorem x11 : (v 11).ev s.σB = (hideW ((s.t.f : Int) - 1) (key1 s.key) s.o : Int) := ev_v (by omega)
omit h in
theorem x12 : (v 12).ev s.σB = (s.inn : Int) := ev_v (by omega)
omit h in
theorem xw (i : Nat) : (w (i : Int)).ev s.σB = (at_ s.g i : Int) := by
  show sg s.vB s.lB (lc 0 ((i : Int).toNat) 0) = _
  rw [sg_one (L := natsI s.g) (by omega) rfl, Int.toNat_natCast, List.getD_eq_getElem?_getD]
  unfold at_ natsI
  rw [List.getElem?_map, List.getD_eq_getElem?_getD]
  cases s.g[i]? <;> rfl
theorem xk : (kE 0).ev s.σB = (s.k : Int) := by
  have := h.K
  show IntKind.i64.wrap (1 + (v 0).ev s.σB) = _
  rw [x0, i64_small (by omega) (by omega)]
  unfold Sb.k
  omega
theorem k16 : 1 ≤ s.k ∧ s.k ≤ 16 ∧ s.o < s.k := by
  have := h.K
  have := h.o
  unfold Sb.k
  omega
theorem xN : (wordsE (kE 0)).ev s.σB = ((16 + 2 * s.k : Nat) : Int) := by
  have := k16 h
  show IntKind.i64.wrap (16 + IntKind.i64.wrap (2 * (kE 0).ev s.σB)) = _
  rw [xk h, i64_small (x := 2 * _) (by omega) (by omega), i64_small (by omega) (by omega)]
  omega
theorem xlink {e : SE} {i : Nat} (he : e.ev s.σB = (i : Int)) (hi : i < 100) : (linkE e).ev s.σB = ((16 + s.k + i : Nat) : Int) := by
  have := k16 h
  show IntKind.i64.wrap (IntKind.i64.wrap (16 + IntKind.i64.wrap (1 * (kE 0).ev s.σB)) + e.ev s.σB) = _
  rw [xk h, he, i64_small (x := 1 * _) (by omega) (by omega), i64_small (x := 16 + _) (by omega) (by omega), i64_small (by omega) (by omega)]
  omega
theorem xkey : (keyE (v 4)).ev s.σB = (key1 s.key : Int) := by
  have := h.key
  show IntKind.u64.wrap ((v 4).ev s.σB + 11400714819323198485) = _
  rw [x4, IntKind.wrap_u64]
  unfold key1 See.keyOf
  omega
omit h in
theorem key1_lt (k : Nat) : key1 k < 18446744073709551616 := by
  unfold key1 See.keyOf
  exact Nat.mod_lt _ (by omega)
theorem xlen : (SE.len (.lvar 0)).ev s.σB = ((16 + 2 * s.k : Nat) : Int) := by
  show ((s.σB (ln 0)).toNat : Int) = _
  unfold σB
  rw [sg_oneN (L := natsI s.g) (by omega) rfl, natsI_len, h.len]
  rfl
/-- Inuse, of a live task behind its second step, or at it -/
theorem inn_ok (he : s.t.en = 0) (hp : 51 ≤ s.t.pc) : 1 ≤ s.inn ∧ s.inn ≤ s.k ∧ (if s.t.pc = 51 then at_ s.g 13 else s.t.kw) = packN s.inn s.k true true := by
  have hk := (k16 h).2.1
  unfold inn
  split
  · obtain ⟨c, h1, h2, h3⟩ := h.g13 he
    rw [h3, inuse_pack (by omega) hk]
    exact ⟨h1, h2, rfl⟩
  · obtain ⟨c, h1, h2, h3⟩ := (h.live he).kw (by omega)
    rw [h3, inuse_pack (by omega) hk]
    exact ⟨h1, h2, rfl⟩
/-- which way -/
theorem way_is : match s.way with
    | .done => s.t.en = 1
    | .first => s.t.en = 0 ∧ s.t.pc = 50
    | .counts => s.t.en = 0 ∧ s.t.pc = 51
    | .tie => s.t.en = 0 ∧ s.t.pc = 52
    | .win => s.t.en = 0 ∧ s.t.pc = 53 ∧ at_ s.g 12 = s.t.f ∧ at_ s.g 13 = s.t.kw
    | .loseF => s.t.en = 0 ∧ s.t.pc = 53 ∧ at_ s.g 12 ≠ s.t.f
    | .loseK => s.t.en = 0 ∧ s.t.pc = 53 ∧ at_ s.g 12 = s.t.f ∧ at_ s.g 13 ≠ s.t.kw := by
  unfold way
  by_cases he : s.t.en = 0
  · rw [if_pos he]
    have hpc := (h.live he).pc
    by_cases p0 : s.t.pc = 50
    · rw [if_pos p0]; exact ⟨he, p0⟩
    · rw [if_neg p0]
      by_cases p1 : s.t.pc = 51
      · rw [if_pos p1]; exact ⟨he, p1⟩
      · rw [if_neg p1]
        by_cases p2 : s.t.pc = 52
        · rw [if_pos p2]; exact ⟨he, p2⟩
        · rw [if_neg p2]
          have p3 : s.t.pc = 53 := by omega
          by_cases hf : at_ s.g 12 = s.t.f
          · rw [if_pos hf]
            by_cases hq : at_ s.g 13 = s.t.kw
            · rw [if_pos hq]; exact ⟨he, p3, hf, hq⟩
            · rw [if_neg hq]; exact ⟨he, p3, hf, hq⟩
          · rw [if_neg hf]; exact ⟨he, p3, hf⟩
  · rw [if_neg he]
    exact h.en.resolve_left he
theorem facts_P : ∀ q ∈ fP, q.1.ev s.σB = q.2 := by
  have hk := k16 h
  have hkK : s.k = s.K + 1 := rfl
  have hc := h.cnt
  have lt : ∀ x : Int, (l x).ev s.σB = x := fun _ => rfl
  have l0 := xlen h
  have hl := xlink h x1 (by omega)
  intro q hq
  simp only [fP, List.mem_cons, List.not_mem_nil, or_false] at hq
  rcases hq with rfl | rfl | rfl | rfl | rfl | rfl | rfl | rfl | rfl | rfl | rfl | rfl | rfl | rfl | rfl | rfl
  · exact lt_f x0 (lt 0) (by omega)
  · exact lt_t x0 (lt 16) (by omega)
  · exact lt_f x1 (lt 0) (by omega)
  · exact lt_t x1 (lt 16) (by omega)
  · exact lt_t x1 (xk h) (by omega)
  · exact lt_f x2 (lt 0) (by omega)
  · exact lt_t x2 (lt 3) (by omega)
  · exact lt_f x3 (lt 0) (by omega)
  · exact lt_t x3 (lt 3) (by omega)
  · exact lt_f x5 (lt 0) (by omega)
  · exact lt_t x5 (lt 1000) (by omega)
  · exact lt_f l0 (lt 18) (by omega)
  · exact lt_t l0 (lt 100) (by omega)
  · refine lt_f (x := ((16 + 2 * s.k : Nat) : Int) - 1) ?_ hl (by omega)
    show IntKind.i64.wrap ((wordsE (kE 0)).ev s.σB - 1) = _
    rw [xN h, i64_small (by omega) (by omega)]
  · exact lt_t hl (xN h) (by omega)
  · exact lt_t hl l0 (by omega)
omit h in
theorem facts_at {p : Nat} (he : s.t.en = 0) (hp : s.t.pc = p) : ∀ q ∈ atPc (p : Int), q.1.ev s.σB = q.2 := by
  have lt : ∀ x : Int, (l x).ev s.σB = x := fun _ => rfl
  intro q hq
  simp only [atPc, List.mem_cons, List.not_mem_nil, or_false] at hq
  rcases hq with rfl | rfl
  · exact eq_t x6 (lt _) (by omega)
  · exact eq_t x7 (lt 0) (by omega)
theorem facts_W : ∀ q ∈ s.way.fs, q.1.ev s.σB = q.2 := by
  have hk := k16 h
  have lt : ∀ x : Int, (l x).ev s.σB = x := fun _ => rfl
  have w12 : (w 12).ev s.σB = (at_ s.g 12 : Int) := xw 12
  have w13 : (w 13).ev s.σB = (at_ s.g 13 : Int) := xw 13
  have h12 := h.g12
  have cvk : (SE.cv .u64 (kE 0)).ev s.σB = (s.k : Int) := by
    show IntKind.u64.wrap ((kE 0).ev s.σB) = _
    rw [xk h, u64_small (by omega) (by omega)]
  have hw := way_is h
  intro q hq
  cases hw' : s.way with
  | done =>
    rw [hw'] at hq hw
    simp only [SW.fs, List.mem_cons, List.not_mem_nil, or_false] at hq
    subst hq
    exact eq_f x7 (lt 0) (by have hw : s.t.en = 1 := hw; omega)
  | first =>
    rw [hw'] at hq hw
    rcases List.mem_append.1 hq with hq | hq
    · exact facts_at hw.1 hw.2 q hq
    · simp only [List.mem_cons, List.not_mem_nil, or_false] at hq
      rcases hq with rfl | rfl | rfl
      · exact lt_f cvk w12 (by omega)
      · exact lt_f w12 (lt 0) (by omega)
      · exact lt_t w12 (lt 17) (by omega)
  | counts =>
    rw [hw'] at hq hw
    rcases List.mem_append.1 hq with hq | hq
    · exact facts_at hw.1 hw.2 q hq
    · simp only [List.mem_cons, List.not_mem_nil, or_false] at hq
      subst hq
      exact lt_t (lt 0) x12 (by have := (inn_ok h hw.1 (by have := hw.2; omega)).1; omega)
  | tie =>
    rw [hw'] at hq hw
    have hf := (h.live hw.1).f (by have := hw.2; omega)
    rcases List.mem_append.1 hq with hq | hq
    · exact facts_at hw.1 hw.2 q hq
    · simp only [List.mem_cons, List.not_mem_nil, or_false] at hq
      rcases hq with rfl | rfl | rfl | rfl
      · exact lt_t (lt 0) x12 (by have := (inn_ok h hw.1 (by have := hw.2; omega)).1; omega)
      · exact lt_f cvk x8 (by omega)
      · exact lt_f x8 (lt 0) (by omega)
      · exact lt_t x8 (lt 17) (by omega)
  | win =>
    rw [hw'] at hq hw
    obtain ⟨a1, a2, a3, a4⟩ := hw
    rcases List.mem_append.1 hq with hq | hq
    · exact facts_at a1 a2 q hq
    · simp only [List.mem_cons, List.not_mem_nil, or_false] at hq
      rcases hq with rfl | rfl
      · exact eq_t w12 x8 (by omega)
      · exact eq_t w13 x9 (by omega)
  | loseF =>
    rw [hw'] at hq hw
    obtain ⟨a1, a2, a3⟩ := hw
    rcases List.mem_append.1 hq with hq | hq
    · exact facts_at a1 a2 q hq
    · simp only [List.mem_cons, List.not_mem_nil, or_false] at hq
      subst hq
      exact eq_f w12 x8 (by omega)
  | loseK =>
    rw [hw'] at hq hw
    obtain ⟨a1, a2, a3, a4⟩ := hw
    rcases List.mem_append.1 hq with hq | hq
    · exact facts_at a1 a2 q hq
    · simp only [List.mem_cons, List.not_mem_nil, or_false] at hq
      rcases hq with rfl | rfl
      · exact eq_t w12 x8 (by omega)
      · exact eq_f w13 x9 (by omega)
theorem facts_X : ∀ q ∈ s.way.fx, q.1.ev s.σB = q.2 := fun q hq => by
  rcases List.mem_append.1 hq with hq | hq
  · exact facts_W h q hq
  · exact facts_P h q hq
variable {rks : List (Nat × CK)} {ro : Nat → Option (Option Addr × Nat × Nat)}
theorem kcs_step : KcAll [] rks ro Try.prog s.σB Nb.Ωn s.way.kcs := by
  have hk := k16 h
  have hkK : s.k = s.K + 1 := rfl
  have hw := way_is h
  have w13 : (w 13).ev s.σB = (at_ s.g 13 : Int) := xw 13
  have e12 : (SE.bin .sub (v 12) (l 1)).ev s.σB = ((s.inn - 1 : Nat) : Int) ∨ s.inn = 0 := by
    by_cases h0 : s.inn = 0
    · exact .inr h0
    · left
      show IntKind.i64.wrap ((v 12).ev s.σB - 1) = _
      have : s.inn ≤ 255 := by unfold inn inuse; split <;> omega
      rw [x12, i64_small (by omega) (by omega)]
      omega
  have counts : ∀ (e : s.t.en = 0) (p : 51 ≤ s.t.pc) (K : SE), K.ev s.σB = ((if s.t.pc = 51 then at_ s.g 13 else s.t.kw : Nat) : Int) → ∀ fs (ok : ∀ f ∈ fs, f.1.ev s.σB = f.2), @KcOk (nums [] rks ro s.σB Nb.Ωn fs ok) Try.prog (kcCountsP K) := fun e p K hK fs ok => by
    letI N : Nums := nums [] rks ro s.σB Nb.Ωn fs ok
    obtain ⟨a, b, c⟩ := inn_ok h e p
    rw [c] at hK
    exact kc_counts (A := s.inn) (B := s.k) hK x12 (xk h) b hk.1 hk.2.1
  have packs : ∀ (e : s.t.en = 0) (p : 51 ≤ s.t.pc), ∀ fs (ok : ∀ f ∈ fs, f.1.ev s.σB = f.2), @KcOk (nums [] rks ro s.σB Nb.Ωn fs ok) Try.prog kcPackP := fun e p fs ok => by
    letI N : Nums := nums [] rks ro s.σB Nb.Ωn fs ok
    obtain ⟨a, b, c⟩ := inn_ok h e p
    exact kc_pack (A := s.inn - 1) (B := s.k) (e12.resolve_right (by omega)) (xk h) (by omega) hk.1 hk.2.1 x10
  cases hw' : s.way with
  | done => exact kcAll_nil
  | first => exact kcAll_nil
  | counts =>
    rw [hw'] at hw
    have hp := hw.2
    exact kcAll_cons (counts hw.1 (by omega) _ (by rw [if_pos hp]; exact w13)) kcAll_nil
  | tie =>
    rw [hw'] at hw
    have hp := hw.2
    refine kcAll_cons (counts hw.1 (by omega) _ (by rw [if_neg (by omega)]; exact x9)) (kcAll_cons (fun fs ok => ?_) kcAll_nil)
    letI N : Nums := nums [] rks ro s.σB Nb.Ωn fs ok
    have hf := (h.live hw.1).f (by omega)
    refine kc_hide (x := (s.t.f : Int) - 1) (y := (s.o : Int)) (key := key1 s.key) ?_ (xkey h) x1 (by omega) (by omega) (key1_lt _) ?_
    · show IntKind.i64.wrap (IntKind.i64.wrap ((v 8).ev s.σB) - 1) = _
      rw [x8, i64_small (x := (s.t.f : Int)) (by omega) (by omega), i64_small (by omega) (by omega)]
    · rw [Int.toNat_natCast]
      exact x11
  | win =>
    rw [hw'] at hw
    have hp := hw.2.1
    exact kcAll_cons (counts hw.1 (by omega) _ (by rw [if_neg (by omega)]; exact x9)) (kcAll_cons (packs hw.1 (by omega)) kcAll_nil)
  | loseF =>
    rw [hw'] at hw
    have hp := hw.2.1
    exact kcAll_cons (counts hw.1 (by omega) _ (by rw [if_neg (by omega)]; exact x9)) (kcAll_cons (packs hw.1 (by omega)) kcAll_nil)
  | loseK =>
    rw [hw'] at hw
    have hp := hw.2.1
    exact kcAll_cons (counts hw.1 (by omega) _ (by rw [if_neg (by omega)]; exact x9)) (kcAll_cons (packs hw.1 (by omega)) kcAll_nil)
/-- what is behind a step -/
def aft (s : Sb) : Tk × List Nat := stepB s.k s.key s.g s.o s.t
theorem to_ok (h1 : s.t.en = 0) : s.way.to.1.ev s.σB = (s.aft.1.pc : Int) ∧ s.way.to.2.1.ev s.σB = (s.aft.1.en : Int) ∧ s.way.to.2.2.1.ev s.σB = (s.aft.1.f : Int) ∧ s.way.to.2.2.2.1.ev s.σB = (s.aft.1.kw : Int) ∧ LsRec s.σB s.way.to.2.2.2.2 (one (natsI s.aft.2)) := by
  have hk := k16 h
  have hw := way_is h
  have hlen := h.len
  have w12 : (w 12).ev s.σB = (at_ s.g 12 : Int) := xw 12
  have w13 : (w 13).ev s.σB = (at_ s.g 13 : Int) := xw 13
  have r0 : LsRec s.σB (.lvar 0) (one (natsI s.g)) := LsRec.var' (by omega) rfl
  have st : ∀ {L e x : SE} {g : List Nat} {i y : Nat}, LsRec s.σB L (one (natsI g)) → e.ev s.σB = (i : Int) → x.ev s.σB = (y : Int) → i < g.length → LsRec s.σB (.lset L e 0 x) (one (natsI (g.set i y))) := by
    intro L e x g i y hL he hx hi
    rw [Nb.nats_set]
    exact hL.set he hx (by rw [natsI_len]; exact hi)
  unfold aft stepB
  cases hw' : s.way with
  | done =>
    rw [hw'] at hw
    have hw : s.t.en = 1 := hw
    omega
  | first =>
    rw [hw'] at hw
    rw [if_pos hw.1, if_pos hw.2]
    exact ⟨rfl, by show (0 : Int) = _; rw [hw.1]; rfl, w12, x9, r0⟩
  | counts =>
    rw [hw'] at hw
    have hp := hw.2
    rw [if_pos hw.1, if_neg (by omega), if_pos hp]
    exact ⟨rfl, by show (0 : Int) = _; rw [hw.1]; rfl, x8, w13, r0⟩
  | tie =>
    rw [hw'] at hw
    have hp := hw.2
    rw [if_pos hw.1, if_neg (by omega), if_neg (by omega), if_pos hp]
    exact ⟨rfl, by show (0 : Int) = _; rw [hw.1]; rfl, x8, x9, st r0 (xlink h x1 (by omega)) x11 (by omega)⟩
  | win =>
    rw [hw'] at hw
    obtain ⟨a1, hp, a3, a4⟩ := hw
    rw [if_pos a1, if_neg (by omega), if_neg (by omega), if_neg (by omega), if_pos ⟨a3, a4⟩]
    have hin : s.inn = inuse s.t.kw := by unfold inn; rw [if_neg (by omega)]
    refine ⟨by show (53 : Int) = _; rw [hp]; rfl, rfl, x8, x9, ?_⟩
    rw [← hin]
    refine st (st r0 (e := l 12) (i := 12) (y := s.o + 1) rfl ?_ (by omega)) (e := l 13) (i := 13) rfl x10 (by rw [List.length_set]; omega)
    show IntKind.u64.wrap (IntKind.i64.wrap ((v 1).ev s.σB + 1)) = _
    rw [x1, i64_small (by omega) (by omega), u64_small (by omega) (by omega)]
    omega
  | loseF =>
    rw [hw'] at hw
    obtain ⟨a1, hp, a3⟩ := hw
    rw [if_pos a1, if_neg (by omega), if_neg (by omega), if_neg (by omega), if_neg (fun hh => a3 hh.1)]
    exact ⟨rfl, by show (0 : Int) = _; rw [a1]; rfl, x8, x9, r0⟩
  | loseK =>
    rw [hw'] at hw
    obtain ⟨a1, hp, a3, a4⟩ := hw
    rw [if_pos a1, if_neg (by omega), if_neg (by omega), if_neg (by omega), if_neg (fun hh => a4 hh.2)]
    exact ⟨rfl, by show (0 : Int) = _; rw [a1]; rfl, x8, x9, r0⟩
end
end Sb
end Go.Proofs.Ytcbljokbechppaa.Ball
