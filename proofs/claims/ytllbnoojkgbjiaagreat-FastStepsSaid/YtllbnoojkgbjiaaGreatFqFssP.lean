import Derived.Test.YtllbnoojkgbjiaaGreatFqFssO
/-
  wainscotlaw22.FastSteps: all of a round. No condition.
-/
namespace Go.Proofs.YtllbnoojkgbjiaaGreat.Fss
open Go Ex Mem See
open Go.RowKit
open Step (headR hideR showG keyG)
open chartPlaces (Ok I64)
namespace Nx
/-- a chart that may be, and its words -/
structure OkC (x : Nx) : Prop extends x.Ok0 where
  ok : Ok x.C x.S x.O x.d x.e
  nn : (x.n : Int) = 4 * x.C + 4 + 4 * x.S + x.S * x.O
section
variable {x : Nx} {s : St} {ro : Nat → Option (Option Addr × Nat × Nat)} {s0 : St} {y n : LT}
abbrev R (x : Nx) (ro : Nat → Option (Option Addr × Nat × Nat)) (s0 s : St) (d : LT) : Prop := RunL (x.σ s) (x.K ro (x.σ s0) s) d
theorem lt_is {a b : SE} {r : Bool} (h : (Cnd.lt a b).ev (x.σ s) = r) : (a.ev (x.σ s) < b.ev (x.σ s)) ↔ r = true := by
  have : decide (a.ev (x.σ s) < b.ev (x.σ s)) = r := h
  rw [← this, decide_eq_true_eq]
theorem eq_is {a b : SE} {r : Bool} (h : (Cnd.eq a b).ev (x.σ s) = r) : (a.ev (x.σ s) = b.ev (x.σ s)) ↔ r = true := by
  have : (a.ev (x.σ s) == b.ev (x.σ s)) = r := h
  rw [← this, beq_iff_eq]
theorem inW_ok (h : x.Inv s) {e : SE} {many : Int} {a : Nat} (he : e.ev (x.σ s) = (a : Int)) (h1 : 1 ≤ many) (h2 : many ≤ 2) (hm : (a : Int) + many ≤ x.n) (hn : x.n ≤ 4096) (hy : R x ro s0 s y) : R x ro s0 s (inW e many y) := by
  have e3 : (v 30).ev (x.σ s) = x.n := e30
  refine ⟨fun hh => ?_, fun _ => ⟨fun _ => ⟨fun _ => hy, fun hh => ?_⟩, fun hh => ?_⟩⟩
  · have hh := (lt_is hh).2 rfl
    have e4 : (SE.bin .sub (v 30) (l many)).ev (x.σ s) = (x.n : Int) - many := by
      show IntKind.i64.wrap (x.σ s 30 - many) = _
      rw [e30, i64_small (by omega) (by omega)]
    rw [e4, he] at hh
    omega
  · have hh := mt (lt_is hh).1 (by simp)
    rw [he, ln1, h.len] at hh
    omega
  · have hh := mt (lt_is hh).1 (by simp)
    rw [he, e3] at hh
    omega
theorem cpuQ_ok (hx : x.OkC) (hy : 0 ≤ s.t 1 → s.t 1 < x.C → R x ro s0 s y) (hn : R x ro s0 s n) : R x ro s0 s (cpuQ y n) := by
  have hok := hx.ok
  unfold Ok at hok
  have e1 : (v 1).ev (x.σ s) = s.t 1 := e_t (by omega)
  have e2 : (v 20).ev (x.σ s) = x.C := e20
  refine ⟨fun _ => hn, fun h0 => ⟨fun h1 => ⟨fun _ => ?_, fun h3 => ?_⟩, fun _ => hn⟩⟩
  · have h0 := mt (lt_is h0).1 (by simp)
    have h1 := (lt_is h1).2 rfl
    rw [e1] at h0 h1
    rw [e2] at h1
    exact hy (by have : ¬ s.t 1 < 0 := h0; omega) h1
  · have h1 := (lt_is h1).2 rfl
    have h3 := mt (lt_is h3).1 (by simp)
    rw [e1] at h1 h3
    rw [e2] at h1
    have : ¬ s.t 1 < 8 := h3
    omega
theorem head_is (hx : x.OkC) (h0 : 0 ≤ s.t 1) (h1 : s.t 1 < x.C) : headE.ev (x.σ s) = (hI s : Int) ∧ turnE.ev (x.σ s) = ((hI s + 1 : Nat) : Int) ∧ hI s + 3 < x.n := by
  have hok := hx.ok
  have hnn := hx.nn
  have hso : 0 ≤ x.S * x.O := by
    unfold Ok at hok
    exact Int.mul_nonneg (by omega) (by omega)
  unfold Ok at hok
  have eh : headE.ev (x.σ s) = 4 * s.t 1 := by rw [headE_ev, i64_small (by omega) (by omega)]
  have hi : (hI s : Int) = 4 * s.t 1 := by
    unfold hI
    rw [i64_small (by omega) (by omega)]
    omega
  refine ⟨by rw [eh, hi], ?_, by omega⟩
  show IntKind.i64.wrap (headE.ev (x.σ s) + 1) = _
  rw [eh, i64_small (by omega) (by omega)]
  omega
theorem link_is (hx : x.OkC) (h0 : 0 ≤ s.t 5) (h1 : s.t 5 < x.S) (h2 : 0 ≤ s.t 6) (h3 : s.t 6 < x.O) : linkE.ev (x.σ s) = (x.lI s : Int) ∧ x.lI s < x.n := by
  have hok := hx.ok
  have hnn := hx.nn
  unfold Ok at hok
  have hm : s.t 5 * x.O + x.O ≤ x.S * x.O := by
    have := Int.mul_le_mul_of_nonneg_right (show s.t 5 + 1 ≤ x.S by omega) (show 0 ≤ x.O by omega)
    rw [Int.add_mul, Int.one_mul] at this
    exact this
  have hm0 : 0 ≤ s.t 5 * x.O := Int.mul_nonneg h0 (by omega)
  have hm1 : s.t 5 * x.O ≤ 32 * 16 := by
    have := Int.mul_le_mul_of_nonneg_right (show s.t 5 ≤ 32 by omega) (show 0 ≤ x.O by omega)
    omega
  have hw : IntKind.i64.wrap (IntKind.i64.wrap (IntKind.i64.wrap (IntKind.i64.wrap (IntKind.i64.wrap (4 * x.C) + 4) + IntKind.i64.wrap (4 * x.S)) + IntKind.i64.wrap (s.t 5 * x.O)) + s.t 6) = 4 * x.C + 4 + 4 * x.S + s.t 5 * x.O + s.t 6 := by
    rw [i64_small (x := 4 * x.C) (by omega) (by omega), i64_small (x := 4 * x.C + 4) (by omega) (by omega), i64_small (x := 4 * x.S) (by omega) (by omega), i64_small (x := 4 * x.C + 4 + 4 * x.S) (by omega) (by omega), i64_small (x := s.t 5 * x.O) (by omega) (by omega), i64_small (x := 4 * x.C + 4 + 4 * x.S + s.t 5 * x.O) (by omega) (by omega), i64_small (by omega) (by omega)]
  have hli : (x.lI s : Int) = 4 * x.C + 4 + 4 * x.S + s.t 5 * x.O + s.t 6 := by
    unfold lI
    rw [hw]
    omega
  refine ⟨by rw [linkE_ev, hw, hli], by omega⟩
theorem linkQ_ok (hx : x.OkC) (h : x.Inv s) (hy : x.lI s < x.n → linkE.ev (x.σ s) = (x.lI s : Int) → R x ro s0 s y) (hn : R x ro s0 s n) : R x ro s0 s (linkQ y n) := by
  have hok := hx.ok
  unfold Ok at hok
  have e5 : (v 5).ev (x.σ s) = s.t 5 := e_t (by omega)
  have e6 : (v 6).ev (x.σ s) = s.t 6 := e_t (by omega)
  have e1 : (v 21).ev (x.σ s) = x.S := e21
  have e2 : (v 22).ev (x.σ s) = x.O := e22
  refine ⟨fun _ => hn, fun h0 => ⟨fun h1 => ⟨fun _ => ⟨fun _ => hn, fun h2 => ⟨fun h3 => ⟨fun _ => ?_, fun h4 => ?_⟩, fun _ => hn⟩⟩, fun h4 => ?_⟩, fun _ => hn⟩⟩
  · have h0 : ¬ s.t 5 < 0 := by have := mt (lt_is h0).1 (by simp); rw [e5] at this; exact this
    have h1 : s.t 5 < x.S := by have := (lt_is h1).2 rfl; rw [e5, e1] at this; exact this
    have h2 : ¬ s.t 6 < 0 := by have := mt (lt_is h2).1 (by simp); rw [e6] at this; exact this
    have h3 : s.t 6 < x.O := by have := (lt_is h3).2 rfl; rw [e6, e2] at this; exact this
    obtain ⟨l1, l2⟩ := link_is hx (by omega) h1 (by omega) h3
    exact inW_ok h l1 (by omega) (by omega) (by omega) hx.n1 (hy l2 l1)
  · have h3 : s.t 6 < x.O := by have := (lt_is h3).2 rfl; rw [e6, e2] at this; exact this
    have h4 : ¬ s.t 6 < 16 := by have := mt (lt_is h4).1 (by simp); rw [e6] at this; exact this
    omega
  · have h1 : s.t 5 < x.S := by have := (lt_is h1).2 rfl; rw [e5, e1] at this; exact this
    have h4 : ¬ s.t 5 < 32 := by have := mt (lt_is h4).1 (by simp); rw [e5] at this; exact this
    omega
theorem headQ_ok {f : Bool → Bool → LT} (hf : ∀ a b, R x ro s0 s (f a b)) (hn : R x ro s0 s n) : R x ro s0 s (headQ f n) := by
  have fits : ∀ a b, R x ro s0 s (headQ.fits f n a b) := fun a b => ⟨fun _ => ⟨fun _ => hf a b, fun _ => hn⟩, fun _ => ⟨fun _ => hn, fun _ => hn⟩⟩
  exact ⟨fun _ => ⟨fun _ => fits true true, fun _ => fits true false⟩, fun _ => ⟨fun _ => fits false true, fun _ => fits false false⟩⟩
theorem q_ok {c : Cnd} (hy : R x ro s0 s y) (hn : R x ro s0 s n) : R x ro s0 s (q c y n) := ⟨fun _ => hy, fun _ => hn⟩
variable (hx : x.OkC) (h : x.Inv s) (hlt : s.i < 12) (hro : ∀ i p, ro i = some p → i = 40)
include hx h hlt hro
theorem go_ok {u : List (Nat × SE)} (hu : ∀ p ∈ u, p.1 < 17) : R x ro s0 s (go u) := next_ok hx.toOk0 h hlt hro hu (c1_ev hx.toOk0 h) (Nat.le_refl _) r1 h.len h.w64
theorem brk0 : R x ro s0 s (brk (v 42)) := next_ok hx.toOk0 h hlt hro (by simp) (show (v 42).ev (x.σ s) = (s.cnt : Int) from e42) (by omega) r1 h.len h.w64
theorem brk1 : R x ro s0 s (brk c1) := next_ok hx.toOk0 h hlt hro (by simp) (c1_ev hx.toOk0 h) (Nat.le_refl _) r1 h.len h.w64
theorem d0_ok : R x ro s0 s d0 := by
  refine cpuQ_ok hx (fun h0 h1 => ?_) (brk0 hx h hlt hro)
  obtain ⟨a1, a2, a3⟩ := head_is hx h0 h1
  exact inW_ok h a2 (by omega) (by omega) (by omega) hx.n1 (go_ok hx h hlt hro (by simp))
theorem dLook_ok : R x ro s0 s dLook := by
  refine cpuQ_ok hx (fun h0 h1 => ?_) (brk0 hx h hlt hro)
  obtain ⟨a1, a2, a3⟩ := head_is hx h0 h1
  exact inW_ok h a1 (by omega) (by omega) (by omega) hx.n1 (q_ok (headQ_ok (fun a b => go_ok hx h hlt hro (by simp)) (brk1 hx h hlt hro)) (brk1 hx h hlt hro))
theorem dMine_ok : R x ro s0 s dMine := by
  have b0 := brk0 (s0 := s0) hx h hlt hro
  have b1 := brk1 (s0 := s0) hx h hlt hro
  refine cpuQ_ok hx (fun h0 h1 => ?_) (q_ok b0 b0)
  obtain ⟨a1, a2, a3⟩ := head_is hx h0 h1
  exact inW_ok h a1 (by omega) (by omega) (by omega) hx.n1 (q_ok (q_ok (headQ_ok (fun a b => go_ok hx h hlt hro (by simp)) b1) (headQ_ok (fun a b => go_ok hx h hlt hro (by simp)) b1)) (q_ok b1 b1))
theorem dNext_ok : R x ro s0 s dNext := by
  have b0 := brk0 (s0 := s0) hx h hlt hro
  refine linkQ_ok hx h (fun _ _ => ?_) (q_ok (q_ok b0 b0) b0)
  exact q_ok (q_ok (go_ok hx h hlt hro (by simp)) (go_ok hx h hlt hro (by simp))) (go_ok hx h hlt hro (by simp))
theorem dSwap_ok {i : Nat} {again : Int} {z : Nat} (hz : (v (i + 1)).ev (x.σ s) = (z : Int)) (hz2 : z < 18446744073709551616) : R x ro s0 s (dSwap i again) := by
  have b0 := brk0 (s0 := s0) hx h hlt hro
  have g0 := go_ok (s0 := s0) (u := [(2, l again)]) hx h hlt hro (by simp)
  refine q_ok (cpuQ_ok hx (fun h0 h1 => ?_) b0) b0
  obtain ⟨a1, a2, a3⟩ := head_is hx h0 h1
  have e3 : (v 30).ev (x.σ s) = x.n := e30
  refine inW_ok h a1 (by omega) (by omega) (by omega) hx.n1 ⟨fun _ => ⟨fun _ => q_ok (q_ok ?_ g0) g0, fun hh => ?_⟩, fun hh => ?_⟩
  · refine next_ok hx.toOk0 h hlt hro (by simp) (c1_ev hx.toOk0 h) (Nat.le_refl _) (set_rec (set_rec r1 a1 hz (by rw [h.len]; omega)) a2 turn_ev (by rw [List.length_set, h.len]; omega)) (by rw [List.length_set, List.length_set]; exact h.len) (w64_set (w64_set h.w64 hz2) turnN_lt)
  · have hh := mt (lt_is hh).1 (by simp)
    rw [a2, ln1, h.len] at hh
    omega
  · have hh := mt (lt_is hh).1 (by simp)
    rw [a2, e3] at hh
    omega
theorem dTie_ok : R x ro s0 s dTie := by
  have b0 := brk0 (s0 := s0) hx h hlt hro
  refine q_ok (linkQ_ok hx h (fun hl he => ?_) b0) b0
  exact next_ok hx.toOk0 h hlt hro (by simp) (c1_ev hx.toOk0 h) (Nat.le_refl _) (set_rec r1 he new70 (by rw [h.len]; exact hl)) (by rw [List.length_set]; exact h.len) (w64_set h.w64 (hideR_lt _ _ _))
omit hx h hlt in
theorem dNo_ok (hne : ∀ k ∈ pcs, s.t 2 ≠ k) : R x ro s0 s dNo := by
  have n0 := none_ok (x := x) (s := s) (s0 := s0) hro
  have e2 : (v 2).ev (x.σ s) = s.t 2 := e_t (by omega)
  have p0 := hne 0 (by simp [pcs]); have p1 := hne 1 (by simp [pcs]); have p2 := hne 2 (by simp [pcs]); have p3 := hne 3 (by simp [pcs])
  have p10 := hne 10 (by simp [pcs]); have p11 := hne 11 (by simp [pcs]); have p12 := hne 12 (by simp [pcs]); have p13 := hne 13 (by simp [pcs])
  refine ⟨fun _ => n0, fun h0 => ⟨fun _ => n0, fun h1 => ⟨fun h2 => ⟨fun _ => n0, fun h3 => ?_⟩, fun h2 => ?_⟩⟩⟩
  · have h1 : ¬ 13 < s.t 2 := by have := mt (lt_is h1).1 (by simp); rw [e2] at this; exact this
    have h3 : ¬ s.t 2 < 10 := by have := mt (lt_is h3).1 (by simp); rw [e2] at this; exact this
    omega
  · have h0 : ¬ s.t 2 < 0 := by have := mt (lt_is h0).1 (by simp); rw [e2] at this; exact this
    have h2 : ¬ 3 < s.t 2 := by have := mt (lt_is h2).1 (by simp); rw [e2] at this; exact this
    omega
omit hx h hlt hro in
theorem ne_of {k : Int} (hh : (Cnd.eq (v 2) (l k)).ev (x.σ s) = false) : s.t 2 ≠ k := by
  have := mt (eq_is hh).1 (by simp)
  rw [show (v 2).ev (x.σ s) = s.t 2 from e_t (by omega)] at this
  exact this
theorem dPc_ok : R x ro s0 s dPc := by
  refine ⟨fun _ => d0_ok hx h hlt hro, fun h0 => ⟨fun _ => dLook_ok hx h hlt hro, fun h1 => ⟨fun _ => dNext_ok hx h hlt hro, fun h2 => ⟨fun _ => dSwap_ok hx h hlt hro new68 (headR_lt _ _), fun h3 => ⟨fun _ => d0_ok hx h hlt hro, fun h4 => ⟨fun _ => dMine_ok hx h hlt hro, fun h5 => ⟨fun _ => dTie_ok hx h hlt hro, fun h6 => ⟨fun _ => dSwap_ok hx h hlt hro new78 (headR_lt _ _), fun h7 => ?_⟩⟩⟩⟩⟩⟩⟩⟩
  refine dNo_ok hro fun k hk => ?_
  simp only [pcs, List.mem_cons, List.not_mem_nil, or_false] at hk
  rcases hk with rfl | rfl | rfl | rfl | rfl | rfl | rfl | rfl
  · exact ne_of h0
  · exact ne_of h1
  · exact ne_of h2
  · exact ne_of h3
  · exact ne_of h4
  · exact ne_of h5
  · exact ne_of h6
  · exact ne_of h7
omit hx h hlt in
theorem dOdd_ok : R x ro s0 s dAll.dOdd := by
  have n0 := none_ok (x := x) (s := s) (s0 := s0) hro
  refine ⟨fun _ => n0, fun h0 => ⟨fun _ => n0, fun h1 => ⟨fun _ => n0, fun h2 => ⟨fun _ => n0, fun h3 => ⟨fun _ => n0, fun h4 => ⟨fun _ => n0, fun h5 => ⟨fun _ => n0, fun h6 => ⟨fun _ => n0, fun h7 => ?_⟩⟩⟩⟩⟩⟩⟩⟩
  refine dNo_ok hro fun k hk => ?_
  simp only [pcs, List.mem_cons, List.not_mem_nil, or_false] at hk
  rcases hk with rfl | rfl | rfl | rfl | rfl | rfl | rfl | rfl
  · exact ne_of h0
  · exact ne_of h1
  · exact ne_of h2
  · exact ne_of h3
  · exact ne_of h4
  · exact ne_of h5
  · exact ne_of h6
  · exact ne_of h7
omit hlt in
theorem dAll_ok : R x ro s0 s dAll := by
  refine ⟨fun hh => ?_, fun _ => none_ok hro⟩
  have hlt : s.i < 12 := by
    have := (lt_is hh).2 rfl
    rw [show (v 41).ev (x.σ s) = (s.i : Int) from e41] at this
    have : (s.i : Int) < 12 := this
    omega
  exact ⟨fun _ => ⟨fun _ => dPc_ok hx h hlt hro, fun _ => dOdd_ok hro⟩, fun _ => dOdd_ok hro⟩
end
end Nx
end Go.Proofs.YtllbnoojkgbjiaaGreat.Fss
