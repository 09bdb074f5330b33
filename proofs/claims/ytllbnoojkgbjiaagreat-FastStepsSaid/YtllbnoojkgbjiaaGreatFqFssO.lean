import Derived.Test.YtllbnoojkgbjiaaGreatFqFssN
/-
  wainscotlaw22.FastSteps: a round of its loop. No condition.
-/
namespace Go.Proofs.YtllbnoojkgbjiaaGreat.Fss
open Go Ex Mem See
open Go.RowKit
open Step (headR hideR showG keyG)
open chartPlaces (Ok I64)
namespace Nx
section
variable {x : Nx} {s : St} {ro : Nat → Option (Option Addr × Nat × Nat)} {σ0 : Nat → Int}
/-! lists -/
theorem ls_set {σ : Nat → Int} {L e y : SE} {g : List Nat} {z : Nat} (h : LsIs σ L (natsI g)) (hy : y.ev σ = (z : Int)) : LsIs σ (.lset L e 0 y) (natsI (g.set (e.ev σ).toNat z)) := by
  refine ⟨by simp only [SE.evN, h.len, natsI_len, List.length_set], fun i a ha => ?_⟩
  have hm : natsI (g.set (e.ev σ).toNat z) = (natsI g).set (e.ev σ).toNat (z : Int) := by unfold natsI; rw [List.map_set]
  rw [hm, List.getElem?_set] at ha
  simp only [SE.evA, hy]
  by_cases hi : i = (e.ev σ).toNat
  · subst hi
    rw [if_pos rfl] at ha
    rw [if_pos (by simp)]
    split at ha
    · simpa using ha
    · cases ha
  · rw [if_neg (fun hh => hi hh.symm)] at ha
    rw [if_neg (fun hh => hi hh.1)]
    exact h.at_ i a ha
theorem set_rec {σ : Nat → Int} {L e y : SE} {g : List Nat} {i z : Nat} (h : LsRec σ L (one (natsI g))) (he : e.ev σ = (i : Int)) (hy : y.ev σ = (z : Int)) (hi : i < g.length) : LsRec σ (.lset L e 0 y) (one (natsI (g.set i z))) := by
  have := h.set he hy (by rw [natsI_len]; exact hi)
  have hm : natsI (g.set i z) = (natsI g).set i (z : Int) := by unfold natsI; rw [List.map_set]
  rw [hm]
  exact this
theorem r1 : LsRec (x.σ s) (.lvar 1) (one (natsI s.g)) := LsRec.var' (by omega) rfl
def turnN (s : St) : Nat := (IntKind.u64.wrap (s.t 8 + 1)).toNat
theorem turnN_lt : turnN s < 18446744073709551616 := by
  unfold turnN
  rw [IntKind.wrap_u64]
  omega
theorem turn_ev : (SE.ubin .add (v 8) (l 1)).ev (x.σ s) = (turnN s : Nat) := by
  show IntKind.u64.wrap (x.σ s 8 + 1) = _
  rw [e_t (by omega)]
  unfold turnN
  rw [Int.toNat_of_nonneg]
  rw [IntKind.wrap_u64]
  omega
theorem headR_lt (a b : Int) : (headR a b).2 < 18446744073709551616 := by
  unfold headR
  by_cases h : headOk a b
  · rw [if_pos h]
    unfold headOk at h
    show headW a b < _
    unfold headW
    omega
  · rw [if_neg h]
    split
    · show 0 < _; omega
    · show 0 < _; omega
theorem hideR_lt (a : Int) (k : Nat) (b : Int) : (hideR a k b).2 < 18446744073709551616 := by
  unfold hideR
  split
  · rename_i h
    exact hide_lt (by omega)
  · show 0 < _
    omega
def newN (x : Nx) (s : St) (o : Nat) : Nat := (x.σ s o).toNat
theorem new68 : (v 68).ev (x.σ s) = ((headR (s.t 5) (s.t 12)).2 : Nat) := ev (q := 68) (by omega)
theorem new78 : (v 78).ev (x.σ s) = ((headR (s.t 5) (s.t 6)).2 : Nat) := ev (q := 78) (by omega)
theorem new70 : (v 70).ev (x.σ s) = ((hideR (s.t 12) (x.keyN s) (s.t 6)).2 : Nat) := ev (q := 70) (by omega)
/-- an expression says so many words -/
def LsG (x : Nx) (s : St) (L : SE) : Prop := ∃ g : List Nat, LsIs (x.σ s) L (natsI g) ∧ g.length = x.n
theorem lsG (h : x.Inv s) : ∀ L ∈ lists, LsG x s L := by
  have h1 : LsIs (x.σ s) (.lvar 1) (natsI s.g) := r1.is
  intro L hL
  simp only [lists, List.mem_cons, List.not_mem_nil, or_false] at hL
  rcases hL with rfl | rfl | rfl | rfl
  · exact ⟨_, h1, h.len⟩
  · exact ⟨_, ls_set (ls_set h1 new68) turn_ev, by rw [List.length_set, List.length_set]; exact h.len⟩
  · exact ⟨_, ls_set (ls_set h1 new78) turn_ev, by rw [List.length_set, List.length_set]; exact h.len⟩
  · exact ⟨_, ls_set h1 new70, by rw [List.length_set]; exact h.len⟩
theorem c1_ev (hx : x.Ok0) (h : x.Inv s) : c1.ev (x.σ s) = ((s.cnt + 1 : Nat) : Int) := by
  have h1 := hx.c0
  have h2 := h.cnt
  have h3 := h.i
  show IntKind.i64.wrap (x.σ s 42 + 1) = _
  rw [e42, i64_small (by omega) (by omega)]
  omega
theorem kcs_S (hx : x.Ok0) (h1 : I64 x.C) (h2 : I64 x.S) (h3 : I64 x.O) (h : x.Inv s) : KcAll [] rk40 ro Tryz.prog (x.σ s) Ωn kcsS := by
  have hn0 := hx.n0
  have hn1 := hx.n1
  have e30' : (v 30).ev (x.σ s) = (x.n : Int) := e30
  have cl : ∀ L ∈ lists, ∀ fs (ok : ∀ q ∈ fs, q.1.ev (x.σ s) = q.2), @KcOk (nums [] rk40 ro (x.σ s) Ωn fs ok) Tryz.prog (kcClone L) := fun L hL fs ok => by
    letI N : Nums := nums [] rk40 ro (x.σ s) Ωn fs ok
    obtain ⟨g, hg, hl⟩ := lsG h L hL
    exact kc_cloneE hg (by rw [hl]; exact e30') (by omega) (by omega)
  have rw_ : ∀ L ∈ lists, ∀ (c : SE) (cn : Nat), c.ev (x.σ s) = (cn : Int) → ∀ fs (ok : ∀ q ∈ fs, q.1.ev (x.σ s) = q.2), @KcOk (nums [] rk40 ro (x.σ s) Ωn fs ok) Tryz.prog (kcRW c L) := fun L hL c cn hc fs ok => by
    letI N : Nums := nums [] rk40 ro (x.σ s) Ωn fs ok
    obtain ⟨g, hg, hl⟩ := lsG h L hL
    exact kc_rw hc hg (by rw [hl]; exact e30') (by omega) (by omega)
  have e42' : (v 42).ev (x.σ s) = (s.cnt : Int) := e42
  have hc1 := c1_ev hx h
  refine kcAll_more (kcAll_app (kcs_pure h1 h2 h3 h.w64) ?_) ?_
  · exact kcAll_cons (cl _ (by simp [lists])) (kcAll_cons (cl _ (by simp [lists])) (kcAll_cons (cl _ (by simp [lists])) (kcAll_cons (cl _ (by simp [lists])) (kcAll_cons (rw_ _ (by simp [lists]) _ _ e42') (kcAll_cons (rw_ _ (by simp [lists]) _ _ hc1) (kcAll_cons (rw_ _ (by simp [lists]) _ _ hc1) (kcAll_cons (rw_ _ (by simp [lists]) _ _ hc1) (kcAll_cons (rw_ _ (by simp [lists]) _ _ hc1) kcAll_nil))))))))
  · intro fs ok args k hk
    unfold kgEq at hk
    split at hk
    · split at hk
      · rename_i a _ _ b _ _ hab
        simp only [Bool.and_eq_true] at hab
        obtain ⟨L, hL, rfl⟩ := List.mem_map.1 hk
        obtain ⟨g, hg, hl⟩ := lsG h L hL
        letI N : Nums := nums [] rk40 ro (x.σ s) Ωn fs ok
        exact kc_eqW (by unfold rel; simpa using hab.1) (by unfold rel; simpa using hab.2.1) hg (by rw [hl]; exact e30') (by omega)
      · cases hk
    · cases hk
/-! what a round comes to -/
def K (x : Nx) (ro : Nat → Option (Option Addr × Nat × Nat)) (σ0 : Nat → Int) (s : St) : LO → Prop := fun o => match o with
  | .cont θ => ∃ s', x.Inv s' ∧ 12 - s'.i < 12 - s.i ∧ AgreeD θ T0.b ro (x.σ s) Ωn (x.σ s') Ωn
  | .out θ => AgreeD θ TX.b ro (x.σ s) Ωn σ0 Ωn
theorem lookS_app {q : Nat} (hq : 17 ≤ q) {r : List (Nat × SE)} : ∀ {u : List (Nat × SE)}, (∀ p ∈ u, p.1 < 17) → lookS q (u ++ r) = lookS q r
  | [], _ => rfl
  | (j, e) :: u, hu => by
    have := hu (j, e) List.mem_cons_self
    rw [List.cons_append, lookS_ne (by dsimp only at this; omega)]
    exact lookS_app hq fun p hp => hu p (List.mem_cons_of_mem _ hp)
theorem next_ok (hx : x.Ok0) (h : x.Inv s) (hlt : s.i < 12) (hro : ∀ i p, ro i = some p → i = 40) {u : List (Nat × SE)} (hu : ∀ p ∈ u, p.1 < 17) {c L : SE} {cn : Nat} (hc : c.ev (x.σ s) = (cn : Int)) (hcn : cn ≤ s.cnt + 1) {g' : List Nat} (hL : LsRec (x.σ s) L (one (natsI g'))) (hg : g'.length = x.n) (hw : W64 g') :
    RunL (x.σ s) (x.K ro σ0 s) (next u c L) := by
  have h1 := h.cnt
  show ∃ s', _
  refine ⟨⟨fun q => (Sub.vAt { v := u ++ [(41, add (v 41) (l 1)), (42, c)], l := [(1, L)] } q).ev (x.σ s), g', cn, s.i + 1⟩, ⟨hg, hw, show s.i + 1 ≤ 12 by omega, show cn ≤ x.c0 + (s.i + 1) by omega⟩, show 12 - (s.i + 1) < 12 - s.i by omega, ?_⟩
  show AgreeD _ ⟨50, 2, 0, 6⟩ _ _ _ _ _
  refine agree_sgR (fun j p hp => by obtain rfl := hro j p hp; exact ⟨by omega, LsRec.var' (by omega) rfl⟩) (by decide) (by decide) rfl (fun q hq => ?_) fun q hq => ?_
  · have hq : q < 50 := hq
    by_cases q17 : q < 17
    · unfold vS
      rw [if_pos q17]
    · have hlk : Sub.vAt { v := u ++ [(41, add (v 41) (l 1)), (42, c)], l := [(1, L)] } q = Sub.vAt { v := [(41, add (v 41) (l 1)), (42, c)], l := [(1, L)] } q := by
        unfold Sub.vAt
        rw [lookS_app (by omega) hu]
      rw [hlk]
      by_cases q41 : q = 41
      · subst q41
        show ((s.i + 1 : Nat) : Int) = IntKind.i64.wrap (x.σ s 41 + 1)
        rw [e41, i64_small (by omega) (by omega)]
        omega
      · by_cases q42 : q = 42
        · subst q42
          show (cn : Int) = c.ev (x.σ s)
          rw [hc]
        · rw [vAt_ne (j := 41) rfl (fun hh => q41 hh.symm), vAt_ne (j := 42) rfl (fun hh => q42 hh.symm), vAt_nil rfl]
          show _ = x.σ s q
          rw [ev (by omega)]
          unfold vS
          rw [if_neg q17, if_neg q17, if_neg q41, if_neg q41, if_neg q42, if_neg q42, if_pos hq, if_pos hq]
  · have hq : q < 2 := hq
    match q, hq with
    | 0, _ => exact LsRec.var' (q := 0) (by omega) rfl
    | 1, _ => exact hL
    | q + 2, hq => exact absurd hq (by omega)
theorem none_ok (hro : ∀ i p, ro i = some p → i = 40) {s0 : St} : RunL (x.σ s) (x.K ro (x.σ s0) s) none_ := by
  show AgreeD _ ⟨0, 0, 0, 6⟩ _ _ _ _ _
  exact agree_sgR (fun j p hp => by obtain rfl := hro j p hp; exact ⟨by omega, LsRec.var' (by omega) rfl⟩) (by decide) (by decide) rfl (fun q hq => absurd hq (Nat.not_lt_zero q)) fun q hq => absurd hq (Nat.not_lt_zero q)
end
end Nx
end Go.Proofs.YtllbnoojkgbjiaaGreat.Fss
