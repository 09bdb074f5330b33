import Derived.Test.YtcbljokbechppaaGreatDoorBkFaM
/-
  wainscotlaw24.FillAlone: its slabs, as they are laid. No condition.
-/
namespace Go.Proofs.YtcbljokbechppaaGreatDoor.Fa
open Go Ex Mem See
open Go.RowKit
theorem slab_form : ∀ (m s : Nat), m ≤ 3 → s < m → kcForm (kcSlab (memN m) s (ownE s) keyC false (before m s) (cntB m s) (10 + s) (40 + s)) (memA (memN m) (v 5) (.lvar 0)) ⟨8, 1, 0, 40⟩ (argS (memN m) s false) = true
  | 1, 0, _, _ => by kernel_rfl
  | 2, 0, _, _ => by kernel_rfl
  | 2, 1, _, _ => by kernel_rfl
  | 3, 0, _, _ => by kernel_rfl
  | 3, 1, _, _ => by kernel_rfl
  | 3, 2, _, _ => by kernel_rfl
  | 0, _, _, h => absurd h (by omega)
  | 1, s + 1, _, h => absurd h (by omega)
  | 2, s + 2, _, h => absurd h (by omega)
  | 3, s + 3, _, h => absurd h (by omega)
  | m + 4, _, h, _ => absurd h (by omega)
theorem slab_leaf (v2 : Nat → Int) : ∀ (m s : Nat), m ≤ 3 → s < m → leafOk (kcSlab (memN m) s (ownE s) keyC false (before m s) (cntB m s) (10 + s) (40 + s)) (memA (memN m) (v 5) (.lvar 0)) 40 (Ss.thE s (10 + s) (40 + s) v2) ⟨44, 14, 0, rel⟩ = true
  | 1, 0, _, _ => by kernel_rfl
  | 2, 0, _, _ => by kernel_rfl
  | 2, 1, _, _ => by kernel_rfl
  | 3, 0, _, _ => by kernel_rfl
  | 3, 1, _, _ => by kernel_rfl
  | 3, 2, _, _ => by kernel_rfl
  | 0, _, _, h => absurd h (by omega)
  | 1, s + 1, _, h => absurd h (by omega)
  | 2, s + 2, _, h => absurd h (by omega)
  | 3, s + 3, _, h => absurd h (by omega)
  | m + 4, _, h, _ => absurd h (by omega)
theorem slab_post (v2 : Nat → Int) : ∀ (m s : Nat), m ≤ 3 → s < m → leafPost (kcSlab (memN m) s (v 1) (v 3) false (.lvar 0) (v 5) 20 20) (thS s 20 20) = leafPost (kcSlab (memN m) s (ownE s) keyC false (before m s) (cntB m s) (10 + s) (40 + s)) (Ss.thE s (10 + s) (40 + s) v2)
  | 1, 0, _, _ => by kernel_rfl
  | 2, 0, _, _ => by kernel_rfl
  | 2, 1, _, _ => by kernel_rfl
  | 3, 0, _, _ => by kernel_rfl
  | 3, 1, _, _ => by kernel_rfl
  | 3, 2, _, _ => by kernel_rfl
  | 0, _, _, h => absurd h (by omega)
  | 1, s + 1, _, h => absurd h (by omega)
  | 2, s + 2, _, h => absurd h (by omega)
  | 3, s + 3, _, h => absurd h (by omega)
  | m + 4, _, h, _ => absurd h (by omega)
theorem kept_form : ∀ (m : Nat), m ≤ 3 → kcForm (kcSlab (memN m) 3 (ownE 3) keyC true (laid m) (cntL m) 13 43) (memA (memN m) (v 5) (.lvar 0)) ⟨8, 1, 0, 40⟩ (argS (memN m) 3 true) = true
  | 0, _ => by kernel_rfl
  | 1, _ => by kernel_rfl
  | 2, _ => by kernel_rfl
  | 3, _ => by kernel_rfl
  | m + 4, h => absurd h (by omega)
theorem kept_leaf (v2 : Nat → Int) : ∀ (m : Nat), m ≤ 3 → leafOk (kcSlab (memN m) 3 (ownE 3) keyC true (laid m) (cntL m) 13 43) (memA (memN m) (v 5) (.lvar 0)) 40 (Ss.thE 3 13 43 v2) ⟨44, 14, 0, rel⟩ = true
  | 0, _ => by kernel_rfl
  | 1, _ => by kernel_rfl
  | 2, _ => by kernel_rfl
  | 3, _ => by kernel_rfl
  | m + 4, h => absurd h (by omega)
theorem kept_post (v2 : Nat → Int) : ∀ (m : Nat), m ≤ 3 → leafPost (kcSlab (memN m) 3 (v 1) (v 3) true (.lvar 0) (v 5) 20 20) (thS 3 20 20) = leafPost (kcSlab (memN m) 3 (ownE 3) keyC true (laid m) (cntL m) 13 43) (Ss.thE 3 13 43 v2)
  | 0, _ => by kernel_rfl
  | 1, _ => by kernel_rfl
  | 2, _ => by kernel_rfl
  | 3, _ => by kernel_rfl
  | m + 4, h => absurd h (by omega)
namespace Na
section
variable {x : Na} (h : x.Ok)
/-- what slabbed sees -/
def ss (x : Na) (t s : Nat) (fz : Bool) : Ss := ⟨x.K, x.key, x.ow, x.cb t, s, fz, x.cS t, x.ex, x.lA⟩
theorem ss_cE {t s : Nat} {fz : Bool} : (x.ss t s fz).cE = x.cL t s fz := by
  show Cw.mk (putN (putN (x.wd t).lo (8 + 4 * s) 1) (9 + 4 * s) (x.pk s fz)) (putN (x.nl t) s (x.ow s)) = _
  rw [Wd.put_fi, Wd.put_co]
  rfl
theorem plus4 {e : SE} {i : Nat} (he : e.ev x.σA = (i : Int)) (hi : i < 1000) : (plus 4 e).ev x.σA = ((i + 4 : Nat) : Int) := by
  show IntKind.i64.wrap (IntKind.i64.wrap (IntKind.i64.wrap (IntKind.i64.wrap (e.ev x.σA + 1) + 1) + 1) + 1) = _
  rw [he, i64_small (x := (i : Int) + 1) (by omega) (by omega), i64_small (x := (i : Int) + 1 + 1) (by omega) (by omega), i64_small (x := (i : Int) + 1 + 1 + 1) (by omega) (by omega), i64_small (by omega) (by omega)]
  omega
theorem vA_cnt {s : Nat} (hs : s < x.m) (hm : x.m ≤ 3) : x.vA (40 + s) = ((x.cb (s + 1) + x.ow s + 2 : Nat) : Int) := by
  unfold vA
  rw [if_neg (by omega), if_neg (by omega), if_neg (by omega), if_neg (by omega), if_neg (by omega), if_neg (by omega), if_neg (by omega), if_pos (by omega), show 40 + s - 40 = s by omega]
include h
theorem k16 : 1 ≤ x.k ∧ x.k ≤ 16 := by
  have := h.K
  unfold Na.k
  omega
theorem yk : kE.ev x.σA = (x.k : Int) := by
  have := h.K
  show IntKind.i64.wrap (1 + (v 0).ev x.σA) = _
  rw [z0, i64_small (by omega) (by omega)]
  unfold Na.k
  omega
theorem ykey : keyC.ev x.σA = (x.key : Int) := by
  have := k16 h
  show IntKind.u64.wrap (IntKind.u64.wrap (kE.ev x.σA) * 5) = _
  rw [yk h, u64_small (x := (x.k : Int)) (by omega) (by omega), u64_small (by omega) (by omega)]
  unfold key
  omega
theorem own_ev {s : Nat} (hs : s < 4) : (ownE s).ev x.σA = (x.ow s : Int) := by
  have hk := k16 h
  have ho := h.ow s
  have e : (v (21 + s)).ev x.σA = (x.ow s : Int) - 1 := by
    rw [ev (by omega)]
    match s, hs with
    | 0, _ => rfl
    | 1, _ => rfl
    | 2, _ => rfl
    | 3, _ => rfl
    | s + 4, hs => exact absurd hs (by omega)
  show IntKind.i64.wrap (1 + (v (21 + s)).ev x.σA) = _
  rw [e, i64_small (by omega) (by omega)]
  omega
theorem ss_ok {t s : Nat} {fz : Bool} (hs : s < 4) (ht : s < t ∨ x.m ≤ s) : (x.ss t s fz).Ok := by
  have hk := k16 h
  have hc := cnt_le h t
  have hm := h.m
  refine ⟨h.K, ?_, hs, h.ow s, ?_, ?_⟩
  · show x.k * 5 < _
    omega
  · show x.cb t < 250
    omega
  · show x.nl t s = 0
    unfold nl
    rw [if_neg (by omega)]
theorem cnt_ev {t : Nat} (ht : t ≤ x.m) : (if t = x.m then l 0 else plus 4 (v (40 + t))).ev x.σA = (x.cb t : Int) := by
  have hm := h.m
  by_cases h1 : t = x.m
  · rw [if_pos h1, h1, cb_end]
    rfl
  · rw [if_neg h1]
    have hc := cnt_le h (t + 1)
    have ho := (h.ow t).2
    have hk := k16 h
    rw [plus4 (i := x.cb (t + 1) + x.ow t + 2) (by rw [ev (by omega), vA_cnt (by omega) hm]) (by omega), cb_succ (show t < x.m by omega)]
theorem kc_slabs {ro : Nat → Option (Option Addr × Nat × Nat)} (hro : ∀ i p, ro i = some p → i = 40) {s : Nat} (hs : s < x.m) (fs) (ok : ∀ f ∈ fs, f.1.ev x.σA = f.2) :
    @KcOk (nums FillTab.gs rk40 ro x.σA Ωn fs ok) Tryz.prog (kcSlab (memN x.m) s (ownE s) keyC false (before x.m s) (cntB x.m s) (10 + s) (40 + s)) := by
  have hm := h.m
  obtain ⟨r1, r2, r3⟩ := runs_slab x.m s false hm hs
  refine Ss.kc_slab (x := x.ss (s + 1) s false) (ss_ok h (by omega) (by omega)) (v2 := x.vA) (l2 := x.lA) hro r1 r2 r3 (by unfold memN; omega) (by omega) (by omega) (slab_form x.m s hm hs) (slab_leaf x.vA x.m s hm hs) (slab_post x.vA x.m s hm hs) rfl (own_ev h (by omega)) (ykey h) ?_ ?_ ?_ rfl ?_ ?_ fs ok
  · have := cnt_ev h (t := s + 1) (by omega)
    exact this
  · show LsRec x.σA (if s + 1 = x.m then .lvar 0 else shelved (s + 1)) (one (natsI (gC x.k x.key x.ow (x.cS (s + 1)))))
    by_cases h1 : s + 1 = x.m
    · rw [if_pos h1, h1]
      exact LsRec.var' (by omega) lA_0
    · rw [if_neg h1]
      exact ls_shelved (by omega) hm
  · unfold lA
    rw [if_pos rfl]
    rfl
  · rw [ss_cE]
    exact lA_s hs hm
  · exact vA_cnt hs hm
theorem kc_kept {ro : Nat → Option (Option Addr × Nat × Nat)} (hro : ∀ i p, ro i = some p → i = 40) (hk : x.kept = true) (fs) (ok : ∀ f ∈ fs, f.1.ev x.σA = f.2) :
    @KcOk (nums FillTab.gs rk40 ro x.σA Ωn fs ok) Tryz.prog (kcSlab (memN x.m) 3 (ownE 3) keyC true (laid x.m) (cntL x.m) 13 43) := by
  have hm := h.m
  obtain ⟨r1, r2, r3⟩ := runs_slab x.m 3 true hm rfl
  refine Ss.kc_slab (x := x.ss 0 3 true) (ss_ok h (by omega) (by omega)) (v2 := x.vA) (l2 := x.lA) hro r1 r2 r3 (by unfold memN; omega) (by omega) (by omega) (kept_form x.m hm) (kept_leaf x.vA x.m hm) (kept_post x.vA x.m hm) rfl (own_ev h (by omega)) (ykey h) ?_ ?_ ?_ rfl ?_ ?_ fs ok
  · have := cnt_ev h (t := 0) (by omega)
    rw [← show x.cb 0 = (x.ss 0 3 true).cnt from rfl, ← this]
    unfold cntL
    by_cases h1 : x.m = 0
    · rw [if_pos h1, if_pos h1.symm]
      rfl
    · rw [if_neg h1, if_neg (fun h => h1 h.symm)]
      rfl
  · show LsRec x.σA (laid x.m) (one (natsI (gC x.k x.key x.ow (x.cS 0))))
    unfold laid
    by_cases h1 : x.m = 0
    · rw [if_pos h1]
      have := lA_0 (x := x)
      rw [h1] at this
      exact LsRec.var' (by omega) this
    · rw [if_neg h1]
      exact ls_shelved (by omega) hm
  · unfold lA
    rw [if_pos rfl]
    rfl
  · rw [ss_cE]
    exact lA_13 hk
  · show x.vA 43 = _
    unfold vA
    rw [if_neg (by omega), if_neg (by omega), if_neg (by omega), if_neg (by omega), if_neg (by omega), if_neg (by omega), if_pos ⟨rfl, hk⟩]
    rfl
end
end Na
end Go.Proofs.YtcbljokbechppaaGreatDoor.Fa
