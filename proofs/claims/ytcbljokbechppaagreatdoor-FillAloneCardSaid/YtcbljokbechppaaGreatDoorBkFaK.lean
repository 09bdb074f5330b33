import Derived.Test.YtcbljokbechppaaGreatDoorBkFaS
/-
  wainscotlaw24.slabbed, as a known call of FillAlone. No condition.
-/
namespace Go.Proofs.YtcbljokbechppaaGreatDoor.Fa
open Go Ex Mem See
open Go.RowKit
theorem lookS_lits {x : Nat → Int} {r : List (Nat × SE)} {m : Nat} : ∀ {a i : Nat}, lookS i (((List.range' a m).map fun j => (j, SE.lit (x j))) ++ r) = if a ≤ i ∧ i < a + m then some (.lit (x i)) else lookS i r := by
  induction m with
  | zero => intro a i; rw [if_neg (by omega)]; rfl
  | succ m ih =>
    intro a i
    rw [List.range'_succ, List.map_cons, List.cons_append]
    by_cases hai : a = i
    · subst hai
      rw [lookS_eq, if_pos (by omega)]
    · rw [lookS_ne hai, ih]
      by_cases h1 : a ≤ i ∧ i < a + (m + 1)
      · rw [if_pos h1, if_pos (by omega)]
      · rw [if_neg h1, if_neg (by omega)]
theorem lookS_vars {r : List (Nat × SE)} {m : Nat} : ∀ {a i : Nat}, lookS i (((List.range' a m).map fun j => (j, SE.lvar (50 + j))) ++ r) = if a ≤ i ∧ i < a + m then some (.lvar (50 + i)) else lookS i r := by
  induction m with
  | zero => intro a i; rw [if_neg (by omega)]; rfl
  | succ m ih =>
    intro a i
    rw [List.range'_succ, List.map_cons, List.cons_append]
    by_cases hai : a = i
    · subst hai
      rw [lookS_eq, if_pos (by omega)]
    · rw [lookS_ne hai, ih]
      by_cases h1 : a ≤ i ∧ i < a + (m + 1)
      · rw [if_pos h1, if_pos (by omega)]
      · rw [if_neg h1, if_neg (by omega)]
namespace Ss
/-- what slabbed sees, out of its caller's numbers -/
def th0 (own key L cnt : SE) (o c : Int) : Sub := { v := [(1, own), (2, l 0), (3, key), (4, l 0), (5, cnt), (6, l o), (7, l c)], l := [(0, L)] }
/-- what is behind it -/
def thE (s : Int) (r rcnt : Nat) (v2 : Nat → Int) : Sub := { v := (rcnt, .bin .add (.bin .add (v 7) (l 1)) (l 1)) :: (((List.range' 1 43).map fun j => (j, .lit (v2 j))) ++ []), l := (r, endL s) :: (((List.range' 0 14).map fun j => (j, .lvar (50 + j))) ++ []) }
variable {x : Ss} (h : x.Ok) {v2 : Nat → Int} {l2 : Nat → List (List Int)} {ro : Nat → Option (Option Addr × Nat × Nat)} (hro : ∀ i p, ro i = some p → i = 40)
include h hro
theorem kc_slab {M : Nat} (hc1 : runS1 M x.s (contS x.s) (fSc x.s) = true) (ho1 : runS1 M x.s outS fSo = true) (hr1 : runS M x.s x.fz = true) (hM : M < 40) {own key L cnt : SE} {r rcnt : Nat} (hr : r < 14) (hrc : 8 ≤ rcnt ∧ rcnt < 44)
    (hform : kcForm (kcSlab M x.s own key x.fz L cnt r rcnt) (memA M (v 5) (.lvar 0)) ⟨8, 1, 0, 40⟩ (argS M x.s x.fz) = true) (hleaf : leafOk (kcSlab M x.s own key x.fz L cnt r rcnt) (memA M (v 5) (.lvar 0)) 40 (thE x.s r rcnt v2) ⟨44, 14, 0, rel⟩ = true)
    (hpost : leafPost (kcSlab M x.s (v 1) (v 3) x.fz (.lvar 0) (v 5) 20 20) (thS x.s 20 20) = leafPost (kcSlab M x.s own key x.fz L cnt r rcnt) (thE x.s r rcnt v2))
    (e0 : v2 0 = x.K) (eown : own.ev (sg v2 l2) = x.own) (ekey : key.ev (sg v2 l2) = x.key) (ecnt : cnt.ev (sg v2 l2) = x.cnt) (eL : LsRec (sg v2 l2) L (one (natsI (gC x.k x.key x.ow x.c)))) (e40 : l2 40 = one x.ex) (els : x.ls = l2)
    (er : l2 r = one (natsI (gC x.k x.key x.ow x.cE))) (erc : v2 rcnt = ((x.cnt + x.own + 2 : Nat) : Int)) (fs) (ok : ∀ f ∈ fs, f.1.ev (sg v2 l2) = f.2) :
    @KcOk (nums FillTab.gs rk40 ro (sg v2 l2) Ωn fs ok) Tryz.prog (kcSlab M x.s own key x.fz L cnt r rcnt) := by
  have hk := k16 h
  have hs := h.s
  have hcn := h.cnt
  refine kc_tree (σ1 := x.σS x.own) (Ω1 := Ωn) (A := argS M x.s x.fz) (pre := memA M (v 5) (.lvar 0)) (B0 := ⟨8, 1, 0, 40⟩) (θ0 := th0 own key L cnt x.own ((x.cnt + x.own : Nat) : Int)) (kcs := kcsS x.s x.fz) (lns := [LS M x.s]) (n := 30)
    (k := kcSlab M x.s own key x.fz L cnt r rcnt) (d := (kcSlab M x.s (v 1) (v 3) x.fz (.lvar 0) (v 5) 20 20).leaf (thS x.s 20 20)) (fs1 := fS2) mixed fn_slabbed rfl rfl rfl rfl hform (kcs_S h) (lns_S h hro hc1 ho1 hM) (fun q hq => ?_) hr1 ?_ ?_ fs ok
  · simp only [fS2, fS, List.append_assoc, List.cons_append, List.mem_cons, List.mem_append] at hq
    rcases hq with rfl | hq | hq | hq | hq | hq | hq
    · exact lt_f ylen1 y1 (by omega)
    · exact rng_ok y0 (by omega) (by have := h.K; omega) q hq
    · exact rng_ok y1 (by omega) (by omega) q hq
    · exact rng_ok y5 (by omega) (by omega) q hq
    · exact rng_ok ylen0 (by omega) (by omega) q hq
    · exact rng_ok y7 (by omega) (by omega) q hq
    · exact rng_ok ylen2 (by omega) (by omega) q hq
  · refine agree_sgR (fun j p hp => by obtain rfl := hro j p hp; exact ⟨by omega, LsRec.var' (by omega) e40⟩) (by decide) (by decide) rfl (fun i hi => ?_) fun q hq => ?_
    · have hi : i < 8 := hi
      match i, hi with
      | 0, _ =>
        show (x.K : Int) = sg v2 l2 0
        rw [sg_v (by omega), e0]
      | 1, _ => exact eown.symm
      | 2, _ => rfl
      | 3, _ => exact ekey.symm
      | 4, _ => rfl
      | 5, _ => exact ecnt.symm
      | 6, _ => rfl
      | 7, _ =>
        show ((x.cnt : Int) + (x.own : Int)) = ((x.cnt + x.own : Nat) : Int)
        omega
      | i + 8, hi => exact absurd hi (by omega)
    · obtain rfl : q = 0 := by have : q < 1 := hq; omega
      exact eL
  · refine ⟨thE x.s r rcnt v2, ⟨44, 14, 0, rel⟩, rfl, hpost, hleaf, ?_⟩
    refine agree_sgR (fun j p hp => by obtain rfl := hro j p hp; exact ⟨by omega, LsRec.var' (by omega) (by rw [e40]; rfl)⟩) (by decide) (by decide) rfl (fun i hi => ?_) fun q hq => ?_
    · have hi : i < 44 := hi
      unfold thE Sub.vAt
      by_cases hir : i = rcnt
      · rw [hir, lookS_eq]
        show v2 rcnt = IntKind.i64.wrap (IntKind.i64.wrap ((v 7).ev (x.σS x.own) + 1) + 1)
        rw [y7, erc, i64_small (x := ((x.cnt + x.own : Nat) : Int) + 1) (by omega) (by omega), i64_small (by omega) (by omega)]
        omega
      · rw [lookS_ne (fun h => hir h.symm), lookS_lits]
        by_cases h0 : i = 0
        · subst h0
          rw [if_neg (by omega)]
          show v2 0 = (v 0).ev (x.σS x.own)
          rw [y0, e0]
        · rw [if_pos (by omega)]
          rfl
    · have hq : q < 14 := hq
      unfold thE Sub.lAt
      by_cases hqr : q = r
      · rw [hqr, lookS_eq, er]
        show LsRec (x.σS x.own) (endL x.s) _
        have r2 : LsRec (x.σS x.own) (.lvar 2) (one (natsI (gC x.k x.key x.ow (x.cJ x.own)))) := LsRec.var' (by omega) rfl
        have st : ∀ {L e y : SE} {g : List Nat} {i z : Nat}, LsRec (x.σS x.own) L (one (natsI g)) → e.ev (x.σS x.own) = (i : Int) → y.ev (x.σS x.own) = (z : Int) → i < g.length → LsRec (x.σS x.own) (.lset L e 0 y) (one (natsI (g.set i z))) := by
          intro L e y g i z hL he hy hi
          have e : natsI (g.set i z) = (natsI g).set i (z : Int) := by
            unfold natsI
            rw [List.map_set]
          rw [e]
          exact hL.set he hy (by rw [natsI_len]; exact hi)
        have := st (st r2 (e := l (firstE x.s)) (y := l 1) (i := 8 + 4 * x.s) (z := 1) (by show (8 + 4 * (x.s : Int)) = _; omega) rfl (by rw [gC_len]; omega)) (e := l (firstE x.s + 1)) (y := v 30) (i := 9 + 4 * x.s) (z := x.pk) (by show (8 + 4 * (x.s : Int) + 1) = _; omega) y30 (by rw [List.length_set, gC_len]; omega)
        rw [set_lo 1 (by omega), set_lo x.pk (by omega)] at this
        exact this
      · rw [lookS_ne (fun h => hqr h.symm), lookS_vars, if_pos (by omega)]
        refine LsRec.var' (by omega) ?_
        show x.lS x.own (50 + q) = _
        unfold lS
        rw [if_neg (by omega), if_neg (by omega), if_neg (by omega), if_neg (by omega), if_neg (by omega), Nat.add_sub_cancel_left, els]
end Ss
end Go.Proofs.YtcbljokbechppaaGreatDoor.Fa
