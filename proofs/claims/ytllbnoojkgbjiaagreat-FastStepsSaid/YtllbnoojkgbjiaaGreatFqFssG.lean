import Derived.Test.YtllbnoojkgbjiaaGreatFqFssP
import Derived.Test.YtllbnoojkgbjiaaGreatFqFastW
import Derived.Test.YtllbnoojkgbjiaaGreatFq8
/-
  wainscotlaw22.FastSteps: laid as a known call, the loop, the whole. No condition.
-/
namespace Go.Proofs.YtllbnoojkgbjiaaGreat.Fss
open Go Ex Mem See
open Go.RowKit Go.ChangeShapes
open chartPlaces (Ok I64)
theorem fn_laid : FnOk Tryz.prog 4 := ⟨Tryz.f4, _, Tryz.func4, by kernel_rfl, rfl⟩
theorem fn_worksF : FnOk Tryz.prog 11 := ⟨Tryz.f11, _, Tryz.func11, by kernel_rfl, rfl⟩
/-! the runs, joined -/
theorem treeL_q {P : Program} {gs : List (Nat × List Int)} {rks : List (Nat × CK)} {kcs : Kg} {lns : List Ln} {n nt nx : Nat} {c : Code} {t : Tm} {x : AX} {post : Tm} {q : Cnd} {y z : LT} {fs : List (Cnd × Bool)}
    (h1 : treeL P gs rks kcs lns n nt nx c t x post y ((q, true) :: fs) = true) (h2 : treeL P gs rks kcs lns n nt nx c t x post z ((q, false) :: fs) = true) : treeL P gs rks kcs lns n nt nx c t x post (.node q y z) fs = true := by
  unfold treeL
  rw [h1]
  exact h2
theorem runAll : runS 0 dAll fS = true :=
  treeL_q (treeL_q (treeL_q (treeL_q run_0 (treeL_q run_1 (treeL_q run_2 (treeL_q run_3 (treeL_q run_4 (treeL_q run_5 (treeL_q run_6 (treeL_q run_7 run_no)))))))) run_odd4) run_odd3) run_end
namespace Nx
section
variable {x : Nx} {A : Option Addr} {len cap : Nat}
/-! laid -/
/-- the words behind so many stores -/
def gL (x : Nx) : Nat → List Nat
  | 0 => List.replicate x.n 0
  | j + 1 => (gL x j).set j (x.w.getD j 0).toNat
theorem gL_len : ∀ j, (x.gL j).length = x.n
  | 0 => by unfold gL; exact List.length_replicate
  | j + 1 => by unfold gL; rw [List.length_set]; exact gL_len j
theorem gL_w64 (hw : ∀ y ∈ x.w, 0 ≤ y ∧ y < 18446744073709551616) : ∀ j, W64 (x.gL j)
  | 0 => fun y hy => by
    unfold gL at hy
    rw [List.eq_of_mem_replicate hy]
    omega
  | j + 1 => by
    unfold gL
    refine w64_set (gL_w64 hw j) ?_
    rw [List.getD_eq_getElem?_getD]
    cases h : x.w[j]? with
    | none => show (0 : Int).toNat < _; omega
    | some y =>
      have := hw y (List.mem_of_getElem? h)
      show y.toNat < _
      omega
def m (x : Nx) : Nat := min x.n x.w.length
/-- the reading of laid behind so many stores -/
def vL (x : Nx) (t0 : Nat → Int) (j q : Nat) : Int := if q < 17 then t0 q else if q = 41 then j else if q = 42 then j else x.vK q
def lL (x : Nx) (j q : Nat) : List (List Int) := if q = 40 then one x.w else if q = 1 then one (natsI (x.gL j)) else if q = 0 then one (natsI (List.replicate x.n 0)) else []
def σL (x : Nx) (t0 : Nat → Int) (j : Nat) : Nat → Int := sg (x.vL t0 j) (x.lL j)
/-- what is asked of all -/
structure OkW (x : Nx) (b : Bool) : Prop where
  key : x.key < 18446744073709551616
  h1 : I64 x.C
  h2 : I64 x.S
  h3 : I64 x.O
  w : ∀ y ∈ x.w, 0 ≤ y ∧ y < 18446744073709551616
  c0 : x.c0 = x.m
  ok : Ok x.C x.S x.O x.d x.e ↔ b = true
  nn : (x.n : Int) = if b then 4 * x.C + 4 + 4 * x.S + x.S * x.O else 64
variable {b : Bool} (h : x.OkW b) {t0 : Nat → Int} {j : Nat}
include h
theorem n_in : 1 ≤ x.n ∧ x.n ≤ 4096 := by
  have hn := h.nn
  cases b with
  | false =>
    have hn : (x.n : Int) = 64 := hn
    omega
  | true =>
    have hn : (x.n : Int) = 4 * x.C + 4 + 4 * x.S + x.S * x.O := hn
    have hok := h.ok.2 rfl
    obtain ⟨hm0, hm1⟩ := Apart.mul_ok hok
    unfold Ok at hok
    omega
theorem ok0 : x.Ok0 := ⟨h.key, (n_in h).1, (n_in h).2, by rw [h.c0]; have := (n_in h).2; unfold m; omega⟩
omit h in
theorem lv {q : Nat} (hq : q < 2048) : x.σL t0 j q = x.vL t0 j q := by
  show sg (x.vL t0 j) (x.lL j) q = _
  rw [sg_v hq]
omit h in
theorem l41 : x.σL t0 j 41 = (j : Int) := lv (by omega)
omit h in
theorem l42 : x.σL t0 j 42 = (j : Int) := lv (by omega)
omit h in
theorem l30 : x.σL t0 j 30 = (x.n : Int) := lv (by omega)
theorem nE_ev : (nE b).ev (x.σL t0 j) = (x.n : Int) := by
  have hn := h.nn
  cases b with
  | false => exact hn.symm
  | true => exact l30
omit h in
theorem len40 : (SE.len (.lvar 40)).ev (x.σL t0 j) = (x.w.length : Int) := by
  show ((x.σL t0 j (ln 40)).toNat : Int) = _
  unfold σL
  rw [sg_oneN (L := x.w) (by omega) rfl]
  rfl
omit h in
theorem lenL1 : (SE.len (.lvar 1)).ev (x.σL t0 j) = (x.n : Int) := by
  show ((x.σL t0 j (ln 1)).toNat : Int) = _
  unfold σL
  rw [sg_oneN (L := natsI (x.gL j)) (by omega) rfl, natsI_len, gL_len]
  rfl
omit h in
theorem rL1 : LsRec (x.σL t0 j) (.lvar 1) (one (natsI (x.gL j))) := LsRec.var' (by omega) rfl
theorem lns_laid : LnAll [] rk40 (roW A len cap) Tryz.prog 4 (x.σL t0 x.m) Ωn [LLaid 0 b] := by
  have hn := n_in h
  refine lnAll_cons (fun fs ok c hc hck => ?_) lnAll_nil
  have hrun : runLL 0 b = true := by cases b; exact runLLf; exact runLLt
  refine ln_ok [] rk40 (roW A len cap) mixed (f := 4) (l := LLaid 0 b) (h0 := hrun) (by kernel_rfl) (by cases b <;> rfl) rfl (by cases b <;> rfl) (fun j => j ≤ x.m) (fun j => x.m - j) (x.σL t0) (fun _ => Ωn) (fun j hj q hq => ?_)
    (fun _ _ => kcAll_nil) (fun _ _ => lnAll_nil) 0 (Nat.zero_le _) ?_ (fun j hj => ?_) fs ok c hc hck
  · have hm : x.m ≤ x.n := by unfold m; omega
    simp only [fLaid, List.mem_append] at hq
    rcases hq with (hq | hq) | hq
    · simp only [rng, List.mem_cons, List.not_mem_nil, or_false] at hq
      have e : (v 41).ev (x.σL t0 j) = (j : Int) := l41
      rcases hq with rfl | rfl
      · show decide ((v 41).ev (x.σL t0 j) < 0) = false; rw [e]; exact decide_eq_false (by omega)
      · show decide ((v 41).ev (x.σL t0 j) < 5000) = true; rw [e]; exact decide_eq_true (by omega)
    · simp only [rng, List.mem_cons, List.not_mem_nil, or_false] at hq
      have e : (v 42).ev (x.σL t0 j) = (j : Int) := l42
      rcases hq with rfl | rfl
      · show decide ((v 42).ev (x.σL t0 j) < 0) = false; rw [e]; exact decide_eq_false (by omega)
      · show decide ((v 42).ev (x.σL t0 j) < 5000) = true; rw [e]; exact decide_eq_true (by omega)
    · cases b with
      | false => cases hq
      | true =>
        simp only [if_true, rng, List.mem_cons, List.not_mem_nil, or_false] at hq
        have e : (v 30).ev (x.σL t0 j) = (x.n : Int) := l30
        rcases hq with rfl | rfl
        · show decide ((v 30).ev (x.σL t0 j) < 1) = false; rw [e]; exact decide_eq_false (by omega)
        · show decide ((v 30).ev (x.σL t0 j) < 4097) = true; rw [e]; exact decide_eq_true (by omega)
  · have hb : (LLaid 0 b).t.b = ⟨44, 2, 0, 5⟩ := by cases b <;> rfl
    have hth : (LLaid 0 b).th = { v := [(41, l 0), (42, l 0)], l := [(1, .lvar 0)] } := by cases b <;> rfl
    rw [hb, hth]
    refine agree_sgR (fun i p hp => by obtain rfl := roW_40 i p hp; exact ⟨by omega, LsRec.var' (by omega) rfl⟩) (by decide) (by decide) rfl (fun q hq => ?_) fun q hq => ?_
    · have hq : q < 44 := hq
      by_cases q41 : q = 41
      · subst q41; rfl
      · by_cases q42 : q = 42
        · subst q42; rfl
        · rw [vAt_ne (j := 41) rfl (fun hh => q41 hh.symm), vAt_ne (j := 42) rfl (fun hh => q42 hh.symm), vAt_nil rfl]
          show _ = x.σL t0 x.m q
          rw [lv (by omega)]
          unfold vL
          rw [if_neg q41, if_neg q41, if_neg q42, if_neg q42]
    · have hq : q < 2 := hq
      match q, hq with
      | 0, _ => exact LsRec.var' (q := 0) (by omega) rfl
      | 1, _ => exact LsRec.var' (q := 0) (by omega) rfl
      | q + 2, hq => exact absurd hq (by omega)
  · have e41 : (v 41).ev (x.σL t0 j) = (j : Int) := l41
    have en : (nE b).ev (x.σL t0 j) = (x.n : Int) := nE_ev h
    have hb : (LLaid 0 b).t.b = ⟨44, 2, 0, 5⟩ := by cases b <;> rfl
    have hb2 : (LLaid 0 b).post.b = ⟨44, 2, 0, 5⟩ := by cases b <;> rfl
    have out : j = x.m → AgreeD {} (LLaid 0 b).post.b (roW A len cap) (x.σL t0 j) Ωn (x.σL t0 x.m) Ωn := fun hjm => by
      subst hjm
      rw [hb2]
      exact agree_sgR (fun i p hp => by obtain rfl := roW_40 i p hp; exact ⟨by omega, LsRec.var' (by omega) rfl⟩) (by decide) (by decide) rfl (fun q hq => by rw [vAt_nil rfl]; exact (lv (by have : q < 44 := hq; omega)).symm) fun q hq => by rw [lAt_nil rfl]; exact LsRec.var (by have : q < 2 := hq; omega)
    unfold dLaid contLaid
    refine ⟨fun hlt => ⟨fun hl2 => ⟨fun hl3 => ⟨fun hl4 => ?_, fun _ => ?_⟩, fun hl3 => ?_⟩, fun hl2 => ?_⟩, fun hge => ?_⟩
    · have hlt : (v 41).ev (x.σL t0 j) < (nE b).ev (x.σL t0 j) := of_decide_eq_true hlt
      have hl4 : (SE.bin .sub (nE b) (l 1)).ev (x.σL t0 j) < (v 41).ev (x.σL t0 j) := of_decide_eq_true hl4
      have e4 : (SE.bin .sub (nE b) (l 1)).ev (x.σL t0 j) = (x.n : Int) - 1 := by
        show IntKind.i64.wrap ((nE b).ev (x.σL t0 j) - 1) = _
        rw [en, i64_small (by omega) (by omega)]
      rw [e4, e41] at hl4
      rw [e41, en] at hlt
      omega
    · have hlt : (v 41).ev (x.σL t0 j) < (nE b).ev (x.σL t0 j) := of_decide_eq_true hlt
      have hl2 : (v 41).ev (x.σL t0 j) < (SE.len (.lvar 40)).ev (x.σL t0 j) := of_decide_eq_true hl2
      rw [e41, en] at hlt
      rw [e41, len40] at hl2
      have hjm : j < x.m := by unfold m; omega
      refine ⟨j + 1, by omega, by omega, ?_⟩
      rw [hb]
      refine agree_sgR (fun i p hp => by obtain rfl := roW_40 i p hp; exact ⟨by omega, LsRec.var' (by omega) rfl⟩) (by decide) (by decide) rfl (fun q hq => ?_) fun q hq => ?_
      · have hq : q < 44 := hq
        by_cases q41 : q = 41
        · subst q41
          show ((j + 1 : Nat) : Int) = IntKind.i64.wrap (x.σL t0 j 41 + 1)
          rw [l41, i64_small (by omega) (by omega)]
          omega
        · by_cases q42 : q = 42
          · subst q42
            show ((j + 1 : Nat) : Int) = IntKind.i64.wrap (x.σL t0 j 42 + 1)
            rw [l42, i64_small (by omega) (by omega)]
            omega
          · rw [vAt_ne (j := 41) rfl (fun hh => q41 hh.symm), vAt_ne (j := 42) rfl (fun hh => q42 hh.symm), vAt_nil rfl]
            show _ = x.σL t0 j q
            rw [lv (by omega)]
            unfold vL
            rw [if_neg q41, if_neg q41, if_neg q42, if_neg q42]
      · have hq : q < 2 := hq
        match q, hq with
        | 0, _ => exact LsRec.var' (q := 0) (by omega) rfl
        | 1, _ =>
          have e40 : (atW 40 (v 41)).ev (x.σL t0 j) = (((x.w.getD j 0).toNat : Nat) : Int) := by
            show x.σL t0 j (lc 40 ((v 41).ev (x.σL t0 j)).toNat 0) = _
            rw [e41, Int.toNat_natCast]
            unfold σL
            rw [sg_one (L := x.w) (by omega) rfl]
            have hjl : j < x.w.length := by omega
            have := h.w (x.w[j]) (List.getElem_mem hjl)
            rw [List.getD_eq_getElem?_getD, List.getElem?_eq_getElem hjl]
            show x.w[j] = ((x.w[j].toNat : Nat) : Int)
            omega
          exact set_rec rL1 e41 e40 (by rw [gL_len]; omega)
        | q + 2, hq => exact absurd hq (by omega)
    · have hlt : (v 41).ev (x.σL t0 j) < (nE b).ev (x.σL t0 j) := of_decide_eq_true hlt
      have hl3 : ¬ (v 41).ev (x.σL t0 j) < (SE.len (.lvar 1)).ev (x.σL t0 j) := of_decide_eq_false hl3
      rw [e41, en] at hlt
      rw [e41, lenL1] at hl3
      omega
    · have hl2 : ¬ (v 41).ev (x.σL t0 j) < (SE.len (.lvar 40)).ev (x.σL t0 j) := of_decide_eq_false hl2
      rw [e41, len40] at hl2
      exact out (by unfold m at hj ⊢; omega)
    · have hge : ¬ (v 41).ev (x.σL t0 j) < (nE b).ev (x.σL t0 j) := of_decide_eq_false hge
      rw [e41, en] at hge
      exact out (by unfold m at hj ⊢; omega)
end
end Nx
end Go.Proofs.YtllbnoojkgbjiaaGreat.Fss
