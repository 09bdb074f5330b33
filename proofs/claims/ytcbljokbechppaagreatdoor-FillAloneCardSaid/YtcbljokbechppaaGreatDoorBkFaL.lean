import Derived.Test.YtcbljokbechppaaGreatDoorBkFaH
import Derived.Test.YtcbljokbechppaaGreatDoorBkFaRe
import Derived.Test.YtcbljokbechppaaGreatDoorBk8
/-
  wainscotlaw24.FillAlone: its calls. No condition.
-/
namespace Go.Proofs.YtcbljokbechppaaGreatDoor.Fa
open Go Ex Mem See
open Go.RowKit Go.ChangeShapes
theorem runWorks : treeC Tryz.prog FillTab.gs rk40 (kgs []) [] 30 9 [] ⟨[], [], ⟨0, 0, 0, 0⟩⟩ (kcWorks.leaf {}) [] = true := by kernel_rfl
theorem fn_works : FnOk Tryz.prog 9 := ⟨Tryz.f9, _, Tryz.func9, by kernel_rfl, rfl⟩
def roW (A : Option Addr) (len cap : Nat) : Nat → Option (Option Addr × Nat × Nat) := fun i => if i = 40 then some (A, len, cap) else none
theorem roW_40 {A : Option Addr} {len cap : Nat} (i : Nat) (p) (h : roW A len cap i = some p) : i = 40 := by
  unfold roW at h
  by_cases hi : i = 40
  · exact hi
  · rw [if_neg hi] at h
    cases h
theorem lo_lt {w : Wd} {B : Nat} (h0 : 0 < B) (h1 : w.H < B) (h2 : w.T < B) (h3 : w.P < B) (h4 : w.PT < B) (h5 : w.LK < B) (h6 : w.SH < B) (h7 : w.ST < B) (h8 : ∀ s, w.fi s < B) (h9 : ∀ s, w.co s < B) (ha : ∀ s, w.nx s < B) (i : Nat) : w.lo i < B := by
  unfold Wd.lo
  split
  · rename_i h
    match i, h with
    | 0, _ => exact h1
    | 1, _ => exact h2
    | 2, _ => exact h3
    | 3, _ => exact h4
    | 4, _ => exact h5
    | 5, _ => exact h6
    | 6, _ => exact h7
    | 7, _ => exact h0
    | i + 8, h => exact absurd h (by omega)
  · split
    · exact h8 _
    · split
      · exact h9 _
      · split
        · exact ha _
        · exact h0
theorem putN_lt {f : Nat → Nat} {j x B : Nat} (hf : ∀ i, f i < B) (hx : x < B) (i : Nat) : putN f j x i < B := by
  unfold putN
  split
  · exact hx
  · exact hf i
theorem zero_lt : 0 < 18446744073709551616 := by omega
theorem one_lt : 1 < 18446744073709551616 := by omega
theorem wf_i64 {n : Int} (h0 : -9223372036854775808 ≤ n) (h1 : n < 9223372036854775808) : (Lit.int .i64 n).wf = true := by
  have e1 : IntKind.i64.min ≤ n := h0
  have e2 : n ≤ IntKind.i64.max := by show n ≤ 9223372036854775807; omega
  show (decide (IntKind.i64.min ≤ n) && decide (n ≤ IntKind.i64.max)) = true
  rw [decide_eq_true e1, decide_eq_true e2]
  rfl
namespace Na
section
variable {x : Na} (h : x.Ok) {A : Option Addr} {len cap : Nat}
theorem vA_ow : ∀ {m : Nat}, m < 3 → x.vA (21 + m) = (x.ow m : Int) - 1
  | 0, _ => rfl
  | 1, _ => rfl
  | 2, _ => rfl
  | m + 3, hh => absurd hh (by omega)
theorem kc_bringA {a : AV} {n : SE} {r : Nat} {y m : Int} (hsh : a.shut = true) (ha : Ex.valOf x.σA a = .int .i64 y) (hn : n.ev x.σA = m) (hm : 1 ≤ m) (hm2 : m ≤ 100000) (hy : (Lit.int .i64 y).wf = true) (hr : x.σA r = y % m) (fs) (ok : ∀ q ∈ fs, q.1.ev x.σA = q.2) : @KcOk (nums FillTab.gs rk40 (roW A len cap) x.σA Ωn fs ok) Tryz.prog (kcBringS a n r) := by
  letI N : Nums := nums FillTab.gs rk40 (roW A len cap) x.σA Ωn fs ok
  exact kc_bring (b := .sym .i64 n) hsh rfl ha (by show Value.int .i64 (n.ev x.σA) = _; rw [hn]) hm hm2 hy hr
theorem kc_worksA (fs) (ok : ∀ q ∈ fs, q.1.ev x.σA = q.2) : @KcOk (nums FillTab.gs rk40 (roW A len cap) x.σA Ωn fs ok) Tryz.prog kcWorks := by
  refine kc_tree (σ1 := x.σA) (Ω1 := Ωn) (A := []) (pre := []) (B0 := ⟨0, 0, 0, 0⟩) (θ0 := {}) (kcs := kgs []) (lns := []) (n := 30) (k := kcWorks) (d := kcWorks.leaf {}) (fs1 := []) mixed fn_works rfl rfl rfl rfl rfl kcAll_nil lnAll_nil (fun q hq => by cases hq) runWorks ?_ ?_ fs ok
  · exact agree_sgR (fun j p hp => by obtain rfl := roW_40 j p hp; exact ⟨by omega, LsRec.var' (by omega) rfl⟩) (by decide) (by decide) rfl (fun j hj => absurd hj (Nat.not_lt_zero j)) fun j hj => absurd hj (Nat.not_lt_zero j)
  · refine ⟨{}, ⟨0, 0, 0, rel⟩, rfl, rfl, rfl, ?_⟩
    exact agree_sgR (fun j p hp => by obtain rfl := roW_40 j p hp; exact ⟨by omega, LsRec.var' (by omega) rfl⟩) (by decide) (by decide) rfl (fun j hj => absurd hj (Nat.not_lt_zero j)) fun j hj => absurd hj (Nat.not_lt_zero j)
include h
theorem wE_lt (i : Nat) : x.wE.lo i < 18446744073709551616 := by
  have hm := h.m
  have hk := k16 h
  have p0 : ∀ s fz, x.pk s fz < 18446744073709551616 := fun s fz => Back.packN_lt (by omega) hk.2
  have p1 : packN x.k x.k true true < 18446744073709551616 := Back.packN_lt hk.2 hk.2
  have hd : ∀ s : Nat, s < 4 → headW s (lst (x.ow s)) < 18446744073709551616 := fun s hs => by
    have := lst_in (x.ow s)
    unfold headW
    omega
  have f0 : ∀ s, (x.wd 0).fi s < 18446744073709551616 := fun s => by
    show (if 0 ≤ s ∧ s < x.m then 1 else 0) < _
    split <;> omega
  have c0 : ∀ s, (x.wd 0).co s < 18446744073709551616 := fun s => by
    show (if 0 ≤ s ∧ s < x.m then x.pk s false else 0) < _
    split
    · exact p0 _ _
    · omega
  have n0 : ∀ s, (x.wd 0).nx s < 18446744073709551616 := fun s => by
    show (if 0 ≤ s ∧ s < x.m then (if s + 1 < x.m then s + 2 else 0) else 0) < _
    split
    · split <;> omega
    · omega
  have s0 : (x.wd 0).SH < 18446744073709551616 := by
    show (if 0 < x.m then 0 + 1 else 0) < _
    split <;> omega
  have t0 : (x.wd 0).ST < 18446744073709551616 := by
    show x.m - 0 < _
    omega
  cases hkp : x.kept with
  | true =>
    rw [wE_kept hkp]
    refine lo_lt (by omega) ?_ ?_ ?_ ?_ ?_ ?_ ?_ ?_ ?_ ?_ i
    · exact hd 3 (by omega)
    · exact one_lt
    · exact zero_lt
    · exact one_lt
    · exact zero_lt
    · exact s0
    · exact t0
    · exact putN_lt (putN_lt f0 one_lt) zero_lt
    · exact putN_lt (putN_lt c0 (p0 _ _)) p1
    · exact n0
  | false =>
    by_cases h0 : x.m = 0
    · rw [wE_none hkp h0]
      refine lo_lt (by omega) ?_ ?_ ?_ ?_ ?_ ?_ ?_ ?_ ?_ ?_ i
      · exact zero_lt
      · exact zero_lt
      · exact zero_lt
      · exact zero_lt
      · exact zero_lt
      · exact s0
      · exact t0
      · exact f0
      · exact c0
      · exact n0
    · rw [wE_shelf hkp h0]
      refine lo_lt (by omega) ?_ ?_ ?_ ?_ ?_ ?_ ?_ ?_ ?_ ?_ i
      · exact hd 0 (by omega)
      · exact one_lt
      · exact zero_lt
      · exact zero_lt
      · exact zero_lt
      · show (if 1 < x.m then 2 else 0) < 18446744073709551616
        split <;> omega
      · show x.m - 1 < 18446744073709551616
        omega
      · exact putN_lt f0 zero_lt
      · exact putN_lt c0 p1
      · exact n0
theorem kcs_bring : ∀ m, m ≤ x.m → KcAll FillTab.gs rk40 (roW A len cap) Tryz.prog x.σA Ωn (kgs (bringsK m))
  | 0, _ => kcAll_nil
  | m + 1, hm => by
    have hk := k16 h
    have h3 := h.m
    refine kcAll_cons (fun fs ok => ?_) (kcs_bring m (by omega))
    have hl : x.lA 40 = one x.ex := by unfold lA; rw [if_pos rfl]
    have e0 : (SE.at (.lvar 40) (l (m : Int)) 0).ev x.σA = x.ex.getD m 0 := by
      show x.σA (lc 40 ((m : Int)).toNat 0) = _
      unfold σA
      rw [Int.toNat_natCast, sg_one (by omega) hl]
    have ea : Ex.valOf x.σA (.sym .i64 (.at (.lvar 40) (l (m : Int)) 0)) = .int .i64 (x.ex.getD m 0) := by
      show Value.int .i64 ((SE.at (.lvar 40) (l (m : Int)) 0).ev x.σA) = _
      rw [e0]
    have hsh : (AV.sym .i64 (.at (.lvar 40) (l (m : Int)) 0)).shut = true := rfl
    refine kc_bringA (a := .sym .i64 (.at (.lvar 40) (l (m : Int)) 0)) (n := kE) (r := 21 + m) (y := x.ex.getD m 0) (m := (x.k : Int)) hsh ea (yk h) (by omega) (by omega) ?_ ?_ fs ok
    · rw [List.getD_eq_getElem?_getD]
      by_cases hlt : m < x.ex.length
      · rw [List.getElem?_eq_getElem hlt]
        exact h.we _ (List.getElem_mem hlt)
      · rw [List.getElem?_eq_none (by omega)]
        exact wf_i64 (n := 0) (by omega) (by omega)
    · have e := h.eo m (by omega)
      have eA : x.σA (21 + m) = x.vA (21 + m) := ev (x := x) (i := 21 + m) (by omega)
      rw [eA, vA_ow (show m < 3 by omega), e]
      omega
theorem kcs_slabs : ∀ s, s ≤ x.m → KcAll FillTab.gs rk40 (roW A len cap) Tryz.prog x.σA Ωn (kgs (slabsK (memN x.m) x.m s))
  | 0, _ => kcAll_nil
  | s + 1, hs => kcAll_cons (fun fs ok => kc_slabs h (fun i p hp => roW_40 i p hp) (by omega) fs ok) (kcs_slabs s (by omega))
theorem chA_ev : Ex.valOf x.σA (.agg (chA keyC)) = cV (cA x.k x.key) 0 0 := by
  show Value.agg #[.int .i64 1, .int .i64 4, .int .i64 (kE.ev x.σA), .int .i64 0, .int .i64 0, .int .u64 (keyC.ev x.σA)] = _
  rw [yk h, ykey h]
  rfl
theorem cokA : COk (cA x.k x.key) 0 0 := by
  have hk := k16 h
  refine ⟨?_, show x.k * 5 < _ by omega⟩
  unfold chartPlaces.Ok
  show (1 : Int) ≤ ((1 : Nat) : Int) ∧ _
  simp only
  omega
theorem kcs_A : KcAll FillTab.gs rk40 (roW A len cap) Tryz.prog x.σA Ωn (kcsA x.m x.kept) := by
  have hk := k16 h
  have hm := h.m
  have w9 : LsVal x.σA 9 (natsI (x.g x.cE)) := ls_sg (by omega) (by unfold lA; rw [if_neg (by omega), if_pos rfl])
  have gl : (x.g x.cE).length = 24 + 4 * x.k := gC_len
  refine kcAll_more ?_ (kcAll_sl fun nn hn fs ok => ?_)
  · refine kcAll_more (kcAll_more (kcAll_more (kcAll_more (kcAll_more (kcs_T h) (kcAll_cons (fun fs ok => ?_) kcAll_nil)) (kcAll_cons (fun fs ok => ?_) (kcAll_cons (fun fs ok => ?_) (kcAll_cons (fun fs ok => ?_) (kcAll_cons (fun fs ok => kc_worksA fs ok) kcAll_nil))))) (kcs_bring h x.m (Nat.le_refl _))) (kcs_slabs h x.m (Nat.le_refl _))) ?_
    · letI N : Nums := nums FillTab.gs rk40 (roW A len cap) x.σA Ωn fs ok
      exact kc_clone (g := x.g x.cE) (by unfold memN rel; omega) (ls_end h).is (by rw [gl]; exact yN h) (by rw [gl]; omega) (by rw [gl]; omega) w9
    · exact kc_bringA (y := x.r0) (m := 16) rfl (by show Value.int .i64 ((v 30).ev x.σA) = _; rw [ev (by omega)]; rfl) rfl (by omega) (by omega) h.w0 (by rw [h.e0]; exact z0) fs ok
    · refine kc_bringA (y := (x.ex.length : Int)) (m := (x.k : Int)) rfl (by show Value.int .i64 ((SE.len (.lvar 40)).ev x.σA) = _; rw [len40]) (yk h) (by omega) (by omega) (wf_i64 (by omega) (by have := h.len; omega)) ?_ fs ok
      have e := h.e3
      have eA : x.σA 24 = x.vA 24 := ev (x := x) (i := 24) (by omega)
      have eV : x.vA 24 = (x.ow 3 : Int) - 1 := rfl
      rw [eA, eV, e]
      omega
    · letI N : Nums := nums FillTab.gs rk40 (roW A len cap) x.σA Ωn fs ok
      refine kc_new (q := 0) (N := 24 + 4 * x.k) (yN h) (by omega) (by omega) ?_
      rw [← gC_zero (k := x.k) (key := x.key) (ow := x.ow), ← zero_c]
      exact ls_sg (by omega) lA_0
    · cases hkp : x.kept with
      | true => exact kcAll_cons (fun fs ok => kc_kept h (fun i p hp => roW_40 i p hp) hkp fs ok) kcAll_nil
      | false => exact kcAll_nil
  · letI N : Nums := nums FillTab.gs rk40 (roW A len cap) x.σA Ωn fs ok
    refine kc_seeL (c := cA x.k x.key) (d := 0) (e := 0) (K := x.coreE) (g := x.g x.cE) hn rfl (chA_ev h) (cokA h) (w64_gC (fun i _ => wE_lt h i) fun s => by have := (h.ow s).2; omega) ?_ w9 (see_end h) (see_val hm)
    rw [gl]
    unfold Ch.words
    show 24 + 4 * x.k = 4 * 1 + 4 + 4 * 4 + 4 * x.k
    omega
end
end Na
end Go.Proofs.YtcbljokbechppaaGreatDoor.Fa
