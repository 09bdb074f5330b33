import Derived.Test.YtcbljokbechppaaGreatDoorBkFaO
/-
  wainscotlaw24.FillAlone: what its steps read. No condition.
-/
namespace Go.Proofs.YtcbljokbechppaaGreatDoor.Fa
open Go Ex Mem See
open Go.RowKit
theorem fn_showA : FnOk Tryz.prog 102 := ⟨Tryz.f102, _, Tryz.func102, by kernel_rfl, rfl⟩
theorem fn_headA : FnOk Tryz.prog 89 := ⟨Tryz.f89, _, Tryz.func89, by kernel_rfl, rfl⟩
theorem kc_showA [Nums] {x e y : SE} {key g n : Nat} {s : Int} (hx : x.ev Nums.σ = (g : Int)) (hg : g < 18446744073709551616) (he : e.ev Nums.σ = (key : Int)) (hk : key < 18446744073709551616) (hn : y.ev Nums.σ = (n : Int)) (hn2 : n < 16) (hs : showOf g key n = some s) (hr : Nums.σ 52 = s) : KcOk Tryz.prog (kcShow x e y) := by
  refine kc_pure rfl rfl rfl rfl rfl fn_showA fun _ W w m hO => ?_
  rw [show (valsOf Nums.σ (kcShow x e y).args).toArray = #[.int .u64 (g : Int), .int .u64 (key : Int), .int .i64 (n : Int)] from by simp only [kcShow, valsOf, Ex.valOf, hx, he, hn]]
  refine (show_ok g key n hg hk hn2 w).mono ?_
  rintro e w' ⟨rfl, rfl⟩
  refine ⟨?_, hO⟩
  unfold showV
  rw [hs]
  simp only [kcShow, v, Ex.valOf, valsOf, SE.ev, hr]
theorem kc_headA [Nums] {s : AV} {a b : Int} (ha : Ex.valOf Nums.σ s = .int .i64 a) (hsh : s.shut = true) (hb : Nums.σ 52 = b) (hok : headOk a b) (hr : Nums.σ 53 = (headW a b : Nat)) : KcOk Tryz.prog (kcHead s) := by
  refine kc_pure (by simp [kcHead, AV.shuts, AV.shut, hsh]) rfl rfl rfl rfl fn_headA fun _ W w m hO => ?_
  rw [show (valsOf Nums.σ (kcHead s).args).toArray = #[.int .i64 a, .int .i64 b] from by simp only [kcHead, v, valsOf, Ex.valOf, SE.ev, ha, hb]]
  refine (head_ok a b hok w).mono ?_
  rintro e w' ⟨rfl, rfl⟩
  refine ⟨?_, hO⟩
  simp only [kcHead, v, Ex.valOf, valsOf, SE.ev, hr]
theorem kc_part68 [Nums] : KcOk Tryz.prog (kcPartOf (l 68) 3 1) := by
  refine kc_pure rfl rfl rfl rfl rfl fn_partOf fun _ W w m hO => ?_
  rw [show (valsOf Nums.σ (kcPartOf (l 68) 3 1).args).toArray = #[.int .u64 ((68 : Nat) : Int)] from rfl]
  refine (partOf_spec 68 (by omega) w).mono ?_
  rintro e w' ⟨rfl, rfl⟩
  exact ⟨by rfl, hO⟩
namespace Na
section
variable {x : Na} (h : x.Ok)
/-- the words that the steps begin with -/
def wB (x : Na) : Wd := if x.kept then x.wl 0 3 true else if x.m = 0 then x.wd 0 else x.wl 1 0 false
def nB (x : Na) : Nat → Nat := if x.kept then putN (x.nl 0) 3 (x.ow 3) else x.nl 0
theorem lA_base (hm : x.m ≤ 3) : x.lA (baseQ x.m x.kept) = one (natsI (gC x.k x.key x.ow ⟨x.wB.lo, x.nB⟩)) := by
  unfold baseQ wB nB
  cases hk : x.kept with
  | true => exact lA_13 hk
  | false =>
    simp only [Bool.false_eq_true, if_false]
    by_cases h0 : x.m = 0
    · rw [if_pos h0, if_pos h0]
      have := lA_0 (x := x)
      rw [h0] at this
      exact this
    · rw [if_neg h0, if_neg h0]
      have := lA_s (x := x) (s := 0) (by omega) hm
      unfold cL at this
      rw [nl_step (by omega)] at this
      exact this
theorem base_lt : baseQ x.m x.kept < 64 := by unfold baseQ; split; omega; split <;> omega
theorem wB_low (hm : x.m ≤ 3) : x.wB.H = 0 ∧ x.wB.T = 0 ∧ x.wB.P = 0 ∧ x.wB.PT = 0 ∧ x.wB.LK = 0 ∧ x.wB.nx 3 = 0 := by
  have hn : ∀ t, (x.wd t).nx 3 = 0 := fun t => by
    show (if t ≤ 3 ∧ 3 < x.m then _ else 0) = 0
    rw [if_neg (by omega)]
  unfold wB
  split
  · exact ⟨rfl, rfl, rfl, rfl, rfl, hn 0⟩
  · split
    · exact ⟨rfl, rfl, rfl, rfl, rfl, hn 0⟩
    · exact ⟨rfl, rfl, rfl, rfl, rfl, hn 1⟩
theorem sl_lt : x.sl < 4 := by unfold sl; split <;> omega
theorem T_cases (hT : x.T = true) : x.kept = true ∨ (x.kept = false ∧ x.m ≠ 0) := by
  unfold T at hT
  cases hk : x.kept with
  | true => exact .inl rfl
  | false =>
    rw [hk] at hT
    exact .inr ⟨rfl, by simpa using hT⟩
theorem wl_fi {t s : Nat} {fz : Bool} : (x.wl t s fz).fi s = 1 := (put_at : putN (x.wd t).fi s 1 s = 1)
theorem wl_co {t s : Nat} {fz : Bool} : (x.wl t s fz).co s = x.pk s fz := (put_at : putN (x.wd t).co s (x.pk s fz) s = _)
theorem wB_sl (hT : x.T = true) : x.wB.fi x.sl = 1 ∧ x.wB.co x.sl = x.pk x.sl x.kept ∧ x.nB x.sl = x.ow x.sl := by
  unfold wB sl nB
  rcases T_cases hT with hk | ⟨hk, h0⟩
  · rw [hk]
    simp only [if_true]
    exact ⟨wl_fi, wl_co, put_at⟩
  · rw [hk]
    simp only [Bool.false_eq_true, if_false]
    rw [if_neg h0]
    refine ⟨wl_fi, wl_co, ?_⟩
    unfold nl
    rw [if_pos (by omega)]
theorem n50 (hm : x.m ≤ 3) : x.σA 50 = ((x.k - x.ow x.sl : Nat) : Int) := by
  refine (ev (x := x) (i := 50) (by omega)).trans ?_
  unfold vA
  rw [if_neg (by omega), if_neg (by omega), if_neg (by omega), if_neg (by omega), if_neg (by omega), if_neg (by omega), if_neg (by omega), if_neg (by omega), if_pos rfl]
theorem n51 (hm : x.m ≤ 3) : x.σA 51 = (packN x.k x.k true true : Nat) := by
  refine (ev (x := x) (i := 51) (by omega)).trans ?_
  unfold vA
  rw [if_neg (by omega), if_neg (by omega), if_neg (by omega), if_neg (by omega), if_neg (by omega), if_neg (by omega), if_neg (by omega), if_neg (by omega), if_neg (by omega), if_pos rfl]
theorem n52 (hm : x.m ≤ 3) : x.σA 52 = lst (x.ow x.sl) := by
  refine (ev (x := x) (i := 52) (by omega)).trans ?_
  unfold vA
  rw [if_neg (by omega), if_neg (by omega), if_neg (by omega), if_neg (by omega), if_neg (by omega), if_neg (by omega), if_neg (by omega), if_neg (by omega), if_neg (by omega), if_neg (by omega), if_pos rfl]
theorem n53 (hm : x.m ≤ 3) : x.σA 53 = (headW x.sl (lst (x.ow x.sl)) : Nat) := by
  refine (ev (x := x) (i := 53) (by omega)).trans ?_
  unfold vA
  rw [if_neg (by omega), if_neg (by omega), if_neg (by omega), if_neg (by omega), if_neg (by omega), if_neg (by omega), if_neg (by omega), if_neg (by omega), if_neg (by omega), if_neg (by omega), if_neg (by omega), if_pos rfl]
include h
theorem wX_lo {e : SE} {i : Nat} (he : e.ev x.σA = (i : Int)) (hi : i < 24) : (wX x.m x.kept e).ev x.σA = (x.wB.lo i : Int) := rd_lo base_lt (lA_base h.m) he hi
omit h in
theorem sE_ev : sE.ev x.σA = 0 := rfl
omit h in
theorem firstA_ev : (firstA x.kept).ev x.σA = ((8 + 4 * x.sl : Nat) : Int) := by
  unfold firstA sl
  cases x.kept <;> rfl
omit h in
theorem first1_ev : (first1 x.kept).ev x.σA = ((9 + 4 * x.sl : Nat) : Int) := by
  unfold first1 sl
  cases x.kept <;> rfl
omit h in
theorem nextA_ev : (nextA x.kept).ev x.σA = ((10 + 4 * x.sl : Nat) : Int) := by
  unfold nextA sl
  cases x.kept <;> rfl
theorem first_one (hT : x.T = true) : (wX x.m x.kept (firstA x.kept)).ev x.σA = 1 := by
  have := sl_lt (x := x)
  rw [wX_lo h firstA_ev (by omega), Wd.lo_fi, (wB_sl hT).1]
  rfl
theorem obj_ev (hT : x.T = true) : (objE x.m x.kept).ev x.σA = 0 := by
  show IntKind.i64.wrap (IntKind.i64.wrap ((wX x.m x.kept (firstA x.kept)).ev x.σA) - 1) = 0
  rw [first_one h hT]
  rfl
theorem counts_ev (hT : x.T = true) : (wX x.m x.kept (first1 x.kept)).ev x.σA = (packN (x.k - x.ow x.sl) x.k x.kept true : Nat) := by
  have := sl_lt (x := x)
  rw [wX_lo h first1_ev (by omega), Wd.lo_co, (wB_sl hT).2.1]
  rfl
theorem yN : wordsE.ev x.σA = ((24 + 4 * x.k : Nat) : Int) := by
  have := k16 h
  show IntKind.i64.wrap (24 + IntKind.i64.wrap (4 * kE.ev x.σA)) = _
  rw [yk h, i64_small (x := 4 * _) (by omega) (by omega), i64_small (by omega) (by omega)]
  omega
theorem link_ev (hT : x.T = true) : (linkA x.m x.kept).ev x.σA = ((24 + x.sl * x.k : Nat) : Int) := by
  have hk := k16 h
  show IntKind.i64.wrap (IntKind.i64.wrap (24 + IntKind.i64.wrap ((if x.kept then l 3 else sE).ev x.σA * kE.ev x.σA)) + (objE x.m x.kept).ev x.σA) = _
  rw [obj_ev h hT, yk h]
  unfold sl
  cases x.kept
  · show IntKind.i64.wrap (IntKind.i64.wrap (24 + IntKind.i64.wrap (0 * (x.k : Int))) + 0) = _
    rw [i64_small (x := 0 * _) (by omega) (by omega), i64_small (x := 24 + _) (by omega) (by omega), i64_small (by omega) (by omega)]
    simp
  · show IntKind.i64.wrap (IntKind.i64.wrap (24 + IntKind.i64.wrap (3 * (x.k : Int))) + 0) = _
    rw [i64_small (x := 3 * _) (by omega) (by omega), i64_small (x := 24 + _) (by omega) (by omega), i64_small (by omega) (by omega)]
    simp
theorem keyT_ev : (keyT x.kept).ev x.σA = (See.keyOf x.key x.sl : Int) := by
  have hk := k16 h
  have e : x.key = x.k * 5 := rfl
  unfold keyT sl
  cases x.kept
  · show IntKind.u64.wrap (keyC.ev x.σA + IntKind.u64.wrap (IntKind.u64.wrap 0 * 11400714819323198485)) = _
    rw [ykey h, IntKind.wrap_u64, IntKind.wrap_u64, IntKind.wrap_u64]
    unfold See.keyOf
    simp
    first | done | omega
  · show IntKind.u64.wrap (keyC.ev x.σA + (3 : Int) * 11400714819323198485 % 18446744073709551616) = _
    rw [ykey h, IntKind.wrap_u64]
    unfold See.keyOf
    simp
    first | done | omega
theorem linkW_ev (hT : x.T = true) : (wX x.m x.kept (linkA x.m x.kept)).ev x.σA = (freshW x.key x.ow x.sl 0 : Int) := by
  have hk := k16 h
  have ho := (h.ow x.sl).1
  have hb := link_idx (k := x.k) (s := x.sl) (o := 0) sl_lt (by omega)
  rw [Nat.add_zero] at hb
  show (SE.at (.lvar (baseQ x.m x.kept)) (linkA x.m x.kept) 0).ev x.σA = _
  rw [show x.σA = sg x.vA x.lA from rfl, rd_w base_lt (lA_base h.m) (link_ev h hT) hb]
  have hd := link_div (k := x.k) (s := x.sl) (o := 0) (by omega)
  rw [Nat.add_zero] at hd
  unfold wordC
  rw [if_neg (by omega), hd.1, hd.2, if_pos]
  show 0 < x.nB x.sl
  rw [(wB_sl hT).2.2]
  omega
theorem kcs_T {ro : Nat → Option (Option Addr × Nat × Nat)} : KcAll FillTab.gs rk40 ro Tryz.prog x.σA Ωn (kgs (kcsT x.m x.kept)) := by
  have hk := k16 h
  have ho := h.ow x.sl
  have hm := h.m
  have hlow := wB_low (x := x) hm
  have hsl := sl_lt (x := x)
  have tail : KcAll FillTab.gs rk40 ro Tryz.prog x.σA Ωn (kgs (if x.kept || x.m != 0 then [kcCounts (wX x.m x.kept (first1 x.kept)) x.kept, kcShow (wX x.m x.kept (linkA x.m x.kept)) (keyT x.kept) (objE x.m x.kept), kcHead (slabAV x.kept)] else [])) := by
    by_cases hT : x.T = true
    · rw [if_pos (show (x.kept || x.m != 0) = true from hT)]
      refine kcAll_cons (fun fs ok => ?_) (kcAll_cons (fun fs ok => ?_) (kcAll_cons (fun fs ok => ?_) kcAll_nil))
      · letI N : Nums := nums FillTab.gs rk40 ro x.σA Ωn fs ok
        exact kc_counts (A := x.k - x.ow x.sl) (B := x.k) (counts_ev h hT) (n50 hm) (yk h) (by omega) hk.1 hk.2
      · letI N : Nums := nums FillTab.gs rk40 ro x.σA Ωn fs ok
        refine kc_showA (n := 0) (s := lst (x.ow x.sl)) (linkW_ev h hT) ?_ (keyT_ev h) (by unfold See.keyOf; exact Nat.mod_lt _ (by omega)) (obj_ev h hT) (by omega) ?_ (n52 hm)
        · unfold freshW
          exact hide_lt (by split <;> omega)
        · unfold freshW lst
          rw [Nat.zero_add]
          by_cases h1 : 1 < x.ow x.sl
          · rw [if_pos h1, if_pos h1]
            exact show_hide (by omega) (by omega)
          · rw [if_neg h1, if_neg h1]
            exact show_hide (by omega) (by omega)
      · letI N : Nums := nums FillTab.gs rk40 ro x.σA Ωn fs ok
        have hl := lst_in (x.ow x.sl)
        refine kc_headA (a := (x.sl : Int)) (b := lst (x.ow x.sl)) ?_ (by unfold slabAV; cases x.kept <;> rfl) (n52 hm) (by unfold headOk; omega) (n53 hm)
        unfold slabAV sl
        cases x.kept <;> rfl
    · rw [if_neg (show ¬ (x.kept || x.m != 0) = true from hT)]
      exact kcAll_nil
  unfold kcsT
  refine kcAll_cons (fun fs ok => ?_) (kcAll_cons (fun fs ok => ?_) (kcAll_cons (fun fs ok => ?_) (kcAll_cons (fun fs ok => ?_) tail)))
  · letI N : Nums := nums FillTab.gs rk40 ro x.σA Ωn fs ok
    exact kc_part68
  · letI N : Nums := nums FillTab.gs rk40 ro x.σA Ωn fs ok
    refine kc_partOf0 ?_
    rw [show Fa.wB x.m x.kept 2 = wX x.m x.kept (l 2) from rfl]
    refine (wX_lo h (i := 2) rfl (by omega)).trans ?_
    show ((x.wB.P : Nat) : Int) = 0
    rw [hlow.2.2.1]
    rfl
  · letI N : Nums := nums FillTab.gs rk40 ro x.σA Ωn fs ok
    refine kc_partOf0 ?_
    rw [show Fa.wB x.m x.kept 22 = wX x.m x.kept (l 22) from rfl]
    refine (wX_lo h (i := 22) rfl (by omega)).trans ?_
    show ((x.wB.nx 3 : Nat) : Int) = 0
    rw [hlow.2.2.2.2.2]
    rfl
  · letI N : Nums := nums FillTab.gs rk40 ro x.σA Ωn fs ok
    exact kc_pack (A := x.k) (B := x.k) (yk h) (yk h) (by omega) hk.1 hk.2 (n51 hm)
end
end Na
end Go.Proofs.YtcbljokbechppaaGreatDoor.Fa
