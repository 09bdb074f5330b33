import Derived.Test.YtllbnoojkgbjiaaGreatFqFssG
/-
  wainscotlaw22.FastSteps: the whole. No condition.
-/
namespace Go.Proofs.YtllbnoojkgbjiaaGreat.Fss
open Go Ex Mem See
open Go.RowKit Go.ChangeShapes
open chartPlaces (Ok I64)
namespace Nx
section
variable {x : Nx} {A : Option Addr} {len cap : Nat} {b : Bool} (h : x.OkW b) {t0 : Nat → Int}
theorem eq_t {σ : Nat → Int} {a c : SE} {y z : Int} (ha : a.ev σ = y) (hb : c.ev σ = z) (he : y = z) : (Cnd.eq a c, true).1.ev σ = (Cnd.eq a c, true).2 := by
  show (a.ev σ == c.ev σ) = true
  rw [ha, hb, he, beq_self_eq_true]
theorem eq_f {σ : Nat → Int} {a c : SE} {y z : Int} (ha : a.ev σ = y) (hb : c.ev σ = z) (he : y ≠ z) : (Cnd.eq a c, false).1.ev σ = (Cnd.eq a c, false).2 := by
  show (a.ev σ == c.ev σ) = false
  rw [ha, hb, beq_eq_false_iff_ne]
  exact he
theorem lt_f {σ : Nat → Int} {a c : SE} {y z : Int} (ha : a.ev σ = y) (hb : c.ev σ = z) (he : ¬ y < z) : (Cnd.lt a c, false).1.ev σ = (Cnd.lt a c, false).2 := by
  show decide (a.ev σ < c.ev σ) = false
  rw [ha, hb]
  exact decide_eq_false he
theorem lt_t {σ : Nat → Int} {a c : SE} {y z : Int} (ha : a.ev σ = y) (hb : c.ev σ = z) (he : y < z) : (Cnd.lt a c, true).1.ev σ = (Cnd.lt a c, true).2 := by
  show decide (a.ev σ < c.ev σ) = true
  rw [ha, hb]
  exact decide_eq_true he
theorem rng_ok {σ : Nat → Int} {e : SE} {y a c : Int} (he : e.ev σ = y) (h0 : a ≤ y) (h1 : y < c) : ∀ q ∈ rng e a c, q.1.ev σ = q.2 := by
  intro q hq
  simp only [rng, List.mem_cons, List.not_mem_nil, or_false] at hq
  rcases hq with rfl | rfl
  · exact lt_f he (c := l a) (z := a) rfl (by omega)
  · exact lt_t he (c := l c) (z := c) rfl h1
include h
theorem facts_Ld {σ : Nat → Int} (e : σ 30 = (x.n : Int)) : ∀ q ∈ fLd b, q.1.ev σ = q.2 := by
  have hn := n_in h
  have hnn := h.nn
  have e' : (v 30).ev σ = (x.n : Int) := e
  intro q hq
  cases b with
  | true => exact rng_ok e' (by omega) (by omega) q hq
  | false =>
    have hnn : (x.n : Int) = 64 := hnn
    simp only [fLd, List.mem_cons, List.not_mem_nil, or_false] at hq
    rcases hq with rfl | rfl
    · exact eq_t e' (c := l 64) rfl hnn
    · exact eq_t (a := l 64) rfl e' hnn.symm
theorem kcs_laid {j : Nat} : KcAll [] rk40 (roW A len cap) Tryz.prog (x.σL t0 j) Ωn (kcsLaid b) := by
  have hn := n_in h
  have hnn := h.nn
  have chL : (valsOf (x.σL t0 j) [.agg chA]).toArray = #[Apart.chV x.C x.S x.O x.d x.e x.key] := by
    show #[Value.agg #[.int .i64 (x.σL t0 j 20), .int .i64 (x.σL t0 j 21), .int .i64 (x.σL t0 j 22), .int .i64 (x.σL t0 j 23), .int .i64 (x.σL t0 j 24), .int .u64 (x.σL t0 j 25)]] = _
    rw [show x.σL t0 j 20 = x.C from lv (by omega), show x.σL t0 j 21 = x.S from lv (by omega), show x.σL t0 j 22 = x.O from lv (by omega), show x.σL t0 j 23 = x.d from lv (by omega), show x.σL t0 j 24 = x.e from lv (by omega), show x.σL t0 j 25 = x.key from lv (by omega)]
  have hz : LsVal (x.σL t0 j) 0 (natsI (List.replicate x.n 0)) := ls_sg (by omega) rfl
  have ha : Ex.valOf (x.σL t0 j) (nA b) = .int .i64 (x.n : Int) := by
    cases b with
    | true => show Value.int .i64 (x.σL t0 j 30) = _; rw [l30]
    | false =>
      have hnn : (x.n : Int) = 64 := hnn
      show Value.int .i64 64 = _
      rw [hnn]
  have hsh : (nA b).shut = true := by cases b <;> rfl
  refine kcAll_cons (fun fs ok => ?_) (kcAll_cons (fun fs ok => ?_) (kcAll_cons (fun fs ok => ?_) kcAll_nil))
  · letI N : Nums := nums [] rk40 (roW A len cap) (x.σL t0 j) Ωn fs ok
    refine kc_pure rfl (by cases b <;> rfl) rfl rfl rfl fn_rWords fun _ W w m hO => ?_
    rw [show (valsOf Nums.σ (kcRCount (if b = true then sI 30 else nI 0)).args).toArray = _ from chL]
    cases b with
    | true =>
      have hnn : (x.n : Int) = 4 * x.C + 4 + 4 * x.S + x.S * x.O := hnn
      refine (rwordsN_ok h.h1 h.h2 h.h3 (h.ok.2 rfl) hO).mono ?_
      rintro e w' ⟨rfl, h'⟩
      refine ⟨?_, h'⟩
      rw [← hnn]
      exact congrArg (fun z => Ending.returned (Value.int .i64 z)) (l30 (x := x) (t0 := t0) (j := j)).symm
    | false =>
      refine (rwordsN_bad h.h1 h.h2 h.h3 (fun hh => by have := h.ok.1 hh; cases this) hO).mono ?_
      rintro e w' ⟨rfl, h'⟩
      exact ⟨rfl, h'⟩
  · letI N : Nums := nums [] rk40 (roW A len cap) (x.σL t0 j) Ωn fs ok
    exact kc_newG hsh ha (nE_ev h) hn.1 hn.2 hz
  · letI N : Nums := nums [] rk40 (roW A len cap) (x.σL t0 j) Ωn fs ok
    exact kc_rnewG hsh ha (nE_ev h) hn.1 hn.2 hz
omit h in
/-- the state behind laid -/
def s0 (x : Nx) (t0 : Nat → Int) : St := ⟨t0, x.gL x.m, x.m, 0⟩
theorem kc_laidK (fs) (ok : ∀ q ∈ fs, q.1.ev (x.σ (x.s0 t0)) = q.2) : @KcOk (nums [] rk40 (roW A len cap) (x.σ (x.s0 t0)) Ωn fs ok) Tryz.prog (kcLaid b) := by
  have hrun : runLaid 0 b = true := by cases b; exact runLaidf; exact runLaidt
  refine kc_tree (σ1 := x.σL t0 x.m) (Ω1 := Ωn) (A := [.rsl 40, .agg chA]) (pre := []) (B0 := ⟨44, 0, 0, 0⟩) (θ0 := { v := [(41, l (x.m : Int))] }) (kcs := kcsLaid b) (lns := [LLaid 0 b]) (n := 30) (k := kcLaid b) (d := (kcLaid b).leaf thLaid) (fs1 := fLd b)
    mixed fn_laid rfl rfl rfl rfl (by cases b <;> kernel_rfl) (kcs_laid h) (lns_laid h) (facts_Ld h l30) hrun ?_ ?_ fs ok
  · refine agree_sgR (fun i p hp => by obtain rfl := roW_40 i p hp; exact ⟨by omega, LsRec.var' (by omega) rfl⟩) (by decide) (by decide) rfl (fun q hq => ?_) fun q hq => absurd hq (Nat.not_lt_zero q)
    have hq : q < 44 := hq
    by_cases q41 : q = 41
    · subst q41; rfl
    · rw [vAt_ne (j := 41) rfl (fun hh => q41 hh.symm), vAt_nil rfl]
      show _ = x.σ (x.s0 t0) q
      rw [ev (by omega)]
      unfold vL vS
      by_cases q17 : q < 17
      · rw [if_pos q17, if_pos q17]; rfl
      · rw [if_neg q17, if_neg q17, if_neg q41, if_neg q41]
        by_cases q42 : q = 42
        · rw [if_pos q42, if_pos q42]; rfl
        · rw [if_neg q42, if_neg q42, if_pos (by omega)]
  · refine ⟨{ v := [(41, l 0)], l := [(0, .rnil)], n := [(rel, 1), (rel + 1, 2), (rel + 2, 3), (rel + 3, 4)] }, ⟨43, 2, 0, rel + 4⟩, by cases b <;> rfl, by cases b <;> rfl, by cases b <;> kernel_rfl, ?_⟩
    refine agree_sgR (fun i p hp => by obtain rfl := roW_40 i p hp; exact ⟨by omega, LsRec.var' (by omega) rfl⟩) (by decide) (by decide) rfl (fun q hq => ?_) fun q hq => ?_
    · have hq : q < 43 := hq
      by_cases q41 : q = 41
      · subst q41; rfl
      · rw [vAt_ne (j := 41) rfl (fun hh => q41 hh.symm), vAt_nil rfl]
        show _ = x.σL t0 x.m q
        rw [lv (by omega)]
        unfold vL vS
        by_cases q17 : q < 17
        · rw [if_pos q17, if_pos q17]; rfl
        · rw [if_neg q17, if_neg q17, if_neg q41, if_neg q41]
          by_cases q42 : q = 42
          · rw [if_pos q42, if_pos q42]; rfl
          · rw [if_neg q42, if_neg q42, if_pos (by omega)]
    · have hq : q < 2 := hq
      match q, hq with
      | 0, _ => exact LsRec.nil
      | 1, _ => exact LsRec.var' (q := 1) (by omega) rfl
      | q + 2, hq => exact absurd hq (by omega)
theorem kcs_main : KcAll [] rk40 (roW A len cap) Tryz.prog (x.σ (x.s0 t0)) Ωn (kcsA b) := by
  refine kcAll_cons (fun fs ok => kc_laidK h fs ok) (kcAll_cons (fun fs ok => ?_) kcAll_nil)
  letI N : Nums := nums [] rk40 (roW A len cap) (x.σ (x.s0 t0)) Ωn fs ok
  refine kc_pure rfl rfl rfl rfl rfl fn_worksF fun _ W w m hO => ?_
  exact Fast.works_in hO
theorem inv0 : x.Inv (x.s0 t0) := ⟨gL_len _, gL_w64 h.w _, show 0 ≤ 12 by omega, by show x.m ≤ x.c0 + 0; rw [h.c0]; omega⟩
theorem facts_S {s : St} (hI : x.Inv s) : ∀ q ∈ (if b then fS else fSo), q.1.ev (x.σ s) = q.2 := by
  have hn := n_in h
  have h0 := ok0 h
  have hc := hI.cnt
  have hi := hI.i
  have hc0 := h0.c0
  have a41 : (v 41).ev (x.σ s) = (s.i : Int) := e41
  have a42 : (v 42).ev (x.σ s) = (s.cnt : Int) := e42
  have a30 : (v 30).ev (x.σ s) = (x.n : Int) := e30
  have hok := h.ok
  have tail : ∀ q ∈ rng (v 30) 1 4097 ++ rng (v 41) 0 100 ++ rng (v 42) 0 5000 ++ [((Cnd.lt c1 (v 42), false) : Cnd × Bool)], q.1.ev (x.σ s) = q.2 := by
    intro q hq
    simp only [List.mem_append, List.mem_singleton] at hq
    rcases hq with ((hq | hq) | hq) | rfl
    · exact rng_ok a30 (by omega) (by omega) q hq
    · exact rng_ok a41 (by omega) (by omega) q hq
    · exact rng_ok a42 (by omega) (by omega) q hq
    · exact lt_f (c1_ev h0 hI) a42 (by omega)
  have a26 : (v 26).ev (x.σ s) = if Ok x.C x.S x.O x.d x.e then 0 else 2 := ev (by omega)
  intro q hq
  cases b with
  | true =>
    have hok := hok.2 rfl
    rw [if_pos hok] at a26
    unfold Ok at hok
    have a20 : (v 20).ev (x.σ s) = x.C := e20
    have a21 : (v 21).ev (x.σ s) = x.S := e21
    have a22 : (v 22).ev (x.σ s) = x.O := e22
    simp only [if_true, fS, fC, List.append_assoc, List.mem_append, List.mem_singleton] at hq
    rcases hq with rfl | hq | hq | hq | hq
    · exact eq_t a26 (c := l 0) rfl rfl
    · exact rng_ok a20 (by omega) (by omega) q hq
    · exact rng_ok a21 (by omega) (by omega) q hq
    · exact rng_ok a22 (by omega) (by omega) q hq
    · exact tail q (by simp only [List.append_assoc, List.mem_append, List.mem_singleton]; exact hq)
  | false =>
    have hok : ¬ Ok x.C x.S x.O x.d x.e := fun hh => by have := hok.1 hh; cases this
    rw [if_neg hok] at a26
    simp only [Bool.false_eq_true, if_false, fSo, fC, List.append_assoc, List.mem_append, List.mem_singleton] at hq
    rcases hq with rfl | hq
    · exact eq_f a26 (c := l 0) (z := 0) rfl (by decide)
    · exact tail q (by simp only [List.append_assoc, List.mem_append, List.mem_singleton]; exact hq)
theorem lns_main : LnAll [] rk40 (roW A len cap) Tryz.prog 3 (x.σ (x.s0 t0)) Ωn [LS 0] := by
  refine lnAll_cons (fun fs ok c hc hck => ?_) lnAll_nil
  have h0 := ok0 h
  have hrun : runS 0 (if b then dAll else dEnd none_) (if b then fS else fSo) = true := by cases b; exact runSo; exact runAll
  refine ln_ok [] rk40 (roW A len cap) mixed (f := 3) (l := LS 0) (h0 := hrun) (by kernel_rfl) rfl rfl rfl x.Inv (fun s => 12 - s.i) x.σ (fun _ => Ωn) (fun s hI => facts_S h hI)
    (fun s hI => kcs_S h0 h.h1 h.h2 h.h3 hI) (fun _ _ => lnAll_nil) (x.s0 t0) (inv0 h) ?_ (fun s hI => ?_) fs ok c hc hck
  · show AgreeD _ ⟨50, 2, 0, 6⟩ _ _ _ _ _
    refine agree_sgR (fun i p hp => by obtain rfl := roW_40 i p hp; exact ⟨by omega, LsRec.var' (by omega) rfl⟩) (by decide) (by decide) rfl (fun q hq => ?_) fun q hq => ?_
    · have hq : q < 50 := hq
      by_cases q41 : q = 41
      · subst q41; rfl
      · rw [vAt_ne (j := 41) rfl (fun hh => q41 hh.symm), vAt_nil rfl]
        exact (ev (by omega)).symm
    · rw [lAt_nil rfl]
      exact LsRec.var (by have : q < 2 := hq; omega)
  · cases b with
    | true =>
      have hx : x.OkC := ⟨h0, h.ok.2 rfl, h.nn⟩
      exact dAll_ok hx hI (fun i p hp => roW_40 i p hp)
    | false => exact ⟨fun _ => none_ok (fun i p hp => roW_40 i p hp), fun _ => none_ok (fun i p hp => roW_40 i p hp)⟩
/-- .. of all such numbers -/
theorem law_of (w : World) (hlc : len ≤ cap) (hcap : cap ≤ maxLen)
    (hb : x.w.length = len) (hbc : ∀ a, A = some a → 0 < len → a.block < w.heap.size ∧ ∀ e, e < len → w.cell? (a.add e) = some ((ckOf (some .u64)).val (x.w[e]?.getD 0))) (hbn : A = none → len = 0) :
    Calls Tryz.prog 3 #[.slice A len cap, Apart.chV x.C x.S x.O x.d x.e x.key, .agg #[.int .i64 (t0 0), .int .i64 (t0 1), .int .i64 (t0 2), .int .i64 (t0 3), .int .i64 (t0 4), .int .i64 (t0 5), .int .i64 (t0 6), .int .u64 (t0 7), .int .u64 (t0 8), .int .u64 (t0 9), .int .u64 (t0 10), .int .u64 (t0 11), .int .i64 (t0 12), .int .i64 (t0 13), .int .i64 (t0 14), .int .i64 (t0 15), .int .i64 (t0 16)]] w fun r w' => r = .returned (.bool true) ∧ Own w [] w' := by
  have ok : ∀ q ∈ fLd b, q.1.ev (x.σ (x.s0 t0)) = q.2 := facts_Ld h e30
  have hb40 : x.σ (x.s0 t0) (ln 40) = (len : Int) := by
    unfold σ
    rw [sg_oneN (L := x.w) (by omega) rfl, hb]
  have hc40 : ∀ e, x.σ (x.s0 t0) (lc 40 e 0) = x.w[e]?.getD 0 := fun e => by
    unfold σ
    rw [sg_one (L := x.w) (by omega) rfl, List.getD_eq_getElem?_getD]
  have hrun : treeC Tryz.prog [] rk40 (kcsA b) [LS 0] 30 3 [.rsl 40, .agg chA, .agg taskA] ⟨[], [], ⟨0, 0, 0, 0⟩⟩ (.is (.bool true) []) (fLd b) = true := by cases b; exact runAf; exact runAt
  refine law_calls (f := 3) mixed (kcs_main (A := A) (len := len) (cap := cap) h) (lns_main h) ok hrun rfl w tabs_nil ?_ ?_
  · intro i ck A' len' c' hck hro
    have hro : roW A len cap i = some (A', len', c') := hro
    obtain rfl := roW_40 _ _ hro
    have hro : some (A, len, cap) = some (A', len', c') := hro
    cases hro
    have hck : some (CK.int .u64) = some ck := hck
    cases hck
    refine ⟨show (x.σ (x.s0 t0) (ln 40)).toNat = len by rw [hb40]; rfl, fun a ha h0 => ?_⟩
    obtain ⟨h1, h2⟩ := hbc a ha h0
    refine ⟨h1, fun e he => ?_⟩
    rw [h2 e he]
    show some (Value.int .u64 _) = some (Value.int .u64 (x.σ (x.s0 t0) (lc 40 e 0)))
    rw [hc40]
  · letI N : Nums := nums [] rk40 (roW A len cap) (x.σ (x.s0 t0)) Ωn _ ok
    have st : ∀ q, q < 17 → x.σ (x.s0 t0) q = t0 q := fun q hq => e_t hq
    have hch : VR (fun _ => none) (.agg chA) (Apart.chV x.C x.S x.O x.d x.e x.key) := by
      have := VR.ofShut (ρ := fun _ => none) (v := AV.agg chA) rfl
      have e : Ex.valOf Nums.σ (.agg chA) = Apart.chV x.C x.S x.O x.d x.e x.key := by
        show Value.agg #[.int .i64 (x.σ (x.s0 t0) 20), .int .i64 (x.σ (x.s0 t0) 21), .int .i64 (x.σ (x.s0 t0) 22), .int .i64 (x.σ (x.s0 t0) 23), .int .i64 (x.σ (x.s0 t0) 24), .int .u64 (x.σ (x.s0 t0) 25)] = _
        rw [e20, e21, e22, e25, show x.σ (x.s0 t0) 23 = x.d from ev (by omega), show x.σ (x.s0 t0) 24 = x.e from ev (by omega)]
      rw [e] at this
      exact this
    have htk : VR (fun _ => none) (.agg taskA) (.agg #[.int .i64 (t0 0), .int .i64 (t0 1), .int .i64 (t0 2), .int .i64 (t0 3), .int .i64 (t0 4), .int .i64 (t0 5), .int .i64 (t0 6), .int .u64 (t0 7), .int .u64 (t0 8), .int .u64 (t0 9), .int .u64 (t0 10), .int .u64 (t0 11), .int .i64 (t0 12), .int .i64 (t0 13), .int .i64 (t0 14), .int .i64 (t0 15), .int .i64 (t0 16)]) := by
      have := VR.ofShut (ρ := fun _ => none) (v := AV.agg taskA) rfl
      have e : Ex.valOf Nums.σ (.agg taskA) = .agg #[.int .i64 (t0 0), .int .i64 (t0 1), .int .i64 (t0 2), .int .i64 (t0 3), .int .i64 (t0 4), .int .i64 (t0 5), .int .i64 (t0 6), .int .u64 (t0 7), .int .u64 (t0 8), .int .u64 (t0 9), .int .u64 (t0 10), .int .u64 (t0 11), .int .i64 (t0 12), .int .i64 (t0 13), .int .i64 (t0 14), .int .i64 (t0 15), .int .i64 (t0 16)] := by
        show Value.agg #[.int .i64 (x.σ (x.s0 t0) 0), .int .i64 (x.σ (x.s0 t0) 1), .int .i64 (x.σ (x.s0 t0) 2), .int .i64 (x.σ (x.s0 t0) 3), .int .i64 (x.σ (x.s0 t0) 4), .int .i64 (x.σ (x.s0 t0) 5), .int .i64 (x.σ (x.s0 t0) 6), .int .u64 (x.σ (x.s0 t0) 7), .int .u64 (x.σ (x.s0 t0) 8), .int .u64 (x.σ (x.s0 t0) 9), .int .u64 (x.σ (x.s0 t0) 10), .int .u64 (x.σ (x.s0 t0) 11), .int .i64 (x.σ (x.s0 t0) 12), .int .i64 (x.σ (x.s0 t0) 13), .int .i64 (x.σ (x.s0 t0) 14), .int .i64 (x.σ (x.s0 t0) 15), .int .i64 (x.σ (x.s0 t0) 16)] = _
        rw [st 0 (by omega), st 1 (by omega), st 2 (by omega), st 3 (by omega), st 4 (by omega), st 5 (by omega), st 6 (by omega), st 7 (by omega), st 8 (by omega), st 9 (by omega), st 10 (by omega), st 11 (by omega), st 12 (by omega), st 13 (by omega), st 14 (by omega), st 15 (by omega), st 16 (by omega)]
      rw [e] at this
      exact this
    show VRs (fun _ => none) [.rsl 40, .agg chA, .agg taskA] [_, _, _]
    refine VRs.cons ?_ (VRs.cons hch (VRs.cons htk VRs.nil))
    unfold VR
    exact ⟨A, len, cap, rfl, rfl, hlc, hcap, show (x.σ (x.s0 t0) (ln 40)).toNat = len by rw [hb40]; rfl, hbn⟩
end
end Nx
theorem wf_in {y : Int} (h : (Lit.int .i64 y).wf = true) : I64 y := by
  have h : (decide (IntKind.i64.min ≤ y) && decide (y ≤ IntKind.i64.max)) = true := h
  rw [Bool.and_eq_true, decide_eq_true_eq, decide_eq_true_eq] at h
  have e1 : IntKind.i64.min = -9223372036854775808 := rfl
  have e2 : IntKind.i64.max = 9223372036854775807 := rfl
  rw [e1, e2] at h
  exact h
theorem wf_u64 {y : Int} (h : (Lit.int .u64 y).wf = true) : 0 ≤ y ∧ y < 18446744073709551616 := by
  have h : (decide (IntKind.u64.min ≤ y) && decide (y ≤ IntKind.u64.max)) = true := h
  rw [Bool.and_eq_true, decide_eq_true_eq, decide_eq_true_eq] at h
  have e1 : IntKind.u64.min = 0 := rfl
  have e2 : IntKind.u64.max = 18446744073709551615 := rfl
  rw [e1, e2] at h
  omega
/-- THE LAW -/
theorem steps_law (w : World) (C S O d e key : Int) (t0 : Nat → Int) (hC : (Lit.int .i64 C).wf = true) (hS : (Lit.int .i64 S).wf = true) (hO : (Lit.int .i64 O).wf = true) (hk : (Lit.int .u64 key).wf = true) (A : Option Addr) (len cap : Nat) (hlc : len ≤ cap) (hcap : cap ≤ maxLen) (hat : FlatAt w [some .u64] A len) :
    Calls Tryz.prog 3 #[.slice A len cap, .agg #[.int .i64 C, .int .i64 S, .int .i64 O, .int .i64 d, .int .i64 e, .int .u64 key], .agg #[.int .i64 (t0 0), .int .i64 (t0 1), .int .i64 (t0 2), .int .i64 (t0 3), .int .i64 (t0 4), .int .i64 (t0 5), .int .i64 (t0 6), .int .u64 (t0 7), .int .u64 (t0 8), .int .u64 (t0 9), .int .u64 (t0 10), .int .u64 (t0 11), .int .i64 (t0 12), .int .i64 (t0 13), .int .i64 (t0 14), .int .i64 (t0 15), .int .i64 (t0 16)]] w fun r w' => r = .returned (.bool true) ∧ Own w [] w' := by
  obtain ⟨ws, hwl, hbc, hbn, hwf⟩ := flat_list hat
  have hk := wf_u64 hk
  obtain ⟨key, rfl⟩ : ∃ k : Nat, key = k := ⟨key.toNat, by omega⟩
  have hw : ∀ y ∈ ws, 0 ≤ y ∧ y < 18446744073709551616 := fun y hy => wf_u64 (hwf y hy)
  by_cases hok : Ok C S O d e
  · obtain ⟨hm0, hm1⟩ := Apart.mul_ok hok
    have hok' := hok
    unfold Ok at hok'
    obtain ⟨n, hn⟩ : ∃ n : Nat, (n : Int) = 4 * C + 4 + 4 * S + S * O := ⟨(4 * C + 4 + 4 * S + S * O).toNat, by omega⟩
    exact Nx.law_of (x := ⟨C, S, O, d, e, key, n, ws, min n ws.length⟩) (b := true) ⟨by show key < _; omega, wf_in hC, wf_in hS, wf_in hO, hw, rfl, ⟨fun _ => rfl, fun _ => hok⟩, hn⟩ w hlc hcap hwl hbc hbn
  · exact Nx.law_of (x := ⟨C, S, O, d, e, key, 64, ws, min 64 ws.length⟩) (b := false) ⟨by show key < _; omega, wf_in hC, wf_in hS, wf_in hO, hw, rfl, ⟨fun hh => absurd hh hok, fun hh => by cases hh⟩, rfl⟩ w hlc hcap hwl hbc hbn
end Go.Proofs.YtllbnoojkgbjiaaGreat.Fss
