import Derived.Test.YtcbljokbechppaaGreatDoorBkFaRa
import Derived.Test.YtcbljokbechppaaGreatDoorBkFaP
/-
  wainscotlaw24.slabbed, as a known call. No condition.
-/
namespace Go.Proofs.YtcbljokbechppaaGreatDoor.Fa
open Go Ex Mem See
open Go.RowKit
theorem mixed : Tryz.prog.follows .mixedOrders = true := by kernel_rfl
theorem fn_slabbed : FnOk Tryz.prog 13 := ⟨Tryz.f13, _, Tryz.func13, by kernel_rfl, rfl⟩
theorem lt_t {σ : Nat → Int} {a b : SE} {x y : Int} (ha : a.ev σ = x) (hb : b.ev σ = y) (h : x < y) : (Cnd.lt a b).ev σ = true := by
  show decide (a.ev σ < b.ev σ) = true
  rw [ha, hb]
  exact decide_eq_true h
theorem lt_f {σ : Nat → Int} {a b : SE} {x y : Int} (ha : a.ev σ = x) (hb : b.ev σ = y) (h : y ≤ x) : (Cnd.lt a b).ev σ = false := by
  show decide (a.ev σ < b.ev σ) = false
  rw [ha, hb]
  exact decide_eq_false (by omega)
theorem eq_t {σ : Nat → Int} {a b : SE} {x y : Int} (ha : a.ev σ = x) (hb : b.ev σ = y) (h : x = y) : (Cnd.eq a b).ev σ = true := by
  show (a.ev σ == b.ev σ) = true
  rw [ha, hb]
  exact beq_iff_eq.2 h
theorem eq_f {σ : Nat → Int} {a b : SE} {x y : Int} (ha : a.ev σ = x) (hb : b.ev σ = y) (h : x ≠ y) : (Cnd.eq a b).ev σ = false := by
  show (a.ev σ == b.ev σ) = false
  rw [ha, hb]
  exact beq_eq_false_iff_ne.2 h
theorem rng_ok {σ : Nat → Int} {e : SE} {x a b : Int} (he : e.ev σ = x) (h1 : a ≤ x) (h2 : x < b) : ∀ q ∈ rng e a b, q.1.ev σ = q.2 := by
  intro q hq
  simp only [rng, List.mem_cons, List.not_mem_nil, or_false] at hq
  rcases hq with rfl | rfl
  · exact lt_f he rfl h1
  · exact lt_t he rfl h2
def Ωn : Nat → Nat → Nat → Obj → Prop := fun _ _ _ _ => False
def rk40 : List (Nat × CK) := [(40, .int .i64)]
/-- what slabbed sees: objects less one, key, how many objects of each slab, accesses, the slab, frozen; the words; what the read-only slice has -/
structure Ss where
  K : Nat
  key : Nat
  ow : Nat → Nat
  cnt : Nat
  s : Nat
  fz : Bool
  c : Cw
  ex : List Int
  /-- lists of whom it is called by -/
  ls : Nat → List (List Int) := fun _ => []
namespace Ss
def k (x : Ss) : Nat := x.K + 1
def own (x : Ss) : Nat := x.ow x.s
def pk (x : Ss) : Nat := packN (x.k - x.own) x.k x.fz true
structure Ok (x : Ss) : Prop where
  K : x.K < 16
  key : x.key < 18446744073709551616
  s : x.s < 4
  own : 1 ≤ x.own ∧ x.own ≤ x.k
  cnt : x.cnt < 250
  nl : x.c.nl x.s = 0
/-- the words when so many links are laid; behind all -/
def cJ (x : Ss) (j : Nat) : Cw := { x.c with nl := putN x.c.nl x.s j }
def cE (x : Ss) : Cw := { lo := putN (putN x.c.lo (8 + 4 * x.s) 1) (9 + 4 * x.s) x.pk, nl := putN x.c.nl x.s x.own }
def vS (x : Ss) (j i : Nat) : Int := if i = 30 then x.pk else ([(x.K : Int), x.own, 0, x.key, 0, x.cnt, j, x.cnt + j] : List Int).getD i 0
def lS (x : Ss) (j q : Nat) : List (List Int) :=
  if q = 0 then one (natsI (gC x.k x.key x.ow x.c)) else if q = 1 then one (natsI (Fast.freshL x.own (See.keyOf x.key x.s))) else if q = 2 then one (natsI (gC x.k x.key x.ow (x.cJ j))) else if q = 40 then one x.ex else if q < 50 then [] else x.ls (q - 50)
def σS (x : Ss) (j : Nat) : Nat → Int := sg (x.vS j) (x.lS j)
section
variable {x : Ss} (h : x.Ok) {j : Nat}
theorem ev {i : Nat} (hi : i < 2048) : (v i).ev (x.σS j) = x.vS j i := by
  show sg (x.vS j) (x.lS j) i = _
  rw [sg_v hi]
theorem y0 : (v 0).ev (x.σS j) = (x.K : Int) := by rw [ev (by omega)]; rfl
theorem y1 : (v 1).ev (x.σS j) = (x.own : Int) := by rw [ev (by omega)]; rfl
theorem y3 : (v 3).ev (x.σS j) = (x.key : Int) := by rw [ev (by omega)]; rfl
theorem y5 : (v 5).ev (x.σS j) = (x.cnt : Int) := by rw [ev (by omega)]; rfl
theorem y6 : (v 6).ev (x.σS j) = (j : Int) := by rw [ev (by omega)]; rfl
theorem y7 : (v 7).ev (x.σS j) = ((x.cnt + j : Nat) : Int) := by rw [ev (by omega)]; rfl
theorem y30 : (v 30).ev (x.σS j) = (x.pk : Int) := by rw [ev (by omega)]; rfl
theorem ylen0 : (SE.len (.lvar 0)).ev (x.σS j) = ((24 + 4 * x.k : Nat) : Int) := by
  show ((x.σS j (ln 0)).toNat : Int) = _
  unfold σS
  rw [sg_oneN (L := natsI (gC x.k x.key x.ow x.c)) (by omega) rfl, natsI_len, gC_len]
  rfl
theorem ylen1 : (SE.len (.lvar 1)).ev (x.σS j) = (x.own : Int) := by
  show ((x.σS j (ln 1)).toNat : Int) = _
  unfold σS
  rw [sg_oneN (L := natsI (Fast.freshL x.own (See.keyOf x.key x.s))) (by omega) rfl, natsI_len]
  simp [Fast.freshL]
theorem ylen2 : (SE.len (.lvar 2)).ev (x.σS j) = ((24 + 4 * x.k : Nat) : Int) := by
  show ((x.σS j (ln 2)).toNat : Int) = _
  unfold σS
  rw [sg_oneN (L := natsI (gC x.k x.key x.ow (x.cJ j))) (by omega) rfl, natsI_len, gC_len]
  rfl
include h
theorem k16 : 1 ≤ x.k ∧ x.k ≤ 16 ∧ 1 ≤ x.own ∧ x.own ≤ x.k := by
  have := h.K
  have := h.own
  unfold Ss.k at *
  omega
theorem yk : kE.ev (x.σS j) = (x.k : Int) := by
  have := h.K
  show IntKind.i64.wrap (1 + (v 0).ev (x.σS j)) = _
  rw [y0, i64_small (by omega) (by omega)]
  unfold Ss.k
  omega
theorem yN : wordsE.ev (x.σS j) = ((24 + 4 * x.k : Nat) : Int) := by
  have := k16 h
  show IntKind.i64.wrap (24 + IntKind.i64.wrap (4 * kE.ev (x.σS j))) = _
  rw [yk h, i64_small (x := 4 * _) (by omega) (by omega), i64_small (by omega) (by omega)]
  omega
theorem ylink {e : SE} {i : Nat} (he : e.ev (x.σS j) = (i : Int)) (hi : i < 100) : (linkE x.s e).ev (x.σS j) = ((24 + x.s * x.k + i : Nat) : Int) := by
  have hk := k16 h
  have hm : x.s * x.k ≤ 3 * 16 := Nat.mul_le_mul (by have := h.s; omega) hk.2.1
  show IntKind.i64.wrap (IntKind.i64.wrap (24 + IntKind.i64.wrap ((x.s : Int) * kE.ev (x.σS j))) + e.ev (x.σS j)) = _
  rw [yk h, he]
  have e1 : (x.s : Int) * (x.k : Int) = ((x.s * x.k : Nat) : Int) := by rw [Int.natCast_mul]
  rw [e1, i64_small (x := ((x.s * x.k : Nat) : Int)) (by omega) (by omega), i64_small (x := 24 + _) (by omega) (by omega), i64_small (by omega) (by omega)]
  omega
theorem ykey : (keyS (v 3) x.s).ev (x.σS j) = (See.keyOf x.key x.s : Int) := by
  have := h.key
  have hs := h.s
  show IntKind.u64.wrap ((v 3).ev (x.σS j) + (x.s : Int) * 11400714819323198485 % 18446744073709551616) = _
  rw [y3, IntKind.wrap_u64]
  unfold See.keyOf
  omega
theorem kcs_S {ro : Nat → Option (Option Addr × Nat × Nat)} : KcAll FillTab.gs rk40 ro Tryz.prog (x.σS x.own) Ωn (kcsS x.s x.fz) := by
  have hk := k16 h
  refine kcAll_cons (fun fs ok => ?_) (kcAll_cons (fun fs ok => ?_) kcAll_nil)
  · letI N : Nums := nums FillTab.gs rk40 ro (x.σS x.own) Ωn fs ok
    refine kc_fresh (a := .sym .i64 (v 1)) (n := x.own) (key := See.keyOf x.key x.s) rfl ?_ (ykey h) hk.2.2.1 (by omega) (by unfold See.keyOf; exact Nat.mod_lt _ (by omega)) (ls_sg (by omega) rfl)
    show Value.int .i64 ((v 1).ev (x.σS x.own)) = _
    rw [y1]
  · letI N : Nums := nums FillTab.gs rk40 ro (x.σS x.own) Ωn fs ok
    refine kc_pack (A := x.k - x.own) (B := x.k) ?_ (yk h) (by omega) hk.1 hk.2.1 ?_
    · show IntKind.i64.wrap (kE.ev (x.σS x.own) - (v 1).ev (x.σS x.own)) = _
      rw [yk h, y1, i64_small (by omega) (by omega)]
      omega
    · show x.σS x.own 30 = _
      exact y30
/-- the loop -/
theorem lns_S {ro : Nat → Option (Option Addr × Nat × Nat)} (hro : ∀ i p, ro i = some p → i = 40) {M : Nat} (hc1 : runS1 M x.s (contS x.s) (fSc x.s) = true) (ho1 : runS1 M x.s outS fSo = true) (hM : M < 40) :
    LnAll FillTab.gs rk40 ro Tryz.prog 13 (x.σS x.own) Ωn [LS M x.s] := by
  have hk := k16 h
  have hs := h.s
  have hcn := h.cnt
  have hth : keeps (LS M x.s).nx (LS M x.s).th (LS M x.s).t.heap = true := by
    have e : ∀ (L : List (Nat × TB)), keeps 43 { v := [(6, l 0), (7, v 5)], l := [(2, .lvar 0)] } L = true := by
      intro L
      induction L with
      | nil => rfl
      | cons p L ih =>
        obtain ⟨a, b⟩ := p
        unfold keeps
        rw [ih]
        have : Nat.beq ({ v := [(6, l 0), (7, v 5)], l := [(2, .lvar 0)] } : Sub).n.length 0 = true := rfl
        simp [Sub.nAt, lookN]
        cases Nat.blt a 43 <;> rfl
    exact e _
  refine lnAll_cons (fun fs ok c hc hck => ?_) lnAll_nil
  refine ln_okS FillTab.gs rk40 ro mixed (f := 13) (l := LS M x.s) (n := 30) (kcs := fun _ => kgs []) (lns := fun _ => []) (dt := fun j => if j < x.own then contS x.s else outS) (fs0 := fun j => if j < x.own then fSc x.s else fSo) (fun j => j ≤ x.own) (fun j hj => ?_) (by kernel_rfl) hth rfl rfl (fun j => x.own - j) x.σS (fun _ => Ωn) (fun j hj q hq => ?_)
    (fun _ _ => kcAll_nil) (fun _ _ => lnAll_nil) 0 (Nat.zero_le _) ?_ (fun j hj => ?_) fs ok c hc hck
  · by_cases hlt : j < x.own
    · simp only [if_pos hlt]
      exact hc1
    · simp only [if_neg hlt]
      exact ho1
  · by_cases hlt : j < x.own
    · simp only [if_pos hlt] at hq
      have hl := ylink h (e := v 6) (i := j) y6 (by omega)
      have hb := link_idx (k := x.k) (s := x.s) (o := j) hs (by omega)
      simp only [fSc, fS1, List.append_assoc, List.mem_cons, List.mem_append, List.not_mem_nil, or_false] at hq
      rcases hq with rfl | rfl | hq | hq | hq | hq | rfl | rfl | rfl | rfl
      · exact lt_t y6 y1 (by omega)
      · exact lt_t y6 ylen1 (by omega)
      · exact rng_ok y0 (by omega) (by have := h.K; omega) q hq
      · exact rng_ok y1 (by omega) (by omega) q hq
      · exact rng_ok y6 (by omega) (by omega) q hq
      · exact rng_ok y7 (by omega) (by omega) q hq
      · exact lt_t y6 (yk h) (by omega)
      · refine lt_f (x := ((24 + 4 * x.k : Nat) : Int) - 1) ?_ hl (by omega)
        show IntKind.i64.wrap (wordsE.ev (x.σS j) - 1) = _
        rw [yN h, i64_small (by omega) (by omega)]
      · exact lt_t hl (yN h) (by omega)
      · exact lt_t hl ylen2 (by omega)
    · simp only [if_neg hlt] at hq
      simp only [fSo, List.mem_singleton] at hq
      subst hq
      exact lt_f y6 y1 (by omega)
  · show AgreeD _ ⟨31, 3, 0, 50⟩ _ _ _ _ _
    refine agree_sgR (fun i p hp => by obtain rfl := hro i p hp; exact ⟨by omega, LsRec.var' (by omega) rfl⟩) (by decide) (by decide) rfl (fun i hi => ?_) fun q hq => ?_
    · have hi : i < 31 := hi
      by_cases i6 : i = 6
      · subst i6; rfl
      · by_cases i7 : i = 7
        · subst i7; exact y5.symm
        · rw [vAt_ne (j := 6) (r := [(7, v 5)]) rfl (fun h => i6 h.symm), vAt_ne (j := 7) (r := []) rfl (fun h => i7 h.symm), vAt_nil rfl]
          show _ = (v i).ev (x.σS x.own)
          rw [ev (by omega)]
          unfold vS
          by_cases i30 : i = 30
          · rw [if_pos i30, if_pos i30]
          · rw [if_neg i30, if_neg i30]
            match i, hi, i6, i7 with
            | 0, _, _, _ => rfl
            | 1, _, _, _ => rfl
            | 2, _, _, _ => rfl
            | 3, _, _, _ => rfl
            | 4, _, _, _ => rfl
            | 5, _, _, _ => rfl
            | 6, _, h, _ => exact absurd rfl h
            | 7, _, _, h => exact absurd rfl h
            | i + 8, _, _, _ => rfl
    · have hq : q < 3 := hq
      match q, hq with
      | 0, _ => exact LsRec.var' (q := 0) (by omega) rfl
      | 1, _ => exact LsRec.var' (q := 1) (by omega) rfl
      | 2, _ =>
        refine LsRec.var' (q := 0) (by omega) ?_
        show one (natsI (gC x.k x.key x.ow x.c)) = one (natsI (gC x.k x.key x.ow (x.cJ 0)))
        have : x.cJ 0 = x.c := by
          unfold cJ
          have e : putN x.c.nl x.s 0 = x.c.nl := by
            funext i
            unfold putN
            by_cases hi : i = x.s
            · rw [if_pos hi, hi, h.nl]
            · rw [if_neg hi]
          rw [e]
        rw [this]
      | q + 3, hq => exact absurd hq (by omega)
  · by_cases hlt : j < x.own
    · simp only [if_pos hlt]
      refine ⟨j + 1, by omega, by omega, ?_⟩
      show AgreeD _ ⟨31, 3, 0, 50⟩ _ _ _ _ _
      refine agree_sgR (fun i p hp => by obtain rfl := hro i p hp; exact ⟨by omega, LsRec.var' (by omega) rfl⟩) (by decide) (by decide) rfl (fun i hi => ?_) fun q hq => ?_
      · have hi : i < 31 := hi
        by_cases i6 : i = 6
        · subst i6
          show ((j + 1 : Nat) : Int) = IntKind.i64.wrap ((v 6).ev (x.σS j) + 1)
          rw [y6, i64_small (by omega) (by omega)]
          rfl
        · by_cases i7 : i = 7
          · subst i7
            show ((x.cnt : Int) + ((j + 1 : Nat) : Int)) = IntKind.i64.wrap ((v 7).ev (x.σS j) + 1)
            rw [y7, i64_small (by omega) (by omega)]
            omega
          · rw [vAt_ne (j := 6) (r := [(7, .bin .add (v 7) (l 1))]) rfl (fun h => i6 h.symm), vAt_ne (j := 7) (r := []) rfl (fun h => i7 h.symm), vAt_nil rfl]
            show _ = (v i).ev (x.σS j)
            rw [ev (by omega)]
            unfold vS
            by_cases i30 : i = 30
            · rw [if_pos i30, if_pos i30]
            · rw [if_neg i30, if_neg i30]
              match i, hi, i6, i7 with
              | 0, _, _, _ => rfl
              | 1, _, _, _ => rfl
              | 2, _, _, _ => rfl
              | 3, _, _, _ => rfl
              | 4, _, _, _ => rfl
              | 5, _, _, _ => rfl
              | 6, _, h, _ => exact absurd rfl h
              | 7, _, _, h => exact absurd rfl h
              | i + 8, _, _, _ => rfl
      · have hq : q < 3 := hq
        match q, hq with
        | 0, _ => exact LsRec.var' (q := 0) (by omega) rfl
        | 1, _ => exact LsRec.var' (q := 1) (by omega) rfl
        | 2, _ =>
          show LsRec (x.σS j) (.lset (.lvar 2) (linkE x.s (v 6)) 0 (.at (.lvar 1) (v 6) 0)) (one (natsI (gC x.k x.key x.ow (x.cJ (j + 1)))))
          have r2 : LsRec (x.σS j) (.lvar 2) (one (natsI (gC x.k x.key x.ow (x.cJ j)))) := LsRec.var' (by omega) rfl
          have he : (SE.at (.lvar 1) (v 6) 0).ev (x.σS j) = (freshW x.key x.ow x.s j : Int) := by
            show sg (x.vS j) (x.lS j) (lc 1 ((v 6).ev (x.σS j)).toNat 0) = _
            rw [y6, Int.toNat_natCast, sg_one (L := natsI (Fast.freshL x.own (See.keyOf x.key x.s))) (by omega) rfl, List.getD_eq_getElem?_getD]
            unfold natsI Fast.freshL
            rw [List.getElem?_map, List.getElem?_map, List.getElem?_range hlt]
            simp only [Option.map_some, Option.getD_some]
            have e : (if j + 1 = x.own then hideW (-1) (See.keyOf x.key x.s) j else hideW ((j : Int) + 1) (See.keyOf x.key x.s) j) = freshW x.key x.ow x.s j := by
              unfold freshW
              have : x.own = x.ow x.s := rfl
              rw [← this]
              by_cases h1 : j + 1 = x.own
              · rw [if_pos h1, if_neg (by omega)]
              · rw [if_neg h1, if_pos (by omega)]
            rw [e]
          have := r2.set (ylink h (e := v 6) (i := j) y6 (by omega)) he (by rw [natsI_len, gC_len]; exact link_idx hs (by omega))
          have e1 : natsI ((gC x.k x.key x.ow (x.cJ j)).set (24 + x.s * x.k + j) (freshW x.key x.ow x.s j)) = (natsI (gC x.k x.key x.ow (x.cJ j))).set (24 + x.s * x.k + j) (freshW x.key x.ow x.s j : Int) := by
            unfold natsI
            rw [List.map_set]
          rw [← e1, set_link hs (by omega) (by show putN x.c.nl x.s j x.s = j; exact put_at)] at this
          have e2 : ({ x.cJ j with nl := putN (x.cJ j).nl x.s (j + 1) } : Cw) = x.cJ (j + 1) := by
            have e3 : putN (putN x.c.nl x.s j) x.s (j + 1) = putN x.c.nl x.s (j + 1) := by
              funext i
              unfold putN
              by_cases hi : i = x.s
              · rw [if_pos hi, if_pos hi]
              · rw [if_neg hi, if_neg hi, if_neg hi]
            show Cw.mk x.c.lo (putN (putN x.c.nl x.s j) x.s (j + 1)) = Cw.mk x.c.lo (putN x.c.nl x.s (j + 1))
            rw [e3]
          rw [e2] at this
          exact this
        | q + 3, hq => exact absurd hq (by omega)
    · simp only [if_neg hlt]
      have hje : j = x.own := by omega
      subst hje
      show AgreeD _ ⟨31, 3, 0, 50⟩ _ _ _ _ _
      refine agree_sgR (fun i p hp => by obtain rfl := hro i p hp; exact ⟨by omega, LsRec.var' (by omega) rfl⟩) (by decide) (by decide) rfl (fun i hi => ?_) fun q hq => ?_
      · rw [vAt_nil rfl]
        exact (ev (by have : i < 31 := hi; omega)).symm
      · rw [lAt_nil rfl]
        exact LsRec.var (by have : q < 3 := hq; omega)
end
end Ss
end Go.Proofs.YtcbljokbechppaaGreatDoor.Fa
