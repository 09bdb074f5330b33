import Derived.Test.YtcbljokbechppaaBkBackC
/-
  wainscotlaw23.slabbed, as a known call. No condition.
-/
namespace Go.Proofs.Ytcbljokbechppaa.Back
open Go Ex Mem See Fast
open Go.RowKit
theorem mixed : Try.prog.follows .mixedOrders = true := by kernel_rfl
theorem fn_slabbed : FnOk Try.prog 7 := ⟨Try.f7, _, Try.func7, by kernel_rfl, rfl⟩
theorem lt_t {σ : Nat → Int} {a b : SE} {x y : Int} (ha : a.ev σ = x) (hb : b.ev σ = y) (h : x < y) : (Cnd.lt a b).ev σ = true := by
  show decide (a.ev σ < b.ev σ) = true
  rw [ha, hb]
  exact decide_eq_true h
theorem lt_f {σ : Nat → Int} {a b : SE} {x y : Int} (ha : a.ev σ = x) (hb : b.ev σ = y) (h : y ≤ x) : (Cnd.lt a b).ev σ = false := by
  show decide (a.ev σ < b.ev σ) = false
  rw [ha, hb]
  exact decide_eq_false (by omega)
theorem eq_t {σ : Nat → Int} {a b : SE} {x y : Int} (ha : a.ev σ = x) (hb : b.ev σ = y) (h : x = y) : (Cnd.eq a b).ev σ = true := by
  show (a.ev σ == b.ev σ) = true
  rw [ha, hb]
  exact beq_iff_eq.2 h
theorem eq_f {σ : Nat → Int} {a b : SE} {x y : Int} (ha : a.ev σ = x) (hb : b.ev σ = y) (h : x ≠ y) : (Cnd.eq a b).ev σ = false := by
  show (a.ev σ == b.ev σ) = false
  rw [ha, hb]
  exact beq_eq_false_iff_ne.2 h
namespace Nb
section
variable {n : Nb} (h : n.OkS) {rks : List (Nat × CK)} {ro : Nat → Option (Option Addr × Nat × Nat)} (hro : ∀ i p, ro i = some p → i = 40)
include h
/-! slabbed's numbers -/
omit h in
theorem sev {j i : Nat} (hi : i < 2048) : (v i).ev (n.σS j) = n.vS j i := by
  show sg (n.vS j) (n.lS j) i = _
  rw [sg_v hi]
theorem sk {j : Nat} : (kE 0).ev (n.σS j) = (n.k : Int) := by
  have hK := h.K
  have hk : n.k = n.K + 1 := rfl
  show IntKind.i64.wrap (1 + (v 0).ev (n.σS j)) = _
  rw [sev (by omega), show n.vS j 0 = (n.K : Int) from rfl, i64_small (by omega) (by omega)]
  omega
theorem sN {j : Nat} : (wordsE (kE 0)).ev (n.σS j) = ((16 + 2 * n.k : Nat) : Int) := by
  have := h.k16
  show IntKind.i64.wrap (16 + IntKind.i64.wrap (2 * (kE 0).ev (n.σS j))) = _
  rw [sk h, i64_small (x := 2 * _) (by omega) (by omega), i64_small (by omega) (by omega)]
  omega
theorem skey {j : Nat} : (keyE (v 2)).ev (n.σS j) = (n.key1 : Int) := by
  have := h.key
  show IntKind.u64.wrap ((v 2).ev (n.σS j) + 11400714819323198485) = _
  rw [sev (by omega), show n.vS j 2 = (n.key : Int) from rfl, IntKind.wrap_u64]
  unfold Nb.key1 See.keyOf
  omega
theorem slink {j : Nat} {e : SE} {i : Nat} (he : e.ev (n.σS j) = (i : Int)) (hi : i < 100) : (linkE e).ev (n.σS j) = ((16 + n.k + i : Nat) : Int) := by
  have := h.k16
  show IntKind.i64.wrap (IntKind.i64.wrap (16 + IntKind.i64.wrap (1 * (kE 0).ev (n.σS j))) + e.ev (n.σS j)) = _
  rw [sk h, he, i64_small (x := 1 * _) (by omega) (by omega), i64_small (x := 16 + _) (by omega) (by omega), i64_small (by omega) (by omega)]
  omega
theorem kcs_slab : KcAll [] rks ro Try.prog (n.σS n.a) Ωn (kcsS n.fz n.z) := by
  have hk := h.k16
  have hkey1 : n.key1 < 18446744073709551616 := by
    unfold Nb.key1 See.keyOf
    exact Nat.mod_lt _ (by omega)
  refine kcAll_cons (fun fs ok => ?_) (kcAll_cons (fun fs ok => ?_) (kcAll_cons (fun fs ok => ?_) kcAll_nil)) <;>
    letI N : Nums := nums [] rks ro (n.σS n.a) Ωn fs ok
  · exact kc_new (N := 16 + 2 * n.k) (sN h) (by omega) (by omega) (ls_sg (by omega) rfl)
  · refine kc_fresh (n := max n.a 1) (key := n.key1) ?_ ?_ (skey h) (by omega) (by omega) hkey1 (ls_sg (by omega) rfl)
    · cases n.z <;> rfl
    · by_cases h0 : n.a = 0
      · rw [z_eq h0, h0]
        rfl
      · rw [z_ne h0]
        show Value.int .i64 ((v 1).ev (n.σS n.a)) = _
        rw [sev (by omega), show n.vS n.a 1 = (n.a : Int) from rfl]
        congr 1
        omega
  · refine kc_pack (A := n.k - n.a) (B := n.k) ?_ (sk h) (by omega) (by omega) (by omega) ?_
    · show IntKind.i64.wrap ((kE 0).ev (n.σS n.a) - (v 1).ev (n.σS n.a)) = _
      rw [sk h, sev (by omega), show n.vS n.a 1 = (n.a : Int) from rfl, i64_small (by omega) (by omega)]
      omega
    · exact sev (by omega)
include hro in
/-- slabbed's loop -/
theorem lns_slab : LnAll [] rks ro Try.prog 7 (n.σS n.a) Ωn [LS n.fz n.sh] := by
  have hk := h.k16
  have hkK : n.k = n.K + 1 := rfl
  refine lnAll_cons (fun fs ok c hc hck => ?_) lnAll_nil
  have h2 : ∀ j, n.lS j 2 = one (natsI (lkI n.k n.a n.key1 j)) := fun j => rfl
  refine ln_ok [] rks ro mixed (f := 7) (l := LS n.fz n.sh) (h0 := runS1 rks n.fz n.sh) (by kernel_rfl) (by cases n.fz <;> cases n.sh <;> rfl) rfl rfl (fun j => j ≤ n.a) (fun j => n.a - j) n.σS (fun _ => Ωn) (fun j hj q hq => ?_)
    (fun _ _ => kcAll_nil) (fun _ _ => lnAll_nil) 0 (Nat.zero_le _) ?_ (fun j hj => ?_) fs ok c hc hck
  · have v6 : (v 6).ev (n.σS j) = (j : Int) := sev (by omega)
    have v7 : (v 7).ev (n.σS j) = (j : Int) := sev (by omega)
    have v0 : (v 0).ev (n.σS j) = (n.K : Int) := sev (by omega)
    have v3 : (v 3).ev (n.σS j) = (n.mn : Int) := sev (by omega)
    have v4 : (v 4).ev (n.σS j) = (n.cp : Int) := sev (by omega)
    have lt : ∀ x : Int, (l x).ev (n.σS j) = x := fun _ => rfl
    have hl := slink h (e := v 6) (i := j) v6 (by omega)
    have hK := h.K
    have hmn := h.mn
    have hcp := h.cp
    simp only [fS1, fK, List.cons_append, List.nil_append, List.mem_cons, List.not_mem_nil, or_false] at hq
    rcases hq with rfl | rfl | rfl | rfl | rfl | rfl | rfl | rfl | rfl | rfl | rfl | rfl | rfl | rfl
    · exact lt_f v6 (lt 0) (by omega)
    · exact lt_t v6 (lt 17) (by omega)
    · exact lt_t v6 (sk h) (by omega)
    · exact lt_f v7 (lt 0) (by omega)
    · exact lt_t v7 (lt 100) (by omega)
    · refine lt_f (x := ((16 + 2 * n.k : Nat) : Int) - 1) ?_ hl (by omega)
      show IntKind.i64.wrap ((wordsE (kE 0)).ev (n.σS j) - 1) = _
      rw [sN h, i64_small (by omega) (by omega)]
    · exact lt_t hl (sN h) (by omega)
    · refine lt_t (y := ((16 + 2 * n.k : Nat) : Int)) hl ?_ (by omega)
      show (((n.σS j) (ln 2)).toNat : Int) = _
      unfold σS
      rw [sg_oneN (by omega) (h2 j), natsI_len, lkI_len]
      rfl
    · exact lt_f v0 (lt 0) (by omega)
    · exact lt_t v0 (lt 16) (by omega)
    · exact lt_f v3 (lt 0) (by omega)
    · exact lt_t v3 (lt 3) (by omega)
    · exact lt_f v4 (lt 0) (by omega)
    · exact lt_t v4 (lt 3) (by omega)
  · show AgreeD _ ⟨8, 3, 0, 40⟩ _ _ _ _ _
    refine agree_sgR (fun i p hp => by obtain rfl := hro i p hp; exact ⟨by omega, LsRec.var' (by omega) rfl⟩) (by decide) (by decide) rfl (fun i hi => ?_) fun i hi => ?_
    · have hi : i < 8 := hi
      match i, hi with
      | 0, _ => exact (sev (n := n) (j := n.a) (i := 0) (by omega)).symm
      | 1, _ => exact (sev (n := n) (j := n.a) (i := 1) (by omega)).symm
      | 2, _ => exact (sev (n := n) (j := n.a) (i := 2) (by omega)).symm
      | 3, _ => exact (sev (n := n) (j := n.a) (i := 3) (by omega)).symm
      | 4, _ => exact (sev (n := n) (j := n.a) (i := 4) (by omega)).symm
      | 5, _ => exact (sev (n := n) (j := n.a) (i := 5) (by omega)).symm
      | 6, _ => rfl
      | 7, _ => rfl
      | i + 8, h => exact absurd h (by omega)
    · have hi : i < 3 := hi
      match i, hi with
      | 0, _ => exact LsRec.var' (by omega) rfl
      | 1, _ => exact LsRec.var' (by omega) rfl
      | 2, _ =>
        show LsRec _ (.lvar 0) _
        rw [h2, lkI_zero]
        exact LsRec.var' (by omega) rfl
      | i + 3, h => exact absurd h (by omega)
  · have v6 : (v 6).ev (n.σS j) = (j : Int) := sev (by omega)
    have v7 : (v 7).ev (n.σS j) = (j : Int) := sev (by omega)
    have v1 : (v 1).ev (n.σS j) = (n.a : Int) := sev (by omega)
    refine ⟨fun hlt => ⟨fun _ => ?_, fun hge => ?_⟩, fun hge => ?_⟩
    · have hlt : j < n.a := by
        have := of_decide_eq_true (show decide ((v 6).ev (n.σS j) < (v 1).ev (n.σS j)) = true from hlt)
        rw [v6, v1] at this
        omega
      refine ⟨j + 1, by omega, by omega, ?_⟩
      show AgreeD _ ⟨8, 3, 0, 40⟩ _ _ _ _ _
      refine agree_sgR (fun i p hp => by obtain rfl := hro i p hp; exact ⟨by omega, LsRec.var' (by omega) rfl⟩) (by decide) (by decide) rfl (fun i hi => ?_) fun i hi => ?_
      · have hi : i < 8 := hi
        match i, hi with
        | 0, _ => exact (sev (n := n) (j := j) (i := 0) (by omega)).symm
        | 1, _ => exact (sev (n := n) (j := j) (i := 1) (by omega)).symm
        | 2, _ => exact (sev (n := n) (j := j) (i := 2) (by omega)).symm
        | 3, _ => exact (sev (n := n) (j := j) (i := 3) (by omega)).symm
        | 4, _ => exact (sev (n := n) (j := j) (i := 4) (by omega)).symm
        | 5, _ => exact (sev (n := n) (j := j) (i := 5) (by omega)).symm
        | 6, _ =>
          show ((j + 1 : Nat) : Int) = IntKind.i64.wrap ((v 6).ev (n.σS j) + 1)
          rw [v6, i64_small (by omega) (by omega)]
          omega
        | 7, _ =>
          show ((j + 1 : Nat) : Int) = IntKind.i64.wrap ((v 7).ev (n.σS j) + 1)
          rw [v7, i64_small (by omega) (by omega)]
          omega
        | i + 8, h => exact absurd h (by omega)
      · have hi : i < 3 := hi
        match i, hi with
        | 0, _ => exact LsRec.var' (by omega) rfl
        | 1, _ => exact LsRec.var' (by omega) rfl
        | 2, _ =>
          show LsRec _ (.lset (.lvar 2) (linkE (v 6)) 0 (.at (.lvar 1) (v 6) 0)) _
          rw [h2, ← lkI_set (k := n.k) (by omega)]
          rw [nats_set]
          refine LsRec.set (LsRec.var' (by omega) rfl) (slink h v6 (by omega)) ?_ (by rw [natsI_len, lkI_len]; omega)
          show (n.σS j) (lc 1 ((v 6).ev (n.σS j)).toNat 0) = _
          rw [v6]
          unfold σS
          rw [sg_one (L := natsI (freshL (max n.a 1) n.key1)) (by omega) rfl, Int.toNat_natCast, List.getD_eq_getElem?_getD, List.getD_eq_getElem?_getD]
          unfold natsI
          rw [List.getElem?_map]
          cases (freshL (max n.a 1) n.key1)[j]? <;> rfl
        | i + 3, h => exact absurd h (by omega)
    · exfalso
      have hlt : j < n.a := by
        have := of_decide_eq_true (show decide ((v 6).ev (n.σS j) < (v 1).ev (n.σS j)) = true from hlt)
        rw [v6, v1] at this
        omega
      have := of_decide_eq_false (show decide ((v 6).ev (n.σS j) < (((n.σS j) (ln 1)).toNat : Int)) = false from hge)
      rw [v6] at this
      unfold σS at this
      rw [sg_oneN (L := natsI (freshL (max n.a 1) n.key1)) (by omega) rfl, natsI_len] at this
      simp [freshL] at this
      omega
    · have hja : j = n.a := by
        have := of_decide_eq_false (show decide ((v 6).ev (n.σS j) < (v 1).ev (n.σS j)) = false from hge)
        rw [v6, v1] at this
        omega
      subst hja
      show AgreeD _ ⟨8, 3, 0, 40⟩ _ _ _ _ _
      exact agree_sgR (fun i p hp => by obtain rfl := hro i p hp; exact ⟨by omega, LsRec.var' (by omega) rfl⟩) (by decide) (by decide) rfl (fun i hi => (sev (n := n) (j := n.a) (i := i) (by have : i < 8 := hi; omega)).symm) fun i hi => by
        have : i < 3 := hi
        exact LsRec.var' (by omega) rfl
end
end Nb
end Go.Proofs.Ytcbljokbechppaa.Back
