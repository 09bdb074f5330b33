import Derived.Test.YtcbljokbechppaaBkBackF
/-
  wainscotlaw23.BackAlone: its loop, the facts, and the whole. No condition.
-/
namespace Go.Proofs.Ytcbljokbechppaa.Back
open Go Ex Mem See Fast
open Go.RowKit
namespace Nb
section
variable {n : Nb} (h : n.Ok)
include h
omit h in
theorem wev {j i : Nat} (hi : i < 2048) : (v i).ev (n.σW j) = n.vW j i := by
  show sg (n.vW j) (n.lW j) i = _
  rw [sg_v hi]
omit h in
theorem vW_ne {j i : Nat} (hi : i < 2048) (h20 : i ≠ 20) : (v i).ev (n.σW j) = (v i).ev n.σX := by
  rw [wev hi, ev_v hi]
  unfold vW
  rw [if_neg h20]
omit h in
theorem lW_ne {j q : Nat} (h3 : q ≠ 3) : n.lW j q = n.lX q := by
  unfold lW
  rw [if_neg h3]
omit h in
theorem lW_3 {j : Nat} : n.lW j 3 = one (n.want j) := rfl
omit h in
theorem want_len {j : Nat} : (n.want j).length = j + 1 := by
  unfold Nb.want
  rw [List.length_cons, upL_len]
  omega
omit h in
theorem want_succ {j : Nat} : n.want j ++ [(j : Int)] = n.want (j + 1) := by
  unfold Nb.want
  rw [List.cons_append]
  congr 1
  unfold upL
  simp only [Nat.sub_zero]
  rw [List.range'_concat]
  simp
theorem lns_X : LnAll [] [] roN Try.prog 3 n.σX Ωn [LW n.way] := by
  have hk := h.k16
  have hkK : n.k = n.K + 1 := rfl
  refine lnAll_cons (fun fs ok c hc hck => ?_) lnAll_nil
  refine ln_ok [] [] roN mixed (f := 3) (l := LW n.way) (h0 := runW n.way) (by kernel_rfl) (by cases n.way with | A z => cases z <;> rfl | _ => rfl) rfl (by cases n.way with | A z => cases z <;> rfl | _ => rfl) (fun j => j ≤ n.a) (fun j => n.a - j) n.σW (fun _ => Ωn) (fun j hj q hq => ?_)
    (fun _ _ => kcAll_nil) (fun _ _ => lnAll_nil) 0 (Nat.zero_le _) ?_ (fun j hj => ?_) fs ok c hc hck
  · have v20 : (v 20).ev (n.σW j) = (j : Int) := wev (by omega)
    have v1 : (v 1).ev (n.σW j) = (n.a : Int) := by rw [vW_ne (by omega) (by omega), x1]
    have l3 : (SE.len (.lvar 3)).ev (n.σW j) = ((j + 1 : Nat) : Int) := by
      show (((n.σW j) (ln 3)).toNat : Int) = _
      unfold σW
      rw [sg_oneN (by omega) lW_3, want_len]
      rfl
    have lt : ∀ x : Int, (l x).ev (n.σW j) = x := fun _ => rfl
    simp only [fW, List.mem_cons, List.not_mem_nil, or_false] at hq
    rcases hq with rfl | rfl | rfl | rfl | rfl
    · exact lt_f v20 (lt 0) (by omega)
    · exact lt_t v20 (lt 17) (by omega)
    · exact lt_t v1 (lt 17) (by omega)
    · exact lt_f l3 (lt 0) (by omega)
    · exact lt_t l3 (lt 100) (by omega)
  · show AgreeD _ ⟨70, 30, 0, 1000⟩ _ _ _ _ _
    refine agree_sg (fun _ => rfl) (by decide) (by decide) rfl (fun i hi => ?_) fun i hi => ?_
    · have hi : i < 70 := hi
      by_cases h20 : i = 20
      · subst h20; rfl
      · rw [vAt_ne (j := 20) (r := []) rfl (fun h => h20 h.symm), vAt_nil rfl]
        show n.vW 0 i = (v i).ev n.σX
        rw [ev_v (by omega)]
        unfold vW
        rw [if_neg h20]
    · have hi : i < 30 := hi
      by_cases h3 : i = 3
      · subst h3
        show LsRec n.σX (.lsnoc .rnil (.rcons objE .rnil)) (one (n.want 0))
        exact LsRec.nil.snoc (xobj h)
      · rw [lAt_ne (j := 3) (r := []) rfl (fun h => h3 h.symm), lAt_nil rfl, lW_ne h3]
        exact LsRec.var (by omega)
  · have v20 : (v 20).ev (n.σW j) = (j : Int) := wev (by omega)
    have v1 : (v 1).ev (n.σW j) = (n.a : Int) := by rw [vW_ne (by omega) (by omega), x1]
    refine ⟨fun hlt => ?_, fun hge => ?_⟩
    · have hlt : j < n.a := by
        have := of_decide_eq_true (show decide ((v 20).ev (n.σW j) < (v 1).ev (n.σW j)) = true from hlt)
        rw [v20, v1] at this
        omega
      refine ⟨j + 1, by omega, by omega, ?_⟩
      show AgreeD _ ⟨70, 30, 0, 1000⟩ _ _ _ _ _
      refine agree_sg (fun _ => rfl) (by decide) (by decide) rfl (fun i hi => ?_) fun i hi => ?_
      · have hi : i < 70 := hi
        by_cases h20 : i = 20
        · subst h20
          show ((j + 1 : Nat) : Int) = IntKind.i64.wrap ((v 20).ev (n.σW j) + 1)
          rw [v20, i64_small (by omega) (by omega)]
          omega
        · rw [vAt_ne (j := 20) (r := []) rfl (fun h => h20 h.symm), vAt_nil rfl]
          show n.vW (j + 1) i = (v i).ev (n.σW j)
          rw [wev (by omega)]
          unfold vW
          rw [if_neg h20, if_neg h20]
      · have hi : i < 30 := hi
        by_cases h3 : i = 3
        · subst h3
          show LsRec (n.σW j) (.lsnoc (.lvar 3) (.rcons (v 20) .rnil)) (one (n.want (j + 1)))
          rw [← want_succ]
          exact (LsRec.var' (by omega) lW_3).snoc v20
        · rw [lAt_ne (j := 3) (r := []) rfl (fun h => h3 h.symm), lAt_nil rfl, lW_ne h3, ← lW_ne (j := j) h3]
          exact LsRec.var (by omega)
    · have hja : j = n.a := by
        have := of_decide_eq_false (show decide ((v 20).ev (n.σW j) < (v 1).ev (n.σW j)) = false from hge)
        rw [v20, v1] at this
        omega
      subst hja
      show AgreeD _ ⟨70, 30, 0, 1000⟩ _ _ _ _ _
      refine agree_sg (fun _ => rfl) (by decide) (by decide) rfl (fun i hi => ?_) fun i hi => ?_
      · have hi : i < 70 := hi
        rw [vAt_nil rfl]
        by_cases h20 : i = 20
        · subst h20
          exact v20.symm
        · show _ = (v i).ev (n.σW n.a)
          rw [vW_ne (by omega) h20, ev_v (by omega)]
      · have hi : i < 30 := hi
        rw [lAt_nil rfl]
        by_cases h3 : i = 3
        · subst h3
          exact LsRec.var' (by omega) rfl
        · rw [← lW_ne (j := n.a) h3]
          exact LsRec.var (by omega)
/-! the facts -/
theorem facts_T : ∀ q ∈ fT n.z, q.1.ev n.σX = q.2 := by
  have hk := h.k16
  have hkK : n.k = n.K + 1 := rfl
  have hK := h.K
  have hmn := h.mn
  have hcp := h.cp
  have hc := cnt_le (n := n)
  have lt : ∀ x : Int, (l x).ev n.σX = x := fun _ => rfl
  have l0 : (SE.len (.lvar 0)).ev n.σX = ((16 + 2 * n.k : Nat) : Int) := by
    show ((n.σX (ln 0)).toNat : Int) = _
    unfold σX
    rw [sg_oneN (L := natsI n.G0) (by omega) rfl, natsI_len, h.G0len]
    rfl
  have w4 : (w 4).ev n.σX = 0 := by
    show (w (4 : Nat)).ev n.σX = 0
    rw [xw 4, at_zero h (by omega) (by omega) (by omega) (by omega) (by omega)]
    rfl
  have w12 : (w 12).ev n.σX = if n.z then 0 else 1 := by
    show (w (12 : Nat)).ev n.σX = _
    rw [xw 12, at12 h]
    cases n.z <;> rfl
  have hl := xlink h (xobj h) (by omega)
  intro q hq
  simp only [fT, List.mem_cons, List.not_mem_nil, or_false] at hq
  rcases hq with rfl | rfl | rfl | rfl | rfl | rfl | rfl | rfl | rfl | rfl | rfl | rfl | rfl | rfl | rfl | rfl | rfl | rfl | rfl | rfl | rfl | rfl | rfl
  · exact eq_t w4 (lt 0) rfl
  · exact lt_f x0 (lt 0) (by omega)
  · exact lt_t x0 (lt 16) (by omega)
  · exact lt_f x1 (lt 0) (by omega)
  · by_cases h0 : n.a = 0
    · rw [z_eq h0]; exact lt_t x1 (lt 1) (by omega)
    · rw [z_ne h0]; exact lt_f x1 (lt 1) (by omega)
  · exact lt_t x1 (lt 17) (by omega)
  · exact lt_f x2 (lt 0) (by omega)
  · exact lt_t x2 (lt 3) (by omega)
  · exact lt_f x3 (lt 0) (by omega)
  · exact lt_t x3 (lt 3) (by omega)
  · exact lt_f x5 (lt 0) (by omega)
  · exact lt_t x5 (lt 100) (by omega)
  · exact lt_f l0 (lt 18) (by omega)
  · exact lt_t l0 (lt 100) (by omega)
  · exact lt_t (lt 0) (xin h) (by omega)
  · exact lt_t (xobj h) (xk h) (by omega)
  · refine lt_f (x := ((16 + 2 * n.k : Nat) : Int) - 1) ?_ hl (by omega)
    show IntKind.i64.wrap ((wordsE (kE 0)).ev n.σX - 1) = _
    rw [xN h, i64_small (by omega) (by omega)]
  · exact lt_t hl (xN h) (by omega)
  · exact lt_t hl l0 (by omega)
  · cases hz : n.z <;> rw [hz] at w12
    · exact eq_f w12 (lt 0) (by simp)
    · exact eq_t w12 (lt 0) rfl
  · exact lt_f w12 (lt 0) (by split <;> omega)
  · cases hz : n.z <;> rw [hz] at w12
    · exact lt_f w12 (lt 1) (by simp)
    · exact lt_t w12 (lt 1) (by simp)
  · exact lt_t w12 (lt 2) (by split <;> omega)
theorem facts_W : ∀ q ∈ n.way.facts, q.1.ev n.σX = q.2 := by
  have hk := h.k16
  have hkK : n.k = n.K + 1 := rfl
  have hmn := h.mn
  have lt : ∀ x : Int, (l x).ev n.σX = x := fun _ => rfl
  have hw := n.way_is
  intro q hq
  cases hw' : n.way with
  | A z => rw [hw'] at hq; cases hq
  | B =>
    rw [hw'] at hq hw
    simp only [Way.facts, List.mem_cons, List.not_mem_nil, or_false] at hq
    obtain rfl := hq
    exact lt_t (lt 0) x3 (by have := hw.2.2; omega)
  | C =>
    rw [hw'] at hq hw
    simp only [Way.facts, List.mem_cons, List.not_mem_nil, or_false] at hq
    obtain rfl := hq
    exact lt_f (lt 0) x3 (by have := hw.2.2; omega)
  | D =>
    rw [hw'] at hq hw
    have h2 := hw.2.2
    simp only [Way.facts, List.mem_cons, List.not_mem_nil, or_false] at hq
    rcases hq with rfl | rfl
    · exact lt_t (lt 0) (xout h) (by omega)
    · exact lt_t (lt 1) (xin h) (by omega)
  | E =>
    rw [hw'] at hq hw
    obtain ⟨h1, h2, h3, h4⟩ := hw
    have w6 : (w 6).ev n.σX = 1 := by
      show (w (6 : Nat)).ev n.σX = 1
      rw [xw 6, at6 h]
      unfold Nb.sh
      rw [z_ne h2, h1]
      rfl
    simp only [Way.facts, List.mem_cons, List.not_mem_nil, or_false] at hq
    rcases hq with rfl | rfl | rfl | rfl
    · exact lt_f (lt 0) (xout h) (by omega)
    · exact lt_t (lt 0) x2 (by omega)
    · refine lt_f (x := (n.mn : Int)) ?_ w6 (by omega)
      show IntKind.u64.wrap ((v 2).ev n.σX) = _
      rw [x2, u64_small (by omega) (by omega)]
    · exact lt_f (lt 1) (xin h) (by omega)
  | F =>
    rw [hw'] at hq hw
    obtain ⟨h1, h2, h3, h4⟩ := hw
    have w6 : (w 6).ev n.σX = 1 := by
      show (w (6 : Nat)).ev n.σX = 1
      rw [xw 6, at6 h]
      unfold Nb.sh
      rw [z_ne h2, h1]
      rfl
    have w5 : (w 5).ev n.σX = 2 := by
      show (w (5 : Nat)).ev n.σX = 2
      rw [xw 5, at5 h]
      unfold Nb.sh
      rw [z_ne h2, h1]
      rfl
    have w14 : (w 14).ev n.σX = 0 := by
      show (w (14 : Nat)).ev n.σX = 0
      rw [xw 14, at_zero h (by omega) (by omega) (by omega) (by omega) (by omega)]
      rfl
    simp only [Way.facts, List.mem_cons, List.not_mem_nil, or_false] at hq
    rcases hq with rfl | rfl | rfl | rfl | rfl | rfl | rfl | rfl | rfl
    · exact lt_f (lt 0) (xout h) (by omega)
    · exact lt_f (lt 0) x2 (by omega)
    · refine lt_t (x := (n.mn : Int)) ?_ w6 (by omega)
      show IntKind.u64.wrap ((v 2).ev n.σX) = _
      rw [x2, u64_small (by omega) (by omega)]
    · exact lt_f w5 (lt 1) (by omega)
    · exact lt_t w5 (lt 3) (by omega)
    · refine eq_t (x := 1) ?_ (lt 1) rfl
      show IntKind.i64.wrap (IntKind.i64.wrap ((w 5).ev n.σX) - 1) = _
      rw [w5]
      rfl
    · exact lt_f w14 (lt 0) (by omega)
    · exact lt_t w14 (lt 3) (by omega)
    · exact lt_f (lt 1) (xin h) (by omega)
theorem facts_X : ∀ q ∈ n.way.fx, q.1.ev n.σX = q.2 := by
  have lt : ∀ x : Int, (l x).ev n.σX = x := fun _ => rfl
  have hz := n.way_z
  intro q hq
  simp only [Way.fx, Way.fs, List.mem_append, List.mem_cons, List.not_mem_nil, or_false] at hq
  rcases hq with (rfl | rfl | rfl | rfl | rfl | rfl | rfl) | hq | hq
  · rw [hz.1]
    by_cases h0 : n.a = 0
    · rw [z_eq h0]; exact eq_t x1 (lt 0) (by omega)
    · rw [z_ne h0]; exact eq_f x1 (lt 0) (by omega)
  · exact rfl
  · exact eq_t (x := (n.cn.inuse : Int)) (ev_v (by omega)) (xout h) rfl
  · exact eq_t (x := (n.cn.objects : Int)) (ev_v (by omega)) (xk h) rfl
  · exact eq_f (x := 1) (ev_v (by omega)) (lt 0) (by omega)
  · rw [hz.1, hz.2]
    have h59 : (v 59).ev n.σX = if n.cn.frozen then 1 else 0 := ev_v (by omega)
    have hcf : n.cn.frozen = (n.fz || n.z) := rfl
    rw [hcf] at h59
    cases hf : n.fz <;> cases hzz : n.z <;> rw [hf, hzz] at h59
    · exact eq_t h59 (lt 0) rfl
    · exact eq_f h59 (lt 0) (by simp)
    · exact eq_f h59 (lt 0) (by simp)
    · exact eq_f h59 (lt 0) (by simp)
  · have h52 : (v 52).ev n.σX = if n.lk then 1 else 0 := ev_v (by omega)
    unfold Nb.lk at h52
    cases hw : n.way <;> rw [hw] at h52 <;> first | exact eq_t h52 (lt 0) rfl | exact eq_f h52 (lt 0) (by simp)
  · exact facts_W h q hq
  · rw [hz.1] at hq
    exact facts_T h q hq
end
end Nb
theorem law_of {n : Nb} (h : n.Ok) (b1 : Bool) (w : World) :
    Calls Try.prog 3 #[.int .i64 n.r0, .int .i64 n.r1, .agg #[.bool n.fz, .bool b1, .int .i64 n.r2, .int .i64 n.r3]] w fun r w' => r = .returned (.bool true) ∧ Own w [] w' := by
  have hz := n.way_z
  have hrun := runA n.way b1
  rw [hz.2] at hrun
  refine law_calls (f := 3) (n := 30) (args := argB n.fz b1) (d := .is (.bool true) []) (fs := n.way.fx) (kcs := kcsX n.way) (lns := [LW n.way]) (σ := n.σX) (Ω := Nb.Ωn) (ro := Nb.roN) (gs := []) (rks := []) mixed (Nb.kcs_X h) (Nb.lns_X h) (Nb.facts_X h) hrun ?_ w tabs_nil (fun i ck A' len' c' hck hro => ?_) ?_
  · exact rfl
  · cases hro
  · letI N : Nums := nums [] [] Nb.roN n.σX Nb.Ωn n.way.fx (Nb.facts_X h)
    show VRs (fun _ => none) [.sym .i64 (v 30), .sym .i64 (v 31), .agg [.bool n.fz, .bool b1, .sym .i64 (v 32), .sym .i64 (v 33)]] [.int .i64 n.r0, .int .i64 n.r1, .agg #[.bool n.fz, .bool b1, .int .i64 n.r2, .int .i64 n.r3]]
    refine VRs.cons ?_ (VRs.cons ?_ (VRs.cons ?_ VRs.nil))
    · unfold VR; show _ = Value.int .i64 ((v 30).ev n.σX); rw [Nb.x30]
    · unfold VR; show _ = Value.int .i64 ((v 31).ev n.σX); rw [Nb.x31]
    · unfold VR
      refine ⟨_, rfl, VRs.cons (by unfold VR; rfl) (VRs.cons (by unfold VR; rfl) (VRs.cons ?_ (VRs.cons ?_ VRs.nil)))⟩
      · unfold VR; show _ = Value.int .i64 ((v 32).ev n.σX); rw [Nb.x32]
      · unfold VR; show _ = Value.int .i64 ((v 33).ev n.σX); rw [Nb.x33]
theorem nat_of (x m : Int) (hm : 1 ≤ m) : ∃ a : Nat, x % m = a ∧ (a : Int) < m := by
  have h1 := Int.emod_nonneg x (show m ≠ 0 by omega)
  have h2 := Int.emod_lt_of_pos x (show 0 < m by omega)
  generalize x % m = r at h1 h2
  exact ⟨r.toNat, by omega, by omega⟩
theorem key_of (x : Int) : ∃ k : Nat, IntKind.u64.wrap x = (k : Int) ∧ k < 18446744073709551616 := by
  rw [IntKind.wrap_u64]
  obtain ⟨a, h1, h2⟩ := nat_of x 18446744073709551616 (by decide)
  exact ⟨a, h1, Int.ofNat_lt.1 h2⟩
/-- THE LAW -/
theorem alone_law (w : World) (n0 n1 n2 n3 : Int) (b0 b1 : Bool) (w0 : (Lit.int .i64 n0).wf = true) (w1 : (Lit.int .i64 n1).wf = true) (w2 : (Lit.int .i64 n2).wf = true) (w3 : (Lit.int .i64 n3).wf = true) :
    Calls Try.prog 3 #[.int .i64 n0, .int .i64 n1, .agg #[.bool b0, .bool b1, .int .i64 n2, .int .i64 n3]] w fun r w' => r = .returned (.bool true) ∧ Own w [] w' := by
  obtain ⟨K, hK, hK2⟩ := nat_of n0 16 (by omega)
  obtain ⟨a, ha, ha2⟩ := nat_of n1 ((K + 1 : Nat) : Int) (by omega)
  obtain ⟨mn, hmn, hmn2⟩ := nat_of n2 3 (by omega)
  obtain ⟨cp, hcp, hcp2⟩ := nat_of n3 3 (by omega)
  have k1 : K < 16 := by omega
  have k2 : a ≤ K := by omega
  have k3 : mn < 3 := by omega
  have k4 : cp < 3 := by omega
  obtain ⟨key, hkey, hkey2⟩ := key_of (IntKind.u64.wrap n1 * 3)
  exact law_of (n := ⟨K, a, mn, cp, key, b0, n0, n1, n2, n3⟩) ⟨k1, k2, k3, k4, hkey2, w0, w1, w2, w3, hK, ha, hmn, hcp, hkey⟩ b1 w
end Go.Proofs.Ytcbljokbechppaa.Back
