/-
  Texts of this claim, joined. No condition.
-/
import Derived.Test.YthjjpmoifgcepaaGreatJh6
/-
  The runner: numbers and names in place of others; values of a form. Soundness. No condition.
-/
namespace Go.Proofs.YthjjpmoifgcepaaGreat.Ex
open Go
/-- two readings of numbers agree -/
structure Agree (θ : Sub) (B : Bd) (N1 N2 : Nums) : Prop where
  v : ∀ i, i < B.k → N2.σ i = (θ.vAt i).ev N1.σ
  ln : ∀ i, i < B.kl → (N2.σ (ln i)).toNat = (θ.lAt i).evN N1.σ
  la : ∀ i, i < B.kl → ∀ e j, j < 64 → N2.σ (lc i e j) = (θ.lAt i).evA N1.σ e j
  o : ∀ i, i < B.ko → ∀ b0 b1 x, N1.Ω (θ.oAt i) b0 b1 x → N2.Ω i b0 b1 x
  ro : N2.ro = N1.ro
  rks : N2.toFc.rks = N1.toFc.rks
  globs : N2.toFc.globs = N1.toFc.globs
  rol : ∀ i p, N1.ro i = some p → (N2.σ (Ex.ln i)).toNat = (N1.σ (Ex.ln i)).toNat ∧ ∀ e, N2.σ (lc i e 0) = N1.σ (lc i e 0)
section
variable {θ : Sub} {B : Bd} {N1 N2 : Nums} (ag : Agree θ B N1 N2)
include ag
theorem SE.sub_all : ∀ e : SE, (SE.bd B e = true → (e.sub θ).ev N1.σ = e.ev N2.σ) ∧ (SE.bdL B e = true → (e.sub θ).evN N1.σ = e.evN N2.σ ∧ ∀ x j, j < 64 → (e.sub θ).evA N1.σ x j = e.evA N2.σ x j) ∧ (SE.bdR B e = true → ∀ x j, j < 64 → (e.sub θ).evA N1.σ x j = e.evA N2.σ x j) := by
  intro e
  induction e with
  | var i =>
    refine ⟨fun h => ?_, fun h => by simp [SE.bdL] at h, fun h => by simp [SE.bdR] at h⟩
    simp only [SE.bd] at h
    simp only [SE.sub, SE.ev]
    exact (ag.v i (by simpa using h)).symm
  | lit n => exact ⟨fun _ => rfl, fun h => by simp [SE.bdL] at h, fun h => by simp [SE.bdR] at h⟩
  | bin o a b ha hb =>
    refine ⟨fun h => ?_, fun h => by simp [SE.bdL] at h, fun h => by simp [SE.bdR] at h⟩
    simp only [SE.bd, Bool.and_eq_true] at h
    have h1 := ha.1 h.1
    have h2 := hb.1 h.2
    cases o <;> simp only [SE.sub, SE.ev, h1, h2]
  | ubin o a b ha hb =>
    refine ⟨fun h => ?_, fun h => by simp [SE.bdL] at h, fun h => by simp [SE.bdR] at h⟩
    simp only [SE.bd, Bool.and_eq_true] at h
    have h1 := ha.1 h.1
    have h2 := hb.1 h.2
    cases o <;> simp only [SE.sub, SE.ev, h1, h2]
  | cv k a ha =>
    refine ⟨fun h => ?_, fun h => by simp [SE.bdL] at h, fun h => by simp [SE.bdR] at h⟩
    simp only [SE.bd] at h
    simp only [SE.sub, SE.ev, ha.1 h]
  | lvar i =>
    refine ⟨fun h => by simp [SE.bd] at h, fun h => ?_, fun h => by simp [SE.bdR] at h⟩
    simp only [SE.bdL] at h
    have hi : i < B.kl := by simpa using h
    simp only [SE.sub, SE.evN, SE.evA]
    exact ⟨(ag.ln i hi).symm, fun x j hj => (ag.la i hi x j hj).symm⟩
  | lset l e k v hl he hv =>
    refine ⟨fun h => by simp [SE.bd] at h, fun h => ?_, fun h => by simp [SE.bdR] at h⟩
    simp only [SE.bdL, Bool.and_eq_true] at h
    obtain ⟨⟨h1, h2⟩, h3, h4⟩ := h
    have l1 := hl.2.1 h1
    have e1 := he.1 h2
    have v1 := hv.1 h4
    simp only [SE.sub, SE.evN, SE.evA, l1.1, e1, v1]
    exact ⟨trivial, fun x j hj => by rw [l1.2 x j hj]⟩
  | lsnoc l r hl hr =>
    refine ⟨fun h => by simp [SE.bd] at h, fun h => ?_, fun h => by simp [SE.bdR] at h⟩
    simp only [SE.bdL, Bool.and_eq_true] at h
    have l1 := hl.2.1 h.1
    have r1 := hr.2.2 h.2
    simp only [SE.sub, SE.evN, SE.evA, l1.1]
    exact ⟨trivial, fun x j hj => by rw [l1.2 x j hj, r1 0 j hj]⟩
  | rnil => exact ⟨fun h => by simp [SE.bd] at h, fun _ => ⟨rfl, fun _ _ _ => rfl⟩, fun _ _ _ _ => rfl⟩
  | rep n hn =>
    refine ⟨fun h => by simp [SE.bd] at h, fun h => ?_, fun h => by simp [SE.bdR] at h⟩
    simp only [SE.bdL] at h
    simp only [SE.sub, SE.evN, SE.evA, hn.1 h]
    exact ⟨trivial, fun _ _ _ => trivial⟩
  | rcons v r hv hr =>
    refine ⟨fun h => by simp [SE.bd] at h, fun h => by simp [SE.bdL] at h, fun h => ?_⟩
    simp only [SE.bdR, Bool.and_eq_true] at h
    have v1 := hv.1 h.1
    have r1 := hr.2.2 h.2
    intro x j hj
    simp only [SE.sub, SE.evA]
    cases j with
    | zero => exact v1
    | succ j => exact r1 0 j (by omega)
  | «at» l e j hl he =>
    refine ⟨fun h => ?_, fun h => by simp [SE.bdL] at h, fun h => by simp [SE.bdR] at h⟩
    simp only [SE.bd, Bool.and_eq_true] at h
    obtain ⟨h1, h2, h3⟩ := h
    simp only [SE.sub, SE.ev, he.1 h2]
    exact (hl.2.1 h1).2 _ j (by simpa using h3)
  | len l hl =>
    refine ⟨fun h => ?_, fun h => by simp [SE.bdL] at h, fun h => by simp [SE.bdR] at h⟩
    simp only [SE.bd] at h
    simp only [SE.sub, SE.ev, (hl.2.1 h).1]
theorem SE.sub_ev {e : SE} (h : SE.bd B e = true) : (e.sub θ).ev N1.σ = e.ev N2.σ := (SE.sub_all ag e).1 h
theorem Cnd.sub_ev {c : Cnd} (h : Cnd.bd B c = true) : (c.sub θ).ev N1.σ = c.ev N2.σ := by
  cases c with
  | lt a b =>
    simp only [Cnd.bd, Bool.and_eq_true] at h
    simp only [Cnd.sub, Cnd.ev, SE.sub_ev ag h.1, SE.sub_ev ag h.2]
  | eq a b =>
    simp only [Cnd.bd, Bool.and_eq_true] at h
    simp only [Cnd.sub, Cnd.ev, SE.sub_ev ag h.1, SE.sub_ev ag h.2]
end
section
variable {θ : Sub} {B : Bd} {N1 N2 : Nums} {ρ1 ρ2 : Ren}
mutual
theorem VR.sub (ag : Agree θ B N1 N2) (hρ : ∀ n, n < B.kn → ρ2 n = ρ1 (θ.nAt n)) : ∀ {v : AV} {x : Value}, AV.bd B v = true → @VR N1 ρ1 (v.sub θ) x → @VR N2 ρ2 v x
  | .sym k e, x, hb, h => by
    unfold AV.sub VR at h
    unfold AV.bd at hb
    unfold VR
    rw [← SE.sub_ev ag hb]
    exact h
  | .bsym c p, x, hb, h => by
    unfold AV.sub VR at h
    unfold AV.bd at hb
    unfold VR
    rw [← Cnd.sub_ev ag hb]
    exact h
  | .ptr n off, x, hb, h => by
    unfold AV.sub VR at h
    unfold AV.bd at hb
    unfold VR
    rw [hρ n (by simpa using hb)]
    exact h
  | .eptr n e s j, x, hb, h => by
    unfold AV.sub VR at h
    simp only [AV.bd, Bool.and_eq_true] at hb
    unfold VR
    rw [hρ n (by simpa using hb.1), ← SE.sub_ev ag hb.2]
    exact h
  | .dsl n e s, x, hb, h => by
    unfold AV.sub VR at h
    simp only [AV.bd, Bool.and_eq_true] at hb
    unfold VR
    rw [hρ n (by simpa using hb.1), ← SE.sub_ev ag hb.2]
    exact h
  | .ssl n e l s, x, hb, h => by
    unfold AV.sub VR at h
    simp only [AV.bd, Bool.and_eq_true] at hb
    unfold VR
    rw [hρ n (by simpa using hb.1), ← SE.sub_ev ag hb.2]
    exact h
  | .rptr i e, x, hb, h => by
    unfold AV.sub VR at h
    unfold AV.bd at hb
    unfold VR
    rw [← SE.sub_ev ag hb, ag.ro]
    exact h
  | .sl n off len sz r, x, hb, h => by
    unfold AV.sub VR at h
    unfold AV.bd at hb
    unfold VR
    rw [hρ n (by simpa using hb)]
    exact h
  | .map n, x, hb, h => by
    unfold AV.sub VR at h
    unfold AV.bd at hb
    unfold VR
    rw [hρ n (by simpa using hb)]
    exact h
  | .fn f a b, x, hb, h => by
    unfold AV.sub VR at h
    simp only [AV.bd, Bool.and_eq_true] at hb
    unfold VR
    obtain ⟨p, q, h1, h2, h3⟩ := h
    exact ⟨p, q, h1, VRs.sub ag hρ hb.1 h2, VRs.sub ag hρ hb.2 h3⟩
  | .ifc t v, x, hb, h => by
    unfold AV.sub VR at h
    unfold AV.bd at hb
    unfold VR
    obtain ⟨y, h1, h2⟩ := h
    exact ⟨y, h1, VR.sub ag hρ hb h2⟩
  | .agg l, x, hb, h => by
    unfold AV.sub VR at h
    unfold AV.bd at hb
    unfold VR
    obtain ⟨a, h1, h2⟩ := h
    exact ⟨a, h1, VRs.sub ag hρ hb h2⟩
  | .tup l, x, hb, h => by
    unfold AV.sub VR at h
    unfold AV.bd at hb
    unfold VR
    obtain ⟨a, h1, h2⟩ := h
    exact ⟨a, h1, VRs.sub ag hρ hb h2⟩
  | .bool _, x, _, h => by unfold AV.sub VR at h; unfold VR; exact h
  | .int _ _, x, _, h => by unfold AV.sub VR at h; unfold VR; exact h
  | .str _, x, _, h => by unfold AV.sub VR at h; unfold VR; exact h
  | .nilp, x, _, h => by unfold AV.sub VR at h; unfold VR; exact h
  | .gptr _ _, x, _, h => by unfold AV.sub VR at h; unfold VR; exact h
  | .nilsl, x, _, h => by unfold AV.sub VR at h; unfold VR; exact h
  | .esl _, x, _, h => by unfold AV.sub VR at h; unfold VR; exact h
  | .zsl, x, _, h => by unfold AV.sub VR at h; unfold VR; exact h
  | .osl e, x, hb, h => by
    unfold AV.sub VR at h
    unfold VR
    unfold AV.bd at hb
    rw [← SE.sub_ev ag hb]
    exact h
  | .rsl i, x, _, h => by
    unfold AV.sub VR at h
    unfold VR
    obtain ⟨A, l, c, h1, h2, h3, h4, h5, h6⟩ := h
    exact ⟨A, l, c, by rw [ag.ro]; exact h1, h2, h3, h4, by rw [(ag.rol i _ h1).1]; exact h5, h6⟩
  | .nilmap, x, _, h => by unfold AV.sub VR at h; unfold VR; exact h
  | .nilfn, x, _, h => by unfold AV.sub VR at h; unfold VR; exact h
  | .nilif, x, _, h => by unfold AV.sub VR at h; unfold VR; exact h
theorem VRs.sub (ag : Agree θ B N1 N2) (hρ : ∀ n, n < B.kn → ρ2 n = ρ1 (θ.nAt n)) : ∀ {l : List AV} {m : List Value}, AV.bds B l = true → @VRs N1 ρ1 (AV.subs θ l) m → @VRs N2 ρ2 l m
  | [], m, _, h => by unfold AV.subs VRs at h; unfold VRs; exact h
  | v :: l, m, hb, h => by
    unfold AV.subs VRs at h
    simp only [AV.bds, Bool.and_eq_true] at hb
    unfold VRs
    obtain ⟨y, ys, h1, h2, h3⟩ := h
    exact ⟨y, ys, h1, VR.sub ag hρ hb.1 h2, VRs.sub ag hρ hb.2 h3⟩
end
end
section
variable [Nums]
variable {ρ : Ren}
theorem eqB_ok {a b : SE} (h : eqB a b = true) : a.ev Nums.σ = b.ev Nums.σ := by
  unfold eqB at h
  split at h <;> first | (cases h; done) | skip
  rename_i he
  exact eq_of_beq (askEq_ok he)
mutual
theorem AV.fits_ok : ∀ {u v : AV} {x : Value}, AV.fits u v = true → VR ρ u x → VR ρ v x := by
  intro u v x hf h
  unfold AV.fits at hf
  split at hf
  · unfold VR at h ⊢
    obtain ⟨a, h1, h2⟩ := h
    exact ⟨a, h1, AV.fitsL_ok hf h2⟩
  · unfold VR at h ⊢
    obtain ⟨a, h1, h2⟩ := h
    exact ⟨a, h1, AV.fitsL_ok hf h2⟩
  · rw [Bool.and_eq_true] at hf
    have hk := of_decide_eq_true hf.1
    have he := eqB_ok hf.2
    unfold VR at h ⊢
    rw [h, hk, ← he]
    rfl
  · rw [Bool.and_eq_true] at hf
    have hk := of_decide_eq_true hf.1
    have he := eqB_ok hf.2
    unfold VR at h ⊢
    rw [h, hk, ← he]
  · rw [Bool.and_eq_true] at hf
    have hk := of_decide_eq_true hf.1
    have he := eqB_ok hf.2
    unfold VR at h ⊢
    rw [h, hk, he]
    rfl
  · split at hf <;> first | (cases hf; done) | skip
    rename_i q hq
    unfold VR at h ⊢
    rw [h, askC_ok hq, eq_of_beq hf]
  · split at hf <;> first | (cases hf; done) | skip
    rename_i q hq
    unfold VR at h ⊢
    rw [h, askC_ok hq, eq_of_beq hf]
  · unfold VR at h ⊢
    rw [Bool.or_eq_true] at hf
    rcases hf with hf | hf
    · rw [Bool.and_eq_true] at hf
      rw [h, Cnd.beq_eq hf.1, eq_of_beq hf.2]
    · split at hf <;> first | (cases hf; done) | skip
      rename_i q hq
      split at hf <;> first | (cases hf; done) | skip
      rename_i q' hq'
      rw [h, askC_ok hq, askC_ok hq', eq_of_beq hf]
  · simp only [Bool.and_eq_true] at hf
    obtain ⟨h1, h2, h3⟩ := hf
    have h1 := Nat.eq_of_beq_eq_true h1
    have h2 := Nat.eq_of_beq_eq_true h2
    have h3 := eqB_ok h3
    subst h1; subst h2
    unfold VR at h ⊢
    obtain ⟨b, z, l, c, k1, k2, k3, k4, k5, k6⟩ := h
    exact ⟨b, z, l, c, k1, k2, k3, k4, k5, by rw [← h3]; exact k6⟩
  · simp only [Bool.and_eq_true] at hf
    obtain ⟨⟨h1, h2⟩, ⟨h3, h4⟩, h5⟩ := hf
    have h1 := Nat.eq_of_beq_eq_true h1
    have h2 := Nat.eq_of_beq_eq_true h2
    have h3 := Nat.eq_of_beq_eq_true h3
    have h5 := eqB_ok h5
    subst h1; subst h2; subst h3
    unfold VR at h ⊢
    obtain ⟨b, z, c, k1, k2, k3, k4, k5⟩ := h
    refine ⟨b, z, _, c, k1, k2, k3, k4, ?_, by rw [← h5]; rfl⟩
    split at h4
    · exact k5.2
    · cases h4
  · unfold VR at h ⊢
    exact ⟨none, 0, h, by unfold maxLen; omega⟩
  · cases hf
  · have h3 := eqB_ok hf
    unfold VR at h ⊢
    obtain ⟨A, l, c, k1, k2, k3, k4⟩ := h
    exact ⟨A, l, c, k1, k2, k3, by rw [← h3]; exact k4⟩
  · rw [← AV.beq_eq hf]
    exact h
theorem AV.fitsL_ok : ∀ {u v : List AV} {x : List Value}, AV.fitsL u v = true → VRs ρ u x → VRs ρ v x
  | [], [], x, _, h => h
  | [], _ :: _, x, hf, h => by simp [AV.fitsL] at hf
  | _ :: _, [], x, hf, h => by simp [AV.fitsL] at hf
  | a :: l, b :: m, x, hf, h => by
    simp only [AV.fitsL, Bool.and_eq_true] at hf
    obtain ⟨y, ys, rfl, h1, h2⟩ := h.uncons
    exact VRs.cons (AV.fits_ok hf.1 h1) (AV.fitsL_ok hf.2 h2)
end
end
end Go.Proofs.YthjjpmoifgcepaaGreat.Ex

/-
  The runner: states of a form; known calls of any effect. Soundness. No condition.
-/
namespace Go.Proofs.YthjjpmoifgcepaaGreat.Ex
open Go
section
variable [Nums]
variable {ρ ρ' : Ren}
/-- a block is as it is to be -/
def TR (ρ : Ren) (t : TB) (s : Nat) (x : Option Obj) : Prop := match t with
  | .cells l e => ∃ cur : Array Value, x = some (.cells cur e (0, 0)) ∧ cur.size = s ∧ l.length ≤ s ∧ ∀ (i : Nat) v, l[i]? = some v → v.one = true ∧ ∃ y, cur[i]? = some y ∧ VR ρ v y
  | .recs l ks e => OR ρ (.recs l ks e) s x
  | .opb i n m => OR ρ (.opb i n m) s x
theorem TR.or {t : TB} {s : Nat} {x : Option Obj} (h : TR ρ t s x) : OR ρ t.ao s x := by
  cases t with
  | cells l e =>
    obtain ⟨cur, h1, h2, h3, h4⟩ := h
    refine ⟨cur, h1, h2, h3, fun i v hv => ?_⟩
    rcases setN_get hv with ⟨_, _, h5⟩ | ⟨_, h5⟩
    · rw [Nat.sub_zero] at h5
      exact h4 i v h5
    · rw [T.get_e] at h5; cases h5
  | recs l ks e => exact h
  | opb i n m => exact h
theorem fits_one : ∀ {u v : AV}, AV.fits u v = true → u.one = true → v.one = true := by
  intro u v hf h1
  cases hv : v.one with
  | true => rfl
  | false =>
    exfalso
    unfold AV.fits at hf
    split at hf <;> first | (cases h1; done) | (cases hv; done) | skip
    rw [AV.beq_eq hf, hv] at h1
    cases h1
omit [Nums] in
theorem getN_one {cs : T AV} (hc : ∀ i v, cs.get i = some v → v.one = true) : ∀ {n i : Nat} {l : List AV}, getN cs i n = some l → ∀ w ∈ l, w.one = true
  | 0, i, l, hg, w, hw => by simp only [getN, Option.some.injEq] at hg; subst hg; cases hw
  | n + 1, i, l, hg, w, hw => by
    unfold getN at hg
    split at hg <;> first | (cases hg; done) | skip
    rename_i w0 hw0
    split at hg <;> first | (cases hg; done) | skip
    rename_i l0 hl0
    simp only [Option.some.injEq] at hg
    subst hg
    rcases List.mem_cons.1 hw with rfl | hw
    · exact hc _ _ hw0
    · exact getN_one hc hl0 w hw
theorem fitsL_get : ∀ {l m : List AV} {i : Nat} {v : AV}, AV.fitsL l m = true → m[i]? = some v → ∃ u, l[i]? = some u ∧ AV.fits u v = true
  | [], [], _, _, _, h => by simp at h
  | [], _ :: _, _, _, hf, _ => by simp [AV.fitsL] at hf
  | _ :: _, [], _, _, hf, _ => by simp [AV.fitsL] at hf
  | a :: l, b :: m, i, v, hf, h => by
    simp only [AV.fitsL, Bool.and_eq_true] at hf
    cases i with
    | zero =>
      simp only [List.getElem?_cons_zero, Option.some.injEq] at h
      subst h
      exact ⟨a, rfl, hf.1⟩
    | succ i => exact fitsL_get (i := i) hf.2 (by simpa using h)
theorem recFits_ok {cs : T AV} {cur : Array Value} (hc : CellsOk ρ cs cur) : ∀ {ks : List CK} {off : Nat} {r : SE}, recFits cs off ks r = true → ∀ (j : Nat) (k : CK), ks[j]? = some k → cur[off + j]? = some (k.val (r.evA Nums.σ 0 j))
  | [], off, r, h, j, k, hk => by simp at hk
  | k0 :: ks, off, r, h, j, k, hk => by
    cases r <;> simp only [recFits] at h <;> first | (cases h; done) | skip
    rename_i v r
    split at h <;> first | (cases h; done) | skip
    rename_i a ha
    split at h <;> first | (cases h; done) | skip
    rename_i x hx
    rw [Bool.and_eq_true] at h
    obtain ⟨_, y, hy, hr⟩ := hc _ _ ha
    cases j with
    | zero =>
      simp only [List.getElem?_cons_zero, Option.some.injEq] at hk
      subst hk
      rw [Nat.add_zero, hy, toCK_rel hx hr, eqB_ok h.1]
      simp only [SE.evA]
    | succ j =>
      have := recFits_ok hc h.2 j k (by simpa using hk)
      rw [show off + (j + 1) = Nat.add off 1 + j from by show _ = off + 1 + j; omega, this]
      simp only [SE.evA]
theorem chainFits_ok {cs : T AV} {cur : Array Value} {ks : List CK} (hc : CellsOk ρ cs cur) : ∀ {l : SE} {n : Nat}, chainFits cs ks l = some n → l.evN Nums.σ = n ∧ ∀ (r j : Nat) (k : CK), r < n → ks[j]? = some k → cur[r * ks.length + j]? = some (k.val (l.evA Nums.σ r j))
  | .rnil, n, h => by
    simp only [chainFits, Option.some.injEq] at h
    subst h
    exact ⟨by simp only [SE.evN], fun r j k hr => by omega⟩
  | .lsnoc l r, n, h => by
    unfold chainFits at h
    split at h <;> first | (cases h; done) | skip
    rename_i m hm
    split at h <;> first | (cases h; done) | skip
    rename_i hr
    simp only [Option.some.injEq] at h
    have h : m + 1 = n := h
    subst h
    obtain ⟨h1, h2⟩ := chainFits_ok hc hm
    refine ⟨by simp only [SE.evN, h1], fun q j k hq hk => ?_⟩
    simp only [SE.evA, h1]
    by_cases hqm : q = m
    · subst hqm
      rw [if_pos rfl]
      exact recFits_ok hc hr j k hk
    · rw [if_neg hqm]
      exact h2 q j k (by omega) hk
  | .var _, _, h => by simp [chainFits] at h
  | .lit _, _, h => by simp [chainFits] at h
  | .bin _ _ _, _, h => by simp [chainFits] at h
  | .ubin _ _ _, _, h => by simp [chainFits] at h
  | .cv _ _, _, h => by simp [chainFits] at h
  | .lvar _, _, h => by simp [chainFits] at h
  | .lset _ _ _ _, _, h => by simp [chainFits] at h
  | .rcons _ _, _, h => by simp [chainFits] at h
  | .at _ _ _, _, h => by simp [chainFits] at h
  | .len _, _, h => by simp [chainFits] at h
omit [Nums] in
theorem CK.beqs_eq : ∀ {a b : List CK}, CK.beqs a b = true → a = b
  | [], [], _ => rfl
  | [], _ :: _, h => by simp [CK.beqs] at h
  | _ :: _, [], h => by simp [CK.beqs] at h
  | a :: l, b :: m, h => by
    simp only [CK.beqs, Bool.and_eq_true] at h
    have h1 : a = b := by
      have := h.1
      cases a <;> cases b <;> simp [CK.beq] at this <;> first | rfl | rw [this]
    rw [h1, CK.beqs_eq h.2]
theorem TB.fits_ok {o : AO} {t : TB} {s : Nat} {x : Option Obj} (hf : TB.fits o t = true) (h : OR ρ o s x) : TR ρ t s x := by
  unfold TB.fits at hf
  split at hf
  · simp only [Bool.and_eq_true] at hf
    obtain ⟨h1, h2, h3⟩ := hf
    have h1 := Nat.eq_of_beq_eq_true h1
    subst h1
    have h2 := Nat.le_of_ble_eq_true h2
    split at h3 <;> first | (cases h3; done) | skip
    rename_i l' hl
    obtain ⟨cur, k1, k2, k3, k4⟩ := h
    obtain ⟨ys, _, hrs, hat, _⟩ := getN_sound (ρ := ρ) k4 hl
    refine ⟨cur, k1, k2, by omega, fun i v hv => ?_⟩
    obtain ⟨u, hu, huf⟩ := fitsL_get h3 hv
    obtain ⟨y, hy, hyr⟩ := hrs.get hu
    have hy2 := hat i y hy
    rw [Nat.zero_add] at hy2
    refine ⟨?_, y, hy2, AV.fits_ok huf hyr⟩
    exact fits_one huf (getN_one (fun i v h => (k4 i v h).1) hl u (List.mem_of_getElem? hu))
  · simp only [Bool.and_eq_true] at hf
    obtain ⟨h1, h3⟩ := hf
    have h1 := Nat.eq_of_beq_eq_true h1
    subst h1
    split at h3 <;> first | (cases h3; done) | skip
    rename_i n hn
    have h3 := Nat.le_of_ble_eq_true h3
    obtain ⟨cur, k1, k2, k3, k4⟩ := h
    obtain ⟨c1, c2⟩ := chainFits_ok (ρ := ρ) k4 hn
    refine ⟨cur, k1, k2, ?_, fun r j k hr hk => c2 r j k (by omega) hk⟩
    rw [c1]
    exact Nat.le_trans h3 k3
  · simp only [Bool.and_eq_true] at hf
    obtain ⟨h1, h2, h3⟩ := hf
    have h1 := Nat.eq_of_beq_eq_true h1
    have h2 := SE.beq_eq h2
    have h3 := CK.beqs_eq h3
    subst h1; subst h2; subst h3
    exact h
  · simp only [Bool.and_eq_true] at hf
    obtain ⟨h1, h2, h3⟩ := hf
    have h1 := Nat.eq_of_beq_eq_true h1
    have h2 := Nat.eq_of_beq_eq_true h2
    have h3 := Nat.eq_of_beq_eq_true h3
    subst h1; subst h2; subst h3
    exact h
  · cases hf
end
theorem AV.sub_one (θ : Sub) (v : AV) : (v.sub θ).one = v.one := by cases v <;> simp [AV.sub, AV.one]
theorem AV.subs_get (θ : Sub) : ∀ {l : List AV} {i : Nat} {v : AV}, l[i]? = some v → (AV.subs θ l)[i]? = some (v.sub θ)
  | [], _, _, h => by simp at h
  | a :: l, i, v, h => by
    unfold AV.subs
    cases i with
    | zero => simp only [List.getElem?_cons_zero, Option.some.injEq] at h ⊢; rw [h]
    | succ i => simpa using AV.subs_get θ (i := i) (l := l) (by simpa using h)
theorem AV.subs_len (θ : Sub) : ∀ l : List AV, (AV.subs θ l).length = l.length
  | [] => by unfold AV.subs; rfl
  | a :: l => by unfold AV.subs; simp [AV.subs_len θ l]
theorem AV.bds_get {B : Bd} : ∀ {l : List AV} {i : Nat} {v : AV}, AV.bds B l = true → l[i]? = some v → AV.bd B v = true
  | [], _, _, _, h => by simp at h
  | a :: l, i, v, hb, h => by
    simp only [AV.bds, Bool.and_eq_true] at hb
    cases i with
    | zero => simp only [List.getElem?_cons_zero, Option.some.injEq] at h; rw [← h]; exact hb.1
    | succ i => exact AV.bds_get (i := i) hb.2 (by simpa using h)
section
variable {θ : Sub} {B : Bd} {N1 N2 : Nums} (ag : Agree θ B N1 N2) {ρ1 ρ2 : Ren} (hρ : ∀ n, n < B.kn → ρ2 n = ρ1 (θ.nAt n))
include ag hρ
theorem TR.sub {t : TB} {s : Nat} {x : Option Obj} (hb : TB.bd B t = true) (h : @TR N1 ρ1 (t.sub θ) s x) : @TR N2 ρ2 t s x := by
  cases t with
  | cells l e =>
    simp only [TB.bd, Bool.and_eq_true] at hb
    obtain ⟨cur, h1, h2, h3, h4⟩ := h
    rw [AV.subs_len] at h3
    refine ⟨cur, h1, h2, h3, fun i v hv => ?_⟩
    obtain ⟨_, y, h6, h7⟩ := h4 i _ (AV.subs_get θ hv)
    exact ⟨allOne_mem hb.2 v (List.mem_of_getElem? hv), y, h6, VR.sub ag hρ (AV.bds_get hb.1 hv) h7⟩
  | recs l ks e =>
    simp only [TB.bd, Bool.and_eq_true, ltAll] at hb
    obtain ⟨cur, h1, h2, h3, h4⟩ := h
    have hs := (SE.sub_all ag l).2.1 hb.1
    rw [hs.1] at h3 h4
    refine ⟨cur, h1, h2, h3, fun r j k hr hk => ?_⟩
    have hj : j < 64 := Nat.lt_of_lt_of_le (List.getElem?_eq_some_iff.1 hk).1 (Nat.le_of_ble_eq_true hb.2)
    rw [h4 r j k hr hk, hs.2 r j hj]
  | opb i n m =>
    simp only [TB.bd, Bool.and_eq_true] at hb
    obtain ⟨hi, hn, hm⟩ := hb
    obtain ⟨b0, z0, b1, z1, o, h0, h1, h2, h3⟩ := h
    exact ⟨b0, z0, b1, z1, o, by rw [hρ n (by simpa using hn)]; exact h0, by rw [hρ m (by simpa using hm)]; exact h1, h2, ag.o i (by simpa using hi) _ _ _ h3⟩
end
theorem envT_get : ∀ {l : List (Nat × AV)} {t : Nat} {v : AV}, (envT l).get t = some v → (t, v) ∈ l
  | [], t, v, h => by unfold envT at h; rw [T.get_e] at h; cases h
  | (t', v') :: l, t, v, h => by
    unfold envT at h
    rcases T.get_put h with ⟨rfl, h1⟩ | ⟨_, h1⟩
    · cases h1; exact List.mem_cons_self
    · exact List.mem_cons_of_mem _ (envT_get h1)
theorem heapT_get : ∀ {l : List (Nat × TB)} {n : Nat} {o : AO}, (heapT l).get n = some o → ∃ t, (n, t) ∈ l ∧ o = t.ao
  | [], n, o, h => by unfold heapT at h; rw [T.get_e] at h; cases h
  | (n', t') :: l, n, o, h => by
    unfold heapT at h
    rcases T.get_put h with ⟨rfl, h1⟩ | ⟨_, h1⟩
    · cases h1; exact ⟨_, List.mem_cons_self, rfl⟩
    · obtain ⟨t, h2, h3⟩ := heapT_get h1
      exact ⟨t, List.mem_cons_of_mem _ h2, h3⟩
theorem bdE_mem {B : Bd} : ∀ {l : List (Nat × AV)}, bdE B l = true → ∀ p ∈ l, AV.bd B p.2 = true
  | [], _, _, h => by cases h
  | (t, v) :: l, hb, p, h => by
    simp only [bdE, Bool.and_eq_true] at hb
    rcases List.mem_cons.1 h with rfl | h
    · exact hb.1
    · exact bdE_mem hb.2 p h
theorem bdH_mem {B : Bd} : ∀ {l : List (Nat × TB)}, bdH B l = true → ∀ p ∈ l, p.1 < B.kn ∧ TB.bd B p.2 = true
  | [], _, _, h => by cases h
  | (t, v) :: l, hb, p, h => by
    simp only [bdH, Bool.and_eq_true] at hb
    rcases List.mem_cons.1 h with rfl | h
    · exact ⟨by simpa using hb.1.1, hb.1.2⟩
    · exact bdH_mem hb.2 p h
theorem fitE_mem [Fc] {θ : Sub} {env : T AV} : ∀ {l : List (Nat × AV)}, fitE θ env l = true → ∀ p ∈ l, ∃ u, env.get p.1 = some u ∧ AV.fits u (p.2.sub θ) = true
  | [], _, _, h => by cases h
  | (t, v) :: l, hf, p, h => by
    unfold fitE at hf
    split at hf <;> first | (cases hf; done) | skip
    rename_i u hu
    rw [Bool.and_eq_true] at hf
    rcases List.mem_cons.1 h with rfl | h
    · exact ⟨u, hu, hf.1⟩
    · exact fitE_mem hf.2 p h
theorem notIn_mem {θ : Sub} {n : Nat} : ∀ {l : List (Nat × TB)}, notIn θ n l = true → ∀ p ∈ l, θ.nAt p.1 ≠ n
  | [], _, _, h => by cases h
  | (m, o) :: l, hf, p, h => by
    unfold notIn at hf
    split at hf <;> first | (cases hf; done) | skip
    rename_i hb
    rcases List.mem_cons.1 h with rfl | h
    · exact Nat.ne_of_beq_eq_false hb
    · exact notIn_mem hf p h
theorem fitH_mem [Fc] {θ : Sub} {h : AH} : ∀ {l : List (Nat × TB)}, fitH θ h l = true → (∀ p ∈ l, ∃ a, h.get (θ.nAt p.1) = some a ∧ TB.fits a (p.2.sub θ) = true) ∧ ∀ p ∈ l, ∀ q ∈ l, θ.nAt p.1 = θ.nAt q.1 → p = q
  | [], _ => ⟨(fun p h => by cases h), (fun p h => by cases h)⟩
  | (n, o) :: l, hf => by
    unfold fitH at hf
    split at hf <;> first | (cases hf; done) | skip
    rename_i a ha
    rw [Bool.and_eq_true, Bool.and_eq_true] at hf
    obtain ⟨h1, h2, h3⟩ := hf
    have h2 := notIn_mem h2
    obtain ⟨h4, h5⟩ := fitH_mem h3
    refine ⟨fun p hp => ?_, fun p hp q hq he => ?_⟩
    · rcases List.mem_cons.1 hp with rfl | hp
      · exact ⟨a, ha, h1⟩
      · exact h4 p hp
    · rcases List.mem_cons.1 hp with rfl | hp <;> rcases List.mem_cons.1 hq with rfl | hq
      · rfl
      · exact absurd he.symm (h2 q hq)
      · exact absurd he (h2 p hp)
      · exact h5 p hp q hq he
/-- names of a form, where a state's names stand -/
def reN (t : Tm) (θ : Sub) (ρ : Ren) : Ren := fun n => if n < t.b.kn then ρ (θ.nAt n) else none
/-- A STATE OF A FORM, READ ANEW -/
theorem Tm.re {t : Tm} {θ : Sub} {env : T AV} {h : AH} {N1 N2 : Nums} (hf : @Tm.fits N1.toFc t θ env h = true) (ag : Agree θ t.b N1 N2) {ρ : Ren} {w : World} {a : Act} {nt : Nat}
    (hE : @ER N1 ρ env nt a) (hH : @HR N1 ρ h.get h.next w) :
    @ER N2 (reN t θ ρ) (envT t.env) nt a ∧ @HR N2 (reN t θ ρ) t.h.get t.h.next w ∧ ∀ n, (t.h.get n).isSome = true → n < t.b.kn ∧ (h.get (θ.nAt n)).isSome = true := by
  unfold Tm.fits at hf
  rw [Bool.and_eq_true, Bool.and_eq_true] at hf
  obtain ⟨hok, hfe, hfh⟩ := hf
  unfold Tm.ok at hok
  rw [Bool.and_eq_true, Bool.and_eq_true] at hok
  obtain ⟨hbe, hbh, hkn⟩ := hok
  have hfe := @fitE_mem N1.toFc _ _ _ hfe
  obtain ⟨hfh, hinj⟩ := @fitH_mem N1.toFc _ _ _ hfh
  have hρ : ∀ n, n < t.b.kn → reN t θ ρ n = ρ (θ.nAt n) := fun n hn => by simp [reN, hn]
  have hat : ∀ n o, t.h.get n = some o → ∃ tb, (n, tb) ∈ t.heap ∧ o = tb.ao := fun n o ho => heapT_get ho
  have hdom : ∀ n, (t.h.get n).isSome = true → n < t.b.kn ∧ (h.get (θ.nAt n)).isSome = true := fun n hn => by
    obtain ⟨o, ho⟩ := Option.isSome_iff_exists.1 hn
    obtain ⟨tb, hm, _⟩ := hat n o ho
    obtain ⟨u, hu, _⟩ := hfh _ hm
    exact ⟨(bdH_mem hbh _ hm).1, by rw [show h.get (θ.nAt n) = some u from hu]; rfl⟩
  have edz := @ER.dz N1 _ _ _ _ hE
  have esz := @ER.size N1 _ _ _ _ hE
  have eval := @ER.val N1 _ _ _ _ hE
  have hobj := @HR.obj N1 _ _ _ _ hH
  have hinj1 := @HR.inj N1 _ _ _ _ hH
  have hgl := @HR.gl N1 _ _ _ _ hH
  have hgn := @HR.gn N1 _ _ _ _ hH
  have hrl := @HR.rl N1 _ _ _ _ hH
  have hrn := @HR.rn N1 _ _ _ _ hH
  refine ⟨⟨edz, esz, fun i v hv => ?_⟩, ⟨fun n hn => ?_, fun n o ho => ?_, fun n m b s s' hn hm hp hq => ?_, ?_, fun b l hl n s hn hp => ?_, ?_, fun b hb n s hn hp => ?_⟩, hdom⟩
  · have hm := envT_get hv
    obtain ⟨u, hu, huf⟩ := hfe _ hm
    obtain ⟨x, hx, hxr⟩ := eval _ _ hu
    exact ⟨x, hx, VR.sub ag hρ (bdE_mem hbe _ hm) (@AV.fits_ok N1 ρ _ _ _ huf hxr)⟩
  · have : ¬ n < t.b.kn := by
      have h1 : t.h.next = t.b.kn := rfl
      omega
    simp [reN, this]
  · obtain ⟨tb, hm, rfl⟩ := hat n o ho
    obtain ⟨u, hu, huf⟩ := hfh _ hm
    obtain ⟨hlt, hbd⟩ := bdH_mem hbh _ hm
    obtain ⟨b, s, hp, hO⟩ := hobj _ _ hu
    exact ⟨b, s, by rw [hρ n hlt]; exact hp, @TR.or N2 _ _ _ _ (TR.sub ag hρ hbd (@TB.fits_ok N1 ρ _ _ _ _ huf hO))⟩
  · obtain ⟨o1, ho1⟩ := Option.isSome_iff_exists.1 hn
    obtain ⟨o2, ho2⟩ := Option.isSome_iff_exists.1 hm
    obtain ⟨t1, hm1, _⟩ := hat n o1 ho1
    obtain ⟨t2, hm2, _⟩ := hat m o2 ho2
    obtain ⟨l1, d1⟩ := hdom n hn
    obtain ⟨l2, d2⟩ := hdom m hm
    rw [hρ n l1] at hp
    rw [hρ m l2] at hq
    have := hinj _ hm1 _ hm2 (hinj1 _ _ b s s' d1 d2 hp hq)
    exact congrArg Prod.fst this
  · rw [ag.globs]
    exact hgl
  · obtain ⟨l1, d1⟩ := hdom n hn
    rw [hρ n l1] at hp
    rw [ag.globs] at hl
    exact hgn b l hl _ s d1 hp
  · intro i k A len c hk hro
    rw [ag.rks] at hk
    rw [ag.ro] at hro
    obtain ⟨h1, h2⟩ := hrl i k A len c hk hro
    obtain ⟨r1, r2⟩ := ag.rol i _ hro
    refine ⟨by rw [r1]; exact h1, fun a ha h0 => ⟨(h2 a ha h0).1, fun e he => ?_⟩⟩
    rw [r2 e]
    exact (h2 a ha h0).2 e he
  · obtain ⟨i, k, a, len, c, hk, hro, h0, hab⟩ := hb
    rw [ag.rks] at hk
    rw [ag.ro] at hro
    obtain ⟨l1, d1⟩ := hdom n hn
    rw [hρ n l1] at hp
    exact hrn b ⟨i, k, a, len, c, hk, hro, h0, hab⟩ _ s d1 hp
end Go.Proofs.YthjjpmoifgcepaaGreat.Ex

/-
  The runner: known calls of any effect, known loops: soundness of the text's way. No condition.
-/
namespace Go.Proofs.YthjjpmoifgcepaaGreat.Ex
open Go
section
variable [Nums]
variable {P : Program}
/-- a known call is so -/
def KcOk (P : Program) (k : Kc) : Prop := (∀ c ∈ k.conds, c.1.ev Nums.σ = c.2) → FnOk P k.f ∧ ∀ (ρ : Ren) (h h' : AH) (w : World) (args' : Array Value) (v : AV), k.at h = some (v, h') → HR ρ h.get h.next w → VRs ρ k.args args'.toList →
  Calls P k.f args' w fun e w' => ∃ ρ' x, e = .returned x ∧ VR ρ' v x ∧ Stp ρ h.get h.next w ρ' h'.get h'.next w'
theorem kcAt_mem {f : FuncId} {args : List AV} {h h' : AH} {v : AV} : ∀ {l : List Kc}, kcAt f args h l = some (v, h') → ∃ k ∈ l, k.f = f ∧ AV.fitsL args k.args = true ∧ (∀ c ∈ k.conds, c.1.ev Nums.σ = c.2) ∧ k.at h = some (v, h')
  | [], hk => by cases hk
  | k :: l, hk => by
    have hrest : kcAt f args h l = some (v, h') → ∃ k' ∈ k :: l, k'.f = f ∧ AV.fitsL args k'.args = true ∧ (∀ c ∈ k'.conds, c.1.ev Nums.σ = c.2) ∧ k'.at h = some (v, h') := fun hl => by
      obtain ⟨k', h1, h2⟩ := kcAt_mem hl
      exact ⟨k', List.mem_cons_of_mem _ h1, h2⟩
    unfold kcAt at hk
    split at hk
    · exact hrest hk
    · rename_i hf
      split at hk
      · exact hrest hk
      · rename_i ha
        split at hk
        · exact hrest hk
        · rename_i hc
          split at hk
          · rename_i r he
            simp only [Option.some.injEq] at hk
            subst hk
            exact ⟨k, List.mem_cons_self, Nat.eq_of_beq_eq_true hf, ha, condsOk_mem hc, he⟩
          · exact hrest hk
theorem callK_sound (hm : P.follows .mixedOrders = true) {kx : AH → Kg} (hk : ∀ h args, ∀ k ∈ kx h args, KcOk P k) : ∀ n, CallS P (callK P kx n)
  | 0 => fun f args h v h' he => by simp [callK] at he
  | n + 1 => fun f args h v h' he => by
    unfold callK at he
    split at he
    · rename_i r hkc
      simp only [Option.some.injEq] at he
      subst he
      obtain ⟨k, hmem, rfl, hargsf, hcs, hat⟩ := kcAt_mem hkc
      obtain ⟨h1, h2⟩ := hk _ _ k hmem hcs
      exact ⟨h1, fun ρ w args' hH hargs => h2 ρ _ _ w args' _ hat hH (AV.fitsL_ok hargsf hargs)⟩
    split at he <;> first | (cases he; done) | skip
    rename_i fn hf
    split at he <;> first | (cases he; done) | skip
    rename_i hname
    split at he <;> first | (cases he; done) | skip
    rename_i c hb
    split at he <;> first | (cases he; done) | skip
    rename_i hle
    rw [Bool.and_eq_true] at hle
    have hle := Nat.le_of_ble_eq_true hle.1
    refine ⟨⟨fn, c, hf, hname, hb⟩, fun ρ w args' hH hargs => ?_⟩
    have hal : args.length = args'.size := by simpa using hargs.len
    have hE : ER ρ (envOf 0 args .e) fn.ntmps { tmps := args' ++ Array.replicate (fn.ntmps - args'.size) undef, defers := [] } := by
      refine ⟨rfl, by simp; omega, fun t v hv => ?_⟩
      rcases envOf_get hv with ⟨_, h1⟩ | h1
      · rw [Nat.sub_zero] at h1
        obtain ⟨x, hx, hr⟩ := hargs.get h1
        refine ⟨x, ?_, hr⟩
        have hlt := (List.getElem?_eq_some_iff.1 hx).1
        rw [Array.getElem?_append_left (by simpa using hlt)]
        simpa using hx
      · rw [T.get_e] at h1; cases h1
    split at he <;> first | (cases he; done) | skip
    rename_i x env' h1 hno hx
    split at he <;> first | (cases he; done) | skip
    rename_i vs hvs
    simp only [Option.some.injEq, Prod.mk.injEq] at he
    obtain ⟨rfl, rfl⟩ := he
    refine calls_of_wp hf hb (wp_mono (exec_wp hm (callK_sound hm hk n) c _ _ _ _ _ hx ρ w _ hE hH) ?_)
    rintro e a1 w1 ⟨rfl, ρ1, hst, hE1⟩
    obtain ⟨y, hy, hrun⟩ := results_sound (fn := fn) hst.hr hE1 hvs
    cases x with
    | exit id => exact absurd rfl (hno id)
    | normal => exact ⟨hE1.dz, y, hrun, ρ1, y, rfl, hy, hst⟩
    | ret => exact ⟨hE1.dz, y, hrun, ρ1, y, rfl, hy, hst⟩
variable {call : FuncId → List AV → AH → Option (AV × AH)} {nt : Nat}
/-- a known loop is so -/
def LnOk (P : Program) (nt : Nat) (c : Code) (l : Ln) : Prop := ∀ env h x env' h', l.at env h = some (x, env', h') → ∀ (ρ : Ren) w a, ER ρ env nt a → HR ρ h.get h.next w → (Code.loop c).wp P (PostX nt ρ h w x env' h') a w
omit [Nums] in
theorem lnAt_mem [Fc] {i : Nat} {env : T AV} {h : AH} {r : AX × T AV × AH} : ∀ {l : List Ln}, lnAt i env h l = some r → ∃ x ∈ l, x.key = i ∧ x.at env h = some r
  | [], he => by cases he
  | x :: l, he => by
    unfold lnAt at he
    split at he
    · rename_i hb
      split at he
      · rename_i q hq
        simp only [Option.some.injEq] at he
        subst he
        exact ⟨x, List.mem_cons_self, Nat.eq_of_beq_eq_true hb, hq⟩
      · obtain ⟨y, h1, h2⟩ := lnAt_mem he
        exact ⟨y, List.mem_cons_of_mem _ h1, h2⟩
    · obtain ⟨y, h1, h2⟩ := lnAt_mem he
      exact ⟨y, List.mem_cons_of_mem _ h1, h2⟩
theorem execL_wp (hm : P.follows .mixedOrders = true) (hc : CallS P call) {lns : List Ln} {L : List Code} (hln : ∀ c ∈ L, ∀ l ∈ lns, loopId c = some l.key → LnOk P nt c l) : ∀ (c : Code) env h x env' h', (∀ d ∈ loopsOf c, d ∈ L) → execL P call nt lns c env h = some (x, env', h') → ∀ (ρ : Ren) w a, ER ρ env nt a → HR ρ h.get h.next w → c.wp P (PostX nt ρ h w x env' h') a w
  | .skip, env, h, x, env', h', _, he, ρ, w, a, hE, hH => by
    simp only [execL, Option.some.injEq, Prod.mk.injEq] at he
    obtain ⟨rfl, rfl, rfl⟩ := he
    exact wp_skip ⟨rfl, ρ, Stp.refl hH, hE⟩
  | .label l, env, h, x, env', h', _, he, ρ, w, a, hE, hH => by
    simp only [execL, Option.some.injEq, Prod.mk.injEq] at he
    obtain ⟨rfl, rfl, rfl⟩ := he
    exact wp_label ⟨rfl, ρ, Stp.refl hH, hE⟩
  | .region id ops false, env, h, x, env', h', _, he, ρ, w, a, hE, hH => by
    unfold execL at he
    split at he <;> first | (cases he; done) | skip
    rename_i env1 h1 hr
    simp only [Option.some.injEq, Prod.mk.injEq] at he
    obtain ⟨rfl, rfl, rfl⟩ := he
    exact wp_region_list (regL_wp hc _ _ _ _ _ ρ w a hr hE hH fun ρ' w' a' hst hE' => ⟨rfl, ρ', hst, hE'⟩)
  | .region id ops true, env, h, x, env', h', _, he, ρ, w, a, hE, hH => by
    unfold execL at he
    split at he <;> first | (cases he; done) | skip
    rename_i env1 h1 hr
    simp only [Option.some.injEq, Prod.mk.injEq] at he
    obtain ⟨rfl, rfl, rfl⟩ := he
    exact wp_region_any hm (regDr_wp hc hr hE (hH.drew _) fun ρ' w' a' hst hE' => ⟨rfl, ρ', hst.drew, hE'⟩)
  | .seq c d, env, h, x, env', h', hL, he, ρ, w, a, hE, hH => by
    have hL1 : ∀ q ∈ loopsOf c, q ∈ L := fun q hq => hL q (by unfold loopsOf; exact List.mem_append_left _ hq)
    have hL2 : ∀ q ∈ loopsOf d, q ∈ L := fun q hq => hL q (by unfold loopsOf; exact List.mem_append_right _ hq)
    unfold execL at he
    split at he
    · rename_i env1 h1 hx
      refine wp_seq (wp_mono (execL_wp hm hc hln c _ _ _ _ _ hL1 hx ρ w a hE hH) ?_)
      rintro e a1 w1 ⟨rfl, ρ1, hst, hE1⟩
      refine wp_mono (execL_wp hm hc hln d _ _ _ _ _ hL2 he ρ1 w1 a1 hE1 hst.hr) ?_
      rintro e a2 w2 ⟨rfl, ρ2, hst2, hE2⟩
      exact ⟨rfl, ρ2, hst.trans hst2, hE2⟩
    · rename_i hno
      refine wp_seq (wp_mono (execL_wp hm hc hln c _ _ _ _ _ hL1 he ρ w a hE hH) ?_)
      rintro e a1 w1 ⟨rfl, hq⟩
      exact then_of (fun hx => by subst hx; exact absurd he (hno _ _)) (fun _ => ⟨rfl, hq⟩)
  | .cond c d e, env, h, x, env', h', hL, he, ρ, w, a, hE, hH => by
    have hL1 : ∀ q ∈ loopsOf d, q ∈ L := fun q hq => hL q (by unfold loopsOf; exact List.mem_append_left _ hq)
    have hL2 : ∀ q ∈ loopsOf e, q ∈ L := fun q hq => hL q (by unfold loopsOf; exact List.mem_append_right _ hq)
    unfold execL at he
    have hev : ∀ b, ev env c = some (.bool b) → a.eval c = .bool b := by
      intro b hb
      have := evs_rel (ρ := ρ) (a := a) (l := [c]) (vs := [.bool b]) (fun t v _ hv => hE.val t v hv) (by simp [evs, hb])
      obtain ⟨y, hy, hr⟩ := this.one
      simp at hy
      unfold VR at hr
      rw [hy, hr]
    have hevs : ∀ q p, ev env c = some (.bsym q p) → a.eval c = .bool (q.ev Nums.σ == p) := by
      intro q p hb
      have := evs_rel (ρ := ρ) (a := a) (l := [c]) (vs := [.bsym q p]) (fun t v _ hv => hE.val t v hv) (by simp [evs, hb])
      obtain ⟨y, hy, hr⟩ := this.one
      simp at hy
      unfold VR at hr
      rw [hy, hr]
    split at he
    · rename_i hb
      exact wp_cond_true (hev _ hb) (execL_wp hm hc hln d _ _ _ _ _ hL1 he ρ w a hE hH)
    · rename_i hb
      exact wp_cond_false (hev _ hb) (execL_wp hm hc hln e _ _ _ _ _ hL2 he ρ w a hE hH)
    · rename_i q p hb
      split at he <;> first | (cases he; done) | skip
      rename_i r hr
      have hb := hevs _ _ hb
      rw [askC_ok hr] at hb
      split at he
      · rename_i hrp
        rw [hrp] at hb
        exact wp_cond_true hb (execL_wp hm hc hln d _ _ _ _ _ hL1 he ρ w a hE hH)
      · rename_i hrp
        rw [hrp] at hb
        exact wp_cond_false hb (execL_wp hm hc hln e _ _ _ _ _ hL2 he ρ w a hE hH)
    · cases he
  | .block id c, env, h, x, env', h', hL, he, ρ, w, a, hE, hH => by
    have hL1 : ∀ q ∈ loopsOf c, q ∈ L := fun q hq => hL q (by unfold loopsOf; exact hq)
    unfold execL at he
    split at he
    · rename_i j env1 h1 hx
      refine wp_block (wp_mono (execL_wp hm hc hln c _ _ _ _ _ hL1 hx ρ w a hE hH) ?_)
      rintro e a1 w1 ⟨rfl, ρ1, hst, hE1⟩
      split at he
      · rename_i hj
        have hj := Nat.eq_of_beq_eq_true hj
        simp only [Option.some.injEq, Prod.mk.injEq] at he
        obtain ⟨rfl, rfl, rfl⟩ := he
        show (if j = id then _ else _)
        rw [if_pos hj]
        exact ⟨rfl, ρ1, hst, hE1⟩
      · rename_i hj
        simp only [Option.some.injEq, Prod.mk.injEq] at he
        obtain ⟨rfl, rfl, rfl⟩ := he
        show (if j = id then _ else _)
        rw [if_neg (fun hji => by subst hji; simp at hj)]
        exact ⟨rfl, ρ1, hst, hE1⟩
    · rename_i hno
      refine wp_block (wp_mono (execL_wp hm hc hln c _ _ _ _ _ hL1 he ρ w a hE hH) ?_)
      rintro e a1 w1 ⟨rfl, hq⟩
      cases x with
      | normal => exact ⟨rfl, hq⟩
      | exit j => exact absurd he (hno _ _ _)
      | ret => exact ⟨rfl, hq⟩
  | .loop c, env, h, x, env', h', hL, he, ρ, w, a, hE, hH => by
    have hL0 : c ∈ L := hL c (by unfold loopsOf; exact List.mem_cons_self)
    have hL1 : ∀ q ∈ loopsOf c, q ∈ L := fun q hq => hL q (by unfold loopsOf; exact List.mem_cons_of_mem _ hq)
    unfold execL lnDo at he
    split at he
    · rename_i i hi
      split at he
      · rename_i r hr
        simp only [Option.some.injEq] at he
        subst he
        obtain ⟨l, hl, hk, hat⟩ := lnAt_mem hr
        exact hln c hL0 l hl (by rw [hi, hk]) _ _ _ _ _ hat ρ w a hE hH
      · split at he
        · exact wp_loop_rounds 3 (iter_wp (fun env h x env' h' => execL_wp hm hc hln c env h x env' h' hL1) 3 _ _ _ _ _ he ρ w a hE hH)
        · exact wp_loop_rounds 100000 (iter_wp (fun env h x env' h' => execL_wp hm hc hln c env h x env' h' hL1) 100000 _ _ _ _ _ he ρ w a hE hH)
    · exact wp_loop_rounds 100000 (iter_wp (fun env h x env' h' => execL_wp hm hc hln c env h x env' h' hL1) 100000 _ _ _ _ _ he ρ w a hE hH)
  | .scope c, env, h, x, env', h', hL, he, ρ, w, a, hE, hH => by
    have hL1 : ∀ q ∈ loopsOf c, q ∈ L := fun q hq => hL q (by unfold loopsOf; exact hq)
    unfold execL at he
    refine wp_scope_straight (wp_mono (execL_wp hm hc hln c _ _ _ _ _ hL1 he ρ w a hE hH) ?_)
    rintro e a1 w1 ⟨rfl, hq⟩
    cases x <;> exact ⟨rfl, hq⟩
  | .exit id, env, h, x, env', h', _, he, ρ, w, a, hE, hH => by
    simp only [execL, Option.some.injEq, Prod.mk.injEq] at he
    obtain ⟨rfl, rfl, rfl⟩ := he
    exact wp_exit ⟨rfl, ρ, Stp.refl hH, hE⟩
  | .ret, env, h, x, env', h', _, he, ρ, w, a, hE, hH => by
    simp only [execL, Option.some.injEq, Prod.mk.injEq] at he
    obtain ⟨rfl, rfl, rfl⟩ := he
    exact wp_ret ⟨rfl, ρ, Stp.refl hH, hE⟩
  | .goto _, _, _, _, _, _, _, he, _, _, _, _, _ => by simp [execL] at he
  | .rangeFunc _ _ _ _, _, _, _, _, _, _, he, _, _, _, _, _ => by simp [execL] at he
  | .refuse _, _, _, _, _, _, _, he, _, _, _, _, _ => by simp [execL] at he
end
end Go.Proofs.YthjjpmoifgcepaaGreat.Ex

/-
  The runner: a loop of which each round is of one form; a call, question by question. No condition.
-/
namespace Go.Proofs.YthjjpmoifgcepaaGreat.Ex
open Go
/-- a world behind another one, of which the named blocks may have turned -/
structure Frm (ρ0 : Ren) (g0 : Nat → Option AO) (w0 : World) (ρ : Ren) (g : Nat → Option AO) (w : World) : Prop where
  os : w.os = w0.os
  tape : w.tape = w0.tape
  output : w.output = w0.output
  size : w0.heap.size ≤ w.heap.size
  block : ∀ b, b < w0.heap.size → (∀ n s, (g0 n).isSome = true → ρ0 n ≠ some (b, s)) → w.heap[b]? = w0.heap[b]?
  live : ∀ n b s, (g n).isSome = true → ρ n = some (b, s) → w0.heap.size ≤ b ∨ ∃ m s', (g0 m).isSome = true ∧ ρ0 m = some (b, s')
theorem Frm.refl (ρ : Ren) (g : Nat → Option AO) (w : World) : Frm ρ g w ρ g w :=
  ⟨rfl, rfl, rfl, Nat.le_refl _, fun _ _ _ => rfl, fun n b s h1 h2 => .inr ⟨n, s, h1, h2⟩⟩
theorem Frm.step {ρ0 ρ ρ' : Ren} {g0 g g' : Nat → Option AO} {w0 w w' : World} {nx nx' : Nat} {N : Nums} (h : Frm ρ0 g0 w0 ρ g w) (k : @Stp N ρ g nx w ρ' g' nx' w') : Frm ρ0 g0 w0 ρ' g' w' := by
  refine ⟨(@Stp.os N _ _ _ _ _ _ _ _ k).trans h.os, (@Stp.tape N _ _ _ _ _ _ _ _ k).trans h.tape, (@Stp.output N _ _ _ _ _ _ _ _ k).trans h.output, Nat.le_trans h.size (@Stp.size N _ _ _ _ _ _ _ _ k), fun b hb hl => ?_, fun n b s hn hp => ?_⟩
  · refine (@Stp.block N _ _ _ _ _ _ _ _ k b (Nat.lt_of_lt_of_le hb h.size) fun n s hn hp => ?_).trans (h.block b hb hl)
    rcases h.live n b s hn hp with h1 | ⟨m, s', h1, h2⟩
    · omega
    · exact hl m s' h1 h2
  · rcases @Stp.live N _ _ _ _ _ _ _ _ k n b s hn hp with h1 | ⟨m, s', h1, h2⟩
    · exact .inl (Nat.le_trans h.size h1)
    · exact h.live m b s' h1 h2
theorem Frm.re {ρ0 ρ : Ren} {g0 g : Nat → Option AO} {w0 w : World} (h : Frm ρ0 g0 w0 ρ g w) {t : Tm} {θ : Sub} (hd : ∀ n, (t.h.get n).isSome = true → n < t.b.kn ∧ (g (θ.nAt n)).isSome = true) : Frm ρ0 g0 w0 (reN t θ ρ) t.h.get w := by
  refine ⟨h.os, h.tape, h.output, h.size, h.block, fun n b s hn hp => ?_⟩
  obtain ⟨h1, h2⟩ := hd n hn
  simp only [reN, if_pos h1] at hp
  exact h.live _ b s h2 hp
/-! names that are the same -/
section
variable {N : Nums} {ρ ρ' : Ren} {p : Nat → Bool}
mutual
theorem VR.names (hp : ∀ n, p n = true → ρ' n = ρ n) : ∀ {v : AV} {x : Value}, AV.nm p v = true → @VR N ρ v x → @VR N ρ' v x
  | .ptr n _, x, hb, h => by
    unfold VR at h ⊢
    unfold AV.nm at hb
    rw [hp n hb]; exact h
  | .eptr n _ _ _, x, hb, h => by
    unfold VR at h ⊢
    unfold AV.nm at hb
    rw [hp n hb]; exact h
  | .dsl n _ _, x, hb, h => by
    unfold VR at h ⊢
    unfold AV.nm at hb
    rw [hp n hb]; exact h
  | .ssl n _ _ _, x, hb, h => by
    unfold VR at h ⊢
    unfold AV.nm at hb
    rw [hp n hb]; exact h
  | .sl n _ _ _ _, x, hb, h => by
    unfold VR at h ⊢
    unfold AV.nm at hb
    rw [hp n hb]; exact h
  | .map n, x, hb, h => by
    unfold VR at h ⊢
    unfold AV.nm at hb
    rw [hp n hb]; exact h
  | .fn f a b, x, hb, h => by
    unfold VR at h ⊢
    simp only [AV.nm, Bool.and_eq_true] at hb
    obtain ⟨q, r, h1, h2, h3⟩ := h
    exact ⟨q, r, h1, VRs.names hp hb.1 h2, VRs.names hp hb.2 h3⟩
  | .ifc t v, x, hb, h => by
    unfold VR at h ⊢
    unfold AV.nm at hb
    obtain ⟨y, h1, h2⟩ := h
    exact ⟨y, h1, VR.names hp hb h2⟩
  | .agg l, x, hb, h => by
    unfold VR at h ⊢
    unfold AV.nm at hb
    obtain ⟨y, h1, h2⟩ := h
    exact ⟨y, h1, VRs.names hp hb h2⟩
  | .tup l, x, hb, h => by
    unfold VR at h ⊢
    unfold AV.nm at hb
    obtain ⟨y, h1, h2⟩ := h
    exact ⟨y, h1, VRs.names hp hb h2⟩
  | .sym _ _, x, _, h => by unfold VR at h ⊢; exact h
  | .bsym _ _, x, _, h => by unfold VR at h ⊢; exact h
  | .rptr _ _, x, _, h => by unfold VR at h ⊢; exact h
  | .bool _, x, _, h => by unfold VR at h ⊢; exact h
  | .int _ _, x, _, h => by unfold VR at h ⊢; exact h
  | .str _, x, _, h => by unfold VR at h ⊢; exact h
  | .nilp, x, _, h => by unfold VR at h ⊢; exact h
  | .gptr _ _, x, _, h => by unfold VR at h ⊢; exact h
  | .nilsl, x, _, h => by unfold VR at h ⊢; exact h
  | .esl _, x, _, h => by unfold VR at h ⊢; exact h
  | .zsl, x, _, h => by unfold VR at h ⊢; exact h
  | .osl _, x, _, h => by unfold VR at h ⊢; exact h
  | .rsl _, x, _, h => by unfold VR at h ⊢; exact h
  | .nilmap, x, _, h => by unfold VR at h ⊢; exact h
  | .nilfn, x, _, h => by unfold VR at h ⊢; exact h
  | .nilif, x, _, h => by unfold VR at h ⊢; exact h
theorem VRs.names (hp : ∀ n, p n = true → ρ' n = ρ n) : ∀ {l : List AV} {m : List Value}, AV.nms p l = true → @VRs N ρ l m → @VRs N ρ' l m
  | [], m, _, h => by unfold VRs at h ⊢; exact h
  | v :: l, m, hb, h => by
    unfold VRs at h ⊢
    simp only [AV.nms, Bool.and_eq_true] at hb
    obtain ⟨y, ys, h1, h2, h3⟩ := h
    exact ⟨y, ys, h1, VR.names hp hb.1 h2, VRs.names hp hb.2 h3⟩
end
end
theorem nms_get {p : Nat → Bool} : ∀ {l : List AV} {i : Nat} {v : AV}, AV.nms p l = true → l[i]? = some v → AV.nm p v = true
  | [], _, _, _, h => by simp at h
  | a :: l, i, v, hb, h => by
    simp only [AV.nms, Bool.and_eq_true] at hb
    cases i with
    | zero => simp only [List.getElem?_cons_zero, Option.some.injEq] at h; rw [← h]; exact hb.1
    | succ i => exact nms_get (i := i) hb.2 (by simpa using h)
theorem nmE_mem {p : Nat → Bool} : ∀ {l : List (Nat × AV)}, nmE p l = true → ∀ q ∈ l, AV.nm p q.2 = true
  | [], _, _, h => by cases h
  | (t, v) :: l, hb, q, h => by
    simp only [nmE, Bool.and_eq_true] at hb
    rcases List.mem_cons.1 h with rfl | h
    · exact hb.1
    · exact nmE_mem hb.2 q h
theorem nmH_mem {p : Nat → Bool} : ∀ {l : List (Nat × TB)}, nmH p l = true → ∀ q ∈ l, TB.nm p q.2 = true
  | [], _, _, h => by cases h
  | (t, v) :: l, hb, q, h => by
    simp only [nmH, Bool.and_eq_true] at hb
    rcases List.mem_cons.1 h with rfl | h
    · exact hb.1
    · exact nmH_mem hb.2 q h
theorem hasN_mem {n : Nat} : ∀ {l : List (Nat × TB)}, hasN n l = true → ∃ o, (n, o) ∈ l
  | [], h => by cases h
  | (m, o) :: l, h => by
    unfold hasN at h
    split at h
    · rename_i hb
      have hb := Nat.eq_of_beq_eq_true hb
      subst hb
      exact ⟨o, List.mem_cons_self⟩
    · obtain ⟨o', h'⟩ := hasN_mem h
      exact ⟨o', List.mem_cons_of_mem _ h'⟩
theorem postNames_mem {nx : Nat} {h : AH} : ∀ {l : List (Nat × TB)}, postNames nx h l = true → ∀ q ∈ l, (q.1 < nx ∧ (h.get q.1).isSome = true) ∨ (nx ≤ q.1 ∧ h.next ≤ q.1)
  | [], _, _, h => by cases h
  | (n, o) :: l, hb, q, hq => by
    simp only [postNames, Bool.and_eq_true] at hb
    rcases List.mem_cons.1 hq with rfl | hq
    · have h1 := hb.1
      split at h1
      · rename_i hlt
        exact .inl ⟨by simpa using hlt, h1⟩
      · rename_i hlt
        have : ¬ n < nx := blt_no hlt
        exact .inr ⟨by omega, Nat.le_of_ble_eq_true h1⟩
    · exact postNames_mem hb.2 q hq
theorem keeps_mem {nx : Nat} {θ : Sub} : ∀ {l : List (Nat × TB)}, keeps nx θ l = true → ∀ q ∈ l, q.1 < nx → θ.nAt q.1 = q.1
  | [], _, _, h => by cases h
  | (n, o) :: l, hb, q, hq => by
    simp only [keeps, Bool.and_eq_true] at hb
    rcases List.mem_cons.1 hq with rfl | hq
    · intro hlt
      have h1 := hb.1
      split at h1
      · exact Nat.eq_of_beq_eq_true h1
      · rename_i hn
        exact absurd hlt (blt_no hn)
    · exact keeps_mem hb.2 q hq
theorem heapT_some : ∀ {l : List (Nat × TB)} {n : Nat}, ((heapT l).get n).isSome = true → ∃ o, (n, o) ∈ l := fun {l n} h => by
  obtain ⟨o, ho⟩ := Option.isSome_iff_exists.1 h
  obtain ⟨t, h1, _⟩ := heapT_get ho
  exact ⟨t, h1⟩
/-! readings of numbers -/
structure AgreeD (θ : Sub) (B : Bd) (ro : Nat → Option (Option Addr × Nat × Nat)) (σ1 : Nat → Int) (Ω1 : Nat → Nat → Nat → Obj → Prop) (σ2 : Nat → Int) (Ω2 : Nat → Nat → Nat → Obj → Prop) : Prop where
  v : ∀ i, i < B.k → σ2 i = (θ.vAt i).ev σ1
  ln : ∀ i, i < B.kl → (σ2 (ln i)).toNat = (θ.lAt i).evN σ1
  la : ∀ i, i < B.kl → ∀ e j, j < 64 → σ2 (lc i e j) = (θ.lAt i).evA σ1 e j
  o : ∀ i, i < B.ko → ∀ b0 b1 x, Ω1 (θ.oAt i) b0 b1 x → Ω2 i b0 b1 x
  rol : ∀ i p, ro i = some p → (σ2 (Ex.ln i)).toNat = (σ1 (Ex.ln i)).toNat ∧ ∀ e, σ2 (lc i e 0) = σ1 (lc i e 0)
section
variable {P : Program} (gs : List (Nat × List Int)) (rks : List (Nat × CK)) (ro : Nat → Option (Option Addr × Nat × Nat))
/-- a reading of numbers, with what is known of them -/
@[reducible] def nums (σ : Nat → Int) (Ω : Nat → Nat → Nat → Obj → Prop) (fs : List (Cnd × Bool)) (ok : ∀ f ∈ fs, f.1.ev σ = f.2) : Nums := { facts := fs, globs := gs, rks := rks, σ := σ, Ω := Ω, ro := ro, ok := ok }
theorem AgreeD.agree {θ : Sub} {B : Bd} {σ1 σ2 : Nat → Int} {Ω1 Ω2 : Nat → Nat → Nat → Obj → Prop} (h : AgreeD θ B ro σ1 Ω1 σ2 Ω2) {f1 f2 : List (Cnd × Bool)} (k1 : ∀ f ∈ f1, f.1.ev σ1 = f.2) (k2 : ∀ f ∈ f2, f.1.ev σ2 = f.2) :
    Agree θ B (nums gs rks ro σ1 Ω1 f1 k1) (nums gs rks ro σ2 Ω2 f2 k2) :=
  ⟨h.v, h.ln, h.la, h.o, rfl, rfl, rfl, h.rol⟩
/-- known calls, whatever is known of numbers -/
def KcAll (P : Program) (σ : Nat → Int) (Ω : Nat → Nat → Nat → Obj → Prop) (kcs : Kg) : Prop := ∀ fs (ok : ∀ f ∈ fs, f.1.ev σ = f.2), ∀ args, ∀ k ∈ kcs args, @KcOk (nums gs rks ro σ Ω fs ok) P k
/-- known loops of a function -/
def LnAll (P : Program) (f : FuncId) (σ : Nat → Int) (Ω : Nat → Nat → Nat → Obj → Prop) (lns : List Ln) : Prop := ∀ fs (ok : ∀ f ∈ fs, f.1.ev σ = f.2), ∀ c ∈ loopsOf (bodyOf P f), ∀ l ∈ lns, loopId c = some l.key → @LnOk (nums gs rks ro σ Ω fs ok) P (ntOf P f) c l
section
variable {gs : List (Nat × List Int)} {rks : List (Nat × CK)} {ro : Nat → Option (Option Addr × Nat × Nat)} {σ : Nat → Int} {Ω : Nat → Nat → Nat → Obj → Prop} {f1 f2 : List (Cnd × Bool)} {k1 : ∀ f ∈ f1, f.1.ev σ = f.2} {k2 : ∀ f ∈ f2, f.1.ev σ = f.2} {ρ : Ren}
mutual
theorem VR.fac : ∀ {v : AV} {x : Value}, @VR (nums gs rks ro σ Ω f1 k1) ρ v x → @VR (nums gs rks ro σ Ω f2 k2) ρ v x
  | .fn f a b, x, h => by
    unfold VR at h ⊢
    obtain ⟨q, r, h1, h2, h3⟩ := h
    exact ⟨q, r, h1, VRs.fac h2, VRs.fac h3⟩
  | .ifc t v, x, h => by
    unfold VR at h ⊢
    obtain ⟨y, h1, h2⟩ := h
    exact ⟨y, h1, VR.fac h2⟩
  | .agg l, x, h => by
    unfold VR at h ⊢
    obtain ⟨y, h1, h2⟩ := h
    exact ⟨y, h1, VRs.fac h2⟩
  | .tup l, x, h => by
    unfold VR at h ⊢
    obtain ⟨y, h1, h2⟩ := h
    exact ⟨y, h1, VRs.fac h2⟩
  | .ptr n _, x, h => by unfold VR at h ⊢; exact h
  | .eptr n _ _ _, x, h => by unfold VR at h ⊢; exact h
  | .dsl n _ _, x, h => by unfold VR at h ⊢; exact h
  | .ssl n _ _ _, x, h => by unfold VR at h ⊢; exact h
  | .sl n _ _ _ _, x, h => by unfold VR at h ⊢; exact h
  | .map n, x, h => by unfold VR at h ⊢; exact h
  | .sym _ _, x, h => by unfold VR at h ⊢; exact h
  | .bsym _ _, x, h => by unfold VR at h ⊢; exact h
  | .rptr _ _, x, h => by unfold VR at h ⊢; exact h
  | .bool _, x, h => by unfold VR at h ⊢; exact h
  | .int _ _, x, h => by unfold VR at h ⊢; exact h
  | .str _, x, h => by unfold VR at h ⊢; exact h
  | .nilp, x, h => by unfold VR at h ⊢; exact h
  | .gptr _ _, x, h => by unfold VR at h ⊢; exact h
  | .nilsl, x, h => by unfold VR at h ⊢; exact h
  | .esl _, x, h => by unfold VR at h ⊢; exact h
  | .zsl, x, h => by unfold VR at h ⊢; exact h
  | .osl _, x, h => by unfold VR at h ⊢; exact h
  | .rsl _, x, h => by unfold VR at h ⊢; exact h
  | .nilmap, x, h => by unfold VR at h ⊢; exact h
  | .nilfn, x, h => by unfold VR at h ⊢; exact h
  | .nilif, x, h => by unfold VR at h ⊢; exact h
theorem VRs.fac : ∀ {l : List AV} {m : List Value}, @VRs (nums gs rks ro σ Ω f1 k1) ρ l m → @VRs (nums gs rks ro σ Ω f2 k2) ρ l m
  | [], m, h => by unfold VRs at h ⊢; exact h
  | v :: l, m, h => by
    unfold VRs at h ⊢
    obtain ⟨y, ys, h1, h2, h3⟩ := h
    exact ⟨y, ys, h1, VR.fac h2, VRs.fac h3⟩
end
theorem MR.fac : ∀ {l : List (AV × AV)} {m : List MapEntry}, @MR (nums gs rks ro σ Ω f1 k1) ρ l m → @MR (nums gs rks ro σ Ω f2 k2) ρ l m
  | [], m, h => h
  | p :: l, m, h => by
    obtain ⟨e, es, h1, h2, h3, h4⟩ := h
    exact ⟨e, es, h1, VR.fac h2, VR.fac h3, MR.fac h4⟩
theorem OR.fac {o : AO} {s : Nat} {x : Option Obj} (h : @OR (nums gs rks ro σ Ω f1 k1) ρ o s x) : @OR (nums gs rks ro σ Ω f2 k2) ρ o s x := by
  cases o with
  | cells cs k e =>
    obtain ⟨cur, h1, h2, h3, h4⟩ := h
    exact ⟨cur, h1, h2, h3, fun i v hv => by
      obtain ⟨ho, y, hy, hr⟩ := h4 i v hv
      exact ⟨ho, y, hy, VR.fac hr⟩⟩
  | map es bs ck =>
    obtain ⟨xs, h1, h2, h3⟩ := h
    exact ⟨xs, h1, MR.fac h2, h3⟩
  | mit m since seen last =>
    cases m with
    | none => exact h
    | some m => exact h
  | opq i => exact h
  | opb i n m => exact h
  | recs l ks e => exact h
theorem TR.fac {t : TB} {s : Nat} {x : Option Obj} (h : @TR (nums gs rks ro σ Ω f1 k1) ρ t s x) : @TR (nums gs rks ro σ Ω f2 k2) ρ t s x := by
  cases t with
  | cells l e =>
    obtain ⟨cur, h1, h2, h3, h4⟩ := h
    exact ⟨cur, h1, h2, h3, fun i v hv => by
      obtain ⟨ho, y, hy, hr⟩ := h4 i v hv
      exact ⟨ho, y, hy, VR.fac hr⟩⟩
  | recs l ks e => exact h
  | opb i n m => exact h
theorem ER.fac {env : T AV} {nt : Nat} {a : Act} (h : @ER (nums gs rks ro σ Ω f1 k1) ρ env nt a) : @ER (nums gs rks ro σ Ω f2 k2) ρ env nt a := by
  have h1 := @ER.dz (nums gs rks ro σ Ω f1 k1) _ _ _ _ h
  have h2 := @ER.size (nums gs rks ro σ Ω f1 k1) _ _ _ _ h
  have h3 := @ER.val (nums gs rks ro σ Ω f1 k1) _ _ _ _ h
  refine @ER.mk (nums gs rks ro σ Ω f2 k2) _ _ _ _ h1 h2 fun t v hv => ?_
  obtain ⟨x, hx, hr⟩ := h3 t v hv
  exact ⟨x, hx, VR.fac hr⟩
theorem HR.fac {g : Nat → Option AO} {nx : Nat} {w : World} (h : @HR (nums gs rks ro σ Ω f1 k1) ρ g nx w) : @HR (nums gs rks ro σ Ω f2 k2) ρ g nx w := by
  have h1 := @HR.fresh (nums gs rks ro σ Ω f1 k1) _ _ _ _ h
  have h2 := @HR.obj (nums gs rks ro σ Ω f1 k1) _ _ _ _ h
  have h3 := @HR.inj (nums gs rks ro σ Ω f1 k1) _ _ _ _ h
  have h4 := @HR.gl (nums gs rks ro σ Ω f1 k1) _ _ _ _ h
  have h5 := @HR.gn (nums gs rks ro σ Ω f1 k1) _ _ _ _ h
  have h6 := @HR.rl (nums gs rks ro σ Ω f1 k1) _ _ _ _ h
  have h7 := @HR.rn (nums gs rks ro σ Ω f1 k1) _ _ _ _ h
  refine @HR.mk (nums gs rks ro σ Ω f2 k2) _ _ _ _ h1 (fun n o ho => ?_) h3 h4 h5 h6 h7
  obtain ⟨b, s, hp, hO⟩ := h2 n o ho
  exact ⟨b, s, hp, OR.fac hO⟩
end
/-- where questions lead -/
def RunL (σ : Nat → Int) (K : LO → Prop) : LT → Prop
  | .leaf o => K o
  | .bad => False
  | .node c t e => (c.ev σ = true → RunL σ K t) ∧ (c.ev σ = false → RunL σ K e)
def RunC (σ : Nat → Int) (K : AV → List (Nat × TB) → Prop) : CT → Prop
  | .is v p => K v p
  | .bad => False
  | .node c t e => (c.ev σ = true → RunC σ K t) ∧ (c.ev σ = false → RunC σ K e)
theorem cons_ok {σ : Nat → Int} {fs : List (Cnd × Bool)} (ok : ∀ f ∈ fs, f.1.ev σ = f.2) {c : Cnd} {b : Bool} (h : c.ev σ = b) : ∀ f ∈ (c, b) :: fs, f.1.ev σ = f.2 := fun f hf => by
  rcases List.mem_cons.1 hf with rfl | hf
  · exact h
  · exact ok f hf
/-- what a round comes to -/
def Round (N : Nums) (x : AX) (t post : Tm) (nx nt : Nat) (ρ : Ren) (w : World) (o : LO) (e : Exit) (a' : Act) (w' : World) : Prop :=
  ∃ env' h' ρ', @Stp N ρ t.h.get t.h.next w ρ' h'.get h'.next w' ∧ @ER N ρ' env' nt a' ∧ match o with
    | .cont θ => e = .normal ∧ @Tm.fits N.toFc t θ env' h' = true ∧ keeps nx θ t.heap = true
    | .out θ => e = exitOf x ∧ @Tm.fits N.toFc post θ env' h' = true ∧ keeps nx θ post.heap = true
theorem treeL_wp (hm : P.follows .mixedOrders = true) {f : FuncId} {σ : Nat → Int} {Ω : Nat → Nat → Nat → Obj → Prop} {kcs : Kg} {lns : List Ln} (hk : KcAll gs rks ro P σ Ω kcs) (hl : LnAll gs rks ro P f σ Ω lns) {n nx : Nat} {c : Code} (hc : ∀ d ∈ loopsOf c, d ∈ loopsOf (bodyOf P f)) {t post : Tm} {x : AX} {K : LO → Prop} {ρ : Ren} {w : World} {a : Act} :
    ∀ (d : LT) (fs : List (Cnd × Bool)) (ok : ∀ f ∈ fs, f.1.ev σ = f.2), treeL P gs rks kcs lns n (ntOf P f) nx c t x post d fs = true → RunL σ K d →
    @ER (nums gs rks ro σ Ω fs ok) ρ (envT t.env) (ntOf P f) a → @HR (nums gs rks ro σ Ω fs ok) ρ t.h.get t.h.next w →
    c.wp P (fun e a' w' => ∃ fs' ok' o, K o ∧ Round (nums gs rks ro σ Ω fs' ok') x t post nx (ntOf P f) ρ w o e a' w') a w
  | .leaf o, fs, ok, h, hK, hE, hH => by
    unfold treeL at h
    letI N : Nums := nums gs rks ro σ Ω fs ok
    cases o with
    | cont θ =>
      dsimp only at h
      generalize hx : @execL N.toFc P (@callK N.toFc P (fun _ => kcs) n) (ntOf P f) lns c (envT t.env) t.h = r at h
      cases r with
      | none => cases h
      | some r =>
        obtain ⟨x', env', h'⟩ := r
        dsimp only at h
        rw [Bool.and_eq_true, Bool.and_eq_true] at h
        obtain ⟨h1, h2, h3⟩ := h
        have h1 : x' = .normal := by cases x' <;> simp [axEq] at h1; rfl
        subst h1
        refine wp_mono (execL_wp hm (callK_sound hm (fun _ => hk fs ok) n) (hl fs ok) c _ _ _ _ _ hc hx ρ w a hE hH) ?_
        rintro e a1 w1 ⟨rfl, ρ1, hst, hE1⟩
        exact ⟨fs, ok, .cont θ, hK, env', h', ρ1, hst, hE1, rfl, h2, h3⟩
    | out θ =>
      dsimp only at h
      generalize hx : @execL N.toFc P (@callK N.toFc P (fun _ => kcs) n) (ntOf P f) lns c (envT t.env) t.h = r at h
      cases r with
      | none => cases h
      | some r =>
        obtain ⟨x', env', h'⟩ := r
        dsimp only at h
        rw [Bool.and_eq_true, Bool.and_eq_true] at h
        obtain ⟨h1, h2, h3⟩ := h
        have h1 : x' = x := by
          cases x' <;> cases x <;> simp [axEq] at h1 <;> first | rfl | rw [h1]
        subst h1
        refine wp_mono (execL_wp hm (callK_sound hm (fun _ => hk fs ok) n) (hl fs ok) c _ _ _ _ _ hc hx ρ w a hE hH) ?_
        rintro e a1 w1 ⟨rfl, ρ1, hst, hE1⟩
        exact ⟨fs, ok, .out θ, hK, env', h', ρ1, hst, hE1, rfl, h2, h3⟩
  | .bad, _, _, _, hK, _, _ => hK.elim
  | .node q d e, fs, ok, h, hK, hE, hH => by
    unfold treeL at h
    split at h <;> first | (cases h; done) | skip
    rename_i h1
    cases hq : q.ev σ with
    | true => exact treeL_wp hm hk hl hc d ((q, true) :: fs) (cons_ok ok hq) h1 (hK.1 hq) (ER.fac hE) (HR.fac hH)
    | false => exact treeL_wp hm hk hl hc e ((q, false) :: fs) (cons_ok ok hq) h (hK.2 hq) (ER.fac hE) (HR.fac hH)
omit gs rks ro in
theorem countL_zero {i : Nat} : ∀ {L : List Code}, countL i L = 0 → ∀ c ∈ L, loopId c ≠ some i
  | [], _, _, h => by cases h
  | d :: L, hz, c, h => by
    unfold countL at hz
    split at hz
    · rename_i j hj
      split at hz
      · cases hz
      · rename_i hb
        rcases List.mem_cons.1 h with rfl | h
        · rw [hj]
          intro he
          cases he
          rw [Nat.beq_refl] at hb
          cases hb
        · exact countL_zero hz c h
    · rename_i hj
      rcases List.mem_cons.1 h with rfl | h
      · rw [hj]
        intro he
        cases he
      · exact countL_zero hz c h
omit gs rks ro in
theorem pickL_one {i : Nat} : ∀ {L : List Code}, countL i L = 1 → ∀ c ∈ L, loopId c = some i → pickL i L = some c
  | [], _, _, h, _ => by cases h
  | d :: L, hz, c, h, hc => by
    unfold countL at hz
    unfold pickL
    split at hz
    · rename_i j hj
      split at hz
      · rename_i hb
        have hz : countL i L = 0 := by
          have : countL i L + 1 = 1 := hz
          omega
        rcases List.mem_cons.1 h with rfl | h
        · rfl
        · exact absurd hc (countL_zero hz c h)
      · rename_i hb
        rcases List.mem_cons.1 h with rfl | h
        · rw [hj] at hc
          cases hc
          rw [Nat.beq_refl] at hb
          cases hb
        · exact pickL_one hz c h hc
    · rename_i hj
      rcases List.mem_cons.1 h with rfl | h
      · rw [hj] at hc
        cases hc
      · exact pickL_one hz c h hc
omit gs rks ro in
theorem loops_sub : ∀ {c d e : Code}, d ∈ loopsOf c → e ∈ loopsOf d → e ∈ loopsOf c
  | .seq a b, d, e, h, he => by
    unfold loopsOf at h ⊢
    rcases List.mem_append.1 h with h | h
    · exact List.mem_append_left _ (loops_sub h he)
    · exact List.mem_append_right _ (loops_sub h he)
  | .cond _ a b, d, e, h, he => by
    unfold loopsOf at h ⊢
    rcases List.mem_append.1 h with h | h
    · exact List.mem_append_left _ (loops_sub h he)
    · exact List.mem_append_right _ (loops_sub h he)
  | .block _ c, d, e, h, he => by
    unfold loopsOf at h ⊢
    exact loops_sub h he
  | .scope c, d, e, h, he => by
    unfold loopsOf at h ⊢
    exact loops_sub h he
  | .loop c, d, e, h, he => by
    unfold loopsOf at h ⊢
    rcases List.mem_cons.1 h with rfl | h
    · exact List.mem_cons_of_mem _ he
    · exact List.mem_cons_of_mem _ (loops_sub h he)
  | .skip, _, _, h, _ => by simp [loopsOf] at h
  | .region _ _ _, _, _, h, _ => by simp [loopsOf] at h
  | .exit _, _, _, h, _ => by simp [loopsOf] at h
  | .label _, _, _, h, _ => by simp [loopsOf] at h
  | .goto _, _, _, h, _ => by simp [loopsOf] at h
  | .ret, _, _, h, _ => by simp [loopsOf] at h
  | .refuse _, _, _, h, _ => by simp [loopsOf] at h
  | .rangeFunc _ _ _ _, _, _, h, _ => by simp [loopsOf] at h
/-- A KNOWN LOOP, round by round; of each state its own tree, facts, known calls, known loops -/
theorem ln_okS (hm : P.follows .mixedOrders = true) {f : FuncId} {ι : Type} {kcs : ι → Kg} {lns : ι → List Ln} {n : Nat} {l : Ln} {dt : ι → LT} {fs0 : ι → List (Cnd × Bool)} {σ0 : Nat → Int} {Ω0 : Nat → Nat → Nat → Obj → Prop}
    (Inv : ι → Prop) (h0 : ∀ s, Inv s → treeL P gs rks (kcs s) (lns s) n (ntOf P f) l.nx (loopOf P f l.key) l.t l.x l.post (dt s) (fs0 s) = true) (hone : countL l.key (loopsOf (bodyOf P f)) = 1) (hth : keeps l.nx l.th l.t.heap = true) (hx : axEq l.x .normal = false) (hnx : Nat.ble l.nx l.t.b.kn = true)
    (μ : ι → Nat) (σ : ι → Nat → Int) (Ω : ι → Nat → Nat → Nat → Obj → Prop)
    (hfs : ∀ s, Inv s → ∀ q ∈ fs0 s, q.1.ev (σ s) = q.2) (hk : ∀ s, Inv s → KcAll gs rks ro P (σ s) (Ω s) (kcs s)) (hl : ∀ s, Inv s → LnAll gs rks ro P f (σ s) (Ω s) (lns s))
    (s0 : ι) (hs0 : Inv s0) (hag : AgreeD l.th l.t.b ro σ0 Ω0 (σ s0) (Ω s0))
    (hstep : ∀ s, Inv s → RunL (σ s) (fun o => match o with
      | .cont θ => ∃ s', Inv s' ∧ μ s' < μ s ∧ AgreeD θ l.t.b ro (σ s) (Ω s) (σ s') (Ω s')
      | .out θ => AgreeD θ l.post.b ro (σ s) (Ω s) σ0 Ω0) (dt s))
    (fs : List (Cnd × Bool)) (ok : ∀ q ∈ fs, q.1.ev σ0 = q.2) (c : Code) (hcm : c ∈ loopsOf (bodyOf P f)) (hck : loopId c = some l.key) : @LnOk (nums gs rks ro σ0 Ω0 fs ok) P (ntOf P f) c l := by
  intro env h x env' h' hat ρ w a hE hH
  unfold Ln.at at hat
  split at hat <;> first | (cases hat; done) | skip
  rename_i hfit
  split at hat <;> first | (cases hat; done) | skip
  rename_i hpost
  simp only [Option.some.injEq, Prod.mk.injEq] at hat
  obtain ⟨rfl, rfl, rfl⟩ := hat
  rw [Bool.and_eq_true, Bool.and_eq_true, Bool.and_eq_true, Bool.and_eq_true, Bool.and_eq_true] at hpost
  obtain ⟨⟨hpok, hnxh⟩, ⟨hnk, hpn⟩, hnE, hnH⟩ := hpost
  have hnxh := Nat.le_of_ble_eq_true hnxh
  have hnk := Nat.le_of_ble_eq_true hnk
  have hnx := Nat.le_of_ble_eq_true hnx
  have hpn := postNames_mem hpn
  have hcc : c = loopOf P f l.key := by
    unfold loopOf
    rw [pickL_one hone c hcm hck]
  subst hcc
  have hsub : ∀ d ∈ loopsOf (loopOf P f l.key), d ∈ loopsOf (bodyOf P f) := fun d hd => loops_sub hcm hd
  have htn : l.t.h.next = l.t.b.kn := rfl
  have hps : ∀ q, (l.post.h.get q).isSome = true → ∃ o, (q, o) ∈ l.post.heap := fun q hq => heapT_some hq
  -- what is to be shown when it ends
  have fin : ∀ (s : ι) (hs : Inv s) (θ : Sub), AgreeD θ l.post.b ro (σ s) (Ω s) σ0 Ω0 → ∀ (fs' : List (Cnd × Bool)) (ok' : ∀ q ∈ fs', q.1.ev (σ s) = q.2) (env1 : T AV) (h1 : AH) (ρs ρ1 : Ren) (w1 w2 : World) (a2 : Act),
      @Stp (nums gs rks ro (σ s) (Ω s) fs' ok') ρs l.t.h.get l.t.h.next w1 ρ1 h1.get h1.next w2 → @ER (nums gs rks ro (σ s) (Ω s) fs' ok') ρ1 env1 (ntOf P f) a2 → @Tm.fits (nums gs rks ro (σ s) (Ω s) fs' ok').toFc l.post θ env1 h1 = true → keeps l.nx θ l.post.heap = true →
      Frm ρ h.get w ρs l.t.h.get w1 → (∀ q, q < l.nx → (l.t.h.get q).isSome = true → ρs q = ρ q) → @PostX (nums gs rks ro σ0 Ω0 fs ok) (ntOf P f) ρ h w l.x (envT l.post.env) l.post.h (exitOf l.x) a2 w2 := by
    intro s hs θ hagθ fs' ok' env1 h1 ρs ρ1 w1 w2 a2 hst hE1 hfit1 hkp hfr hst0
    obtain ⟨hE2, hH2, hd2⟩ := Tm.re hfit1 (hagθ.agree gs rks ro ok' ok) hE1 (@Stp.hr (nums gs rks ro (σ s) (Ω s) fs' ok') _ _ _ _ _ _ _ _ hst)
    have hfr2 := (hfr.step hst).re hd2
    let r := reN l.post θ ρ1
    let ρ' : Ren := fun q => if q < h.next then ρ q else r q
    have hkp := keeps_mem hkp
    -- names of the form are the same
    have hsame : ∀ q, okN l.post.heap h.next q = true → ρ' q = r q := by
      intro q hq
      by_cases hlt : q < h.next
      · have : ∃ o, (q, o) ∈ l.post.heap := by
          unfold okN at hq
          split at hq
          · rename_i hle
            have := Nat.le_of_ble_eq_true hle
            omega
          · exact hasN_mem hq
        obtain ⟨o, ho⟩ := this
        have hqx : q < l.nx := by
          rcases hpn _ ho with ⟨h1, _⟩ | ⟨_, h2⟩
          · exact h1
          · have : h.next ≤ q := h2
            omega
        have hθ : θ.nAt q = q := hkp _ ho hqx
        have hbd : q < l.post.b.kn := by omega
        have hsome : (h1.get q).isSome = true := by
          have hfit2 := hfit1
          unfold Tm.fits at hfit2
          rw [Bool.and_eq_true, Bool.and_eq_true] at hfit2
          obtain ⟨u, hu, _⟩ := (@fitH_mem (nums gs rks ro (σ s) (Ω s) fs' ok').toFc _ _ _ hfit2.2.2).1 _ ho
          rw [hθ] at hu
          rw [hu]; rfl
        have hts : (l.t.h.get q).isSome = true := @Stp.dom (nums gs rks ro (σ s) (Ω s) fs' ok') _ _ _ _ _ _ _ _ hst q (by omega) hsome
        have hext := @Stp.ext (nums gs rks ro (σ s) (Ω s) fs' ok') _ _ _ _ _ _ _ _ hst q (by omega)
        show (if q < h.next then ρ q else r q) = r q
        rw [if_pos hlt]
        show ρ q = reN l.post θ ρ1 q
        simp only [reN, if_pos hbd, hθ, hext]
        exact (hst0 q hqx hts).symm
      · show (if q < h.next then ρ q else r q) = r q
        rw [if_neg hlt]
    have hheap : ∀ q, (l.post.h.get q).isSome = true → ρ' q = r q := fun q hq => by
      obtain ⟨o, ho⟩ := hps q hq
      refine hsame q ?_
      unfold okN
      split
      · rfl
      · have : ∀ {L : List (Nat × TB)}, (q, o) ∈ L → hasN q L = true := by
          intro L
          induction L with
          | nil => intro hm; cases hm
          | cons p L ih =>
            intro hm
            obtain ⟨m, o'⟩ := p
            unfold hasN
            split
            · rfl
            · rename_i hb
              rcases List.mem_cons.1 hm with he | hm
              · cases he
                rw [Nat.beq_refl] at hb
                cases hb
              · exact ih hm
        exact this ho
    letI N0 : Nums := nums gs rks ro σ0 Ω0 fs ok
    have hnE := nmE_mem hnE
    have hnH := nmH_mem hnH
    have hHr : HR ρ' l.post.h.get l.post.h.next w2 := by
      refine ⟨fun q hq => ?_, fun q o ho => ?_, fun q m b z z' hq hm hp hp' => ?_, hH2.gl, fun b L hL q z hq hp => ?_, hH2.rl, fun b hb q z hq hp => ?_⟩
      · have hq2 : l.post.b.kn ≤ q := hq
        show (if q < h.next then ρ q else r q) = none
        rw [if_neg (by omega)]
        exact hH2.fresh q hq
      · obtain ⟨b, z, hp, hO⟩ := hH2.obj q o ho
        refine ⟨b, z, by rw [hheap q (by rw [ho]; rfl)]; exact hp, ?_⟩
        obtain ⟨tb, hm, rfl⟩ := heapT_get ho
        have hnm := hnH _ hm
        cases tb with
        | cells L e =>
          obtain ⟨cur, c1, c2, c3, c4⟩ := hO
          refine ⟨cur, c1, c2, c3, fun i v hv => ?_⟩
          obtain ⟨c5, y, c6, c7⟩ := c4 i v hv
          refine ⟨c5, y, c6, ?_⟩
          rcases setN_get hv with ⟨_, _, h5⟩ | ⟨_, h5⟩
          · rw [Nat.sub_zero] at h5
            exact VR.names hsame (nms_get hnm h5) c7
          · rw [T.get_e] at h5; cases h5
        | recs L ks e => exact hO
        | opb i n' m' =>
          simp only [TB.nm, Bool.and_eq_true] at hnm
          obtain ⟨b0, z0, b1, z1, oo, e0, e1, e2⟩ := hO
          exact ⟨b0, z0, b1, z1, oo, by rw [hsame _ hnm.1]; exact e0, by rw [hsame _ hnm.2]; exact e1, e2⟩
      · rw [hheap q hq] at hp
        rw [hheap m hm] at hp'
        exact hH2.inj q m b z z' hq hm hp hp'
      · rw [hheap q hq] at hp
        exact hH2.gn b L hL q z hq hp
      · rw [hheap q hq] at hp
        exact hH2.rn b hb q z hq hp
    refine ⟨rfl, ρ', ⟨hHr, fun q hq => by show (if q < h.next then ρ q else r q) = ρ q; rw [if_pos hq], hnk, hfr2.os, hfr2.tape, hfr2.output, hfr2.size, hfr2.block, fun q b z hq hp => ?_, fun q hq hs2 => ?_⟩, ⟨hE2.dz, hE2.size, fun i v hv => ?_⟩⟩
    · rw [hheap q hq] at hp
      exact hfr2.live q b z hq hp
    · obtain ⟨o, ho⟩ := hps q hs2
      rcases hpn _ ho with ⟨_, h2⟩ | ⟨_, h2⟩
      · exact h2
      · have : h.next ≤ q := h2
        omega
    · obtain ⟨y, hy, hyr⟩ := hE2.val i v hv
      exact ⟨y, hy, VR.names hsame (hnE _ (envT_get hv)) hyr⟩
  -- rounds
  have main : ∀ (m : Nat) (s : ι) (hs : Inv s), μ s < m → ∀ (ρs : Ren) (w1 : World) (a1 : Act), @ER (nums gs rks ro (σ s) (Ω s) (fs0 s) (hfs s hs)) ρs (envT l.t.env) (ntOf P f) a1 → @HR (nums gs rks ro (σ s) (Ω s) (fs0 s) (hfs s hs)) ρs l.t.h.get l.t.h.next w1 →
      Frm ρ h.get w ρs l.t.h.get w1 → (∀ q, q < l.nx → (l.t.h.get q).isSome = true → ρs q = ρ q) → Code.rounds P (loopOf P f l.key) (@PostX (nums gs rks ro σ0 Ω0 fs ok) (ntOf P f) ρ h w l.x (envT l.post.env) l.post.h) m a1 w1 := by
    intro m
    induction m with
    | zero => intro s hs hlt; omega
    | succ m ih =>
      intro s hs hlt ρs w1 a1 hE1 hH1 hfr hst0
      rw [rounds_succ]
      refine wp_mono (treeL_wp gs rks ro hm (hk s hs) (hl s hs) hsub (dt s) (fs0 s) (hfs s hs) (h0 s hs) (hstep s hs) hE1 hH1) ?_
      rintro e a2 w2 ⟨fs', ok', o, hKo, env1, h1, ρ1, hst, hE2, hrest⟩
      cases o with
      | cont θ =>
        obtain ⟨rfl, hfit1, hkp⟩ := hrest
        obtain ⟨s', hs', hμ, hagθ⟩ := hKo
        obtain ⟨hE3, hH3, hd3⟩ := Tm.re hfit1 (hagθ.agree gs rks ro ok' (hfs s' hs')) hE2 (@Stp.hr (nums gs rks ro (σ s) (Ω s) fs' ok') _ _ _ _ _ _ _ _ hst)
        refine ih s' hs' (by omega) _ w2 a2 hE3 hH3 ((hfr.step hst).re hd3) fun q hq hqs => ?_
        obtain ⟨o, ho⟩ := heapT_some hqs
        have hθ : θ.nAt q = q := keeps_mem hkp _ ho hq
        have hbd := (hd3 q hqs).1
        simp only [reN, if_pos hbd, hθ]
        rw [@Stp.ext (nums gs rks ro (σ s) (Ω s) fs' ok') _ _ _ _ _ _ _ _ hst q (by omega)]
        exact hst0 q hq hqs
      | out θ =>
        obtain ⟨rfl, hfit1, hkp⟩ := hrest
        have := fin s hs θ hKo fs' ok' env1 h1 ρs ρ1 w1 w2 a2 hst hE2 hfit1 hkp hfr hst0
        cases hlx : l.x with
        | normal => rw [hlx] at hx; cases hx
        | exit id => rw [hlx] at this; exact this
        | ret => rw [hlx] at this; exact this
  obtain ⟨hE0, hH0, hd0⟩ := Tm.re hfit (hag.agree gs rks ro ok (hfs s0 hs0)) hE hH
  refine wp_loop_rounds (μ s0 + 1) (main (μ s0 + 1) s0 hs0 (by omega) _ w a hE0 hH0 ((Frm.refl ρ h.get w).re hd0) fun q hq hqs => ?_)
  obtain ⟨o, ho⟩ := heapT_some hqs
  have hθ : l.th.nAt q = q := keeps_mem hth _ ho hq
  simp only [reN, if_pos (hd0 q hqs).1, hθ]
/-- A KNOWN LOOP, round by round -/
theorem ln_ok (hm : P.follows .mixedOrders = true) {f : FuncId} {kcs : Kg} {lns : List Ln} {n : Nat} {l : Ln} {dt : LT} {fs0 : List (Cnd × Bool)} {σ0 : Nat → Int} {Ω0 : Nat → Nat → Nat → Obj → Prop}
    (h0 : treeL P gs rks kcs lns n (ntOf P f) l.nx (loopOf P f l.key) l.t l.x l.post dt fs0 = true) (hone : countL l.key (loopsOf (bodyOf P f)) = 1) (hth : keeps l.nx l.th l.t.heap = true) (hx : axEq l.x .normal = false) (hnx : Nat.ble l.nx l.t.b.kn = true)
    {ι : Type} (Inv : ι → Prop) (μ : ι → Nat) (σ : ι → Nat → Int) (Ω : ι → Nat → Nat → Nat → Obj → Prop)
    (hfs : ∀ s, Inv s → ∀ q ∈ fs0, q.1.ev (σ s) = q.2) (hk : ∀ s, Inv s → KcAll gs rks ro P (σ s) (Ω s) kcs) (hl : ∀ s, Inv s → LnAll gs rks ro P f (σ s) (Ω s) lns)
    (s0 : ι) (hs0 : Inv s0) (hag : AgreeD l.th l.t.b ro σ0 Ω0 (σ s0) (Ω s0))
    (hstep : ∀ s, Inv s → RunL (σ s) (fun o => match o with
      | .cont θ => ∃ s', Inv s' ∧ μ s' < μ s ∧ AgreeD θ l.t.b ro (σ s) (Ω s) (σ s') (Ω s')
      | .out θ => AgreeD θ l.post.b ro (σ s) (Ω s) σ0 Ω0) dt)
    (fs : List (Cnd × Bool)) (ok : ∀ q ∈ fs, q.1.ev σ0 = q.2) (c : Code) (hcm : c ∈ loopsOf (bodyOf P f)) (hck : loopId c = some l.key) : @LnOk (nums gs rks ro σ0 Ω0 fs ok) P (ntOf P f) c l :=
  ln_okS gs rks ro hm (kcs := fun _ => kcs) (lns := fun _ => lns) (dt := fun _ => dt) (fs0 := fun _ => fs0) Inv (fun _ _ => h0) hone hth hx hnx μ σ Ω hfs hk hl s0 hs0 hag hstep fs ok c hcm hck
end
end Go.Proofs.YthjjpmoifgcepaaGreat.Ex

/-
  The runner: known calls out of contracts over owned blocks; a function's text, question by question. No condition.
-/
namespace Go.Proofs.YthjjpmoifgcepaaGreat.Ex
open Go
/-! names alone -/
theorem lookS_nil (i : Nat) : lookS i [] = none := rfl
theorem SE.sub_n (ns : List (Nat × Nat)) : ∀ e : SE, e.sub { n := ns } = e := by
  intro e
  induction e with
  | var i => rfl
  | lvar i => rfl
  | lit n => rfl
  | bin o a b ha hb => simp only [SE.sub, ha, hb]
  | ubin o a b ha hb => simp only [SE.sub, ha, hb]
  | cv k a ha => simp only [SE.sub, ha]
  | lset l e k v hl he hv => simp only [SE.sub, hl, he, hv]
  | lsnoc l r hl hr => simp only [SE.sub, hl, hr]
  | rnil => rfl
  | rep n hn => simp only [SE.sub, hn]
  | rcons v r hv hr => simp only [SE.sub, hv, hr]
  | «at» l e j hl he => simp only [SE.sub, hl, he]
  | len l hl => simp only [SE.sub, hl]
theorem Cnd.sub_n (ns : List (Nat × Nat)) (c : Cnd) : c.sub { n := ns } = c := by cases c <;> simp only [Cnd.sub, SE.sub_n]
section
variable [Nums] {ρ ρ' : Ren} {ns : List (Nat × Nat)}
mutual
theorem VR.ren (hρ : ∀ n, ρ' n = ρ (lookN n ns)) : ∀ {v : AV} {x : Value}, VR ρ (v.sub { n := ns }) x ↔ VR ρ' v x
  | .sym k e, x => by unfold AV.sub VR; rw [SE.sub_n]
  | .bsym c p, x => by unfold AV.sub VR; rw [Cnd.sub_n]
  | .ptr n off, x => by unfold AV.sub VR; rw [hρ]; rfl
  | .eptr n e s j, x => by unfold AV.sub VR; rw [hρ, SE.sub_n]; rfl
  | .dsl n e s, x => by unfold AV.sub VR; rw [hρ, SE.sub_n]; rfl
  | .ssl n e l s, x => by unfold AV.sub VR; rw [hρ, SE.sub_n]; rfl
  | .rptr i e, x => by unfold AV.sub VR; rw [SE.sub_n]
  | .sl n off len sz r, x => by unfold AV.sub VR; rw [hρ]; rfl
  | .map n, x => by unfold AV.sub VR; rw [hρ]; rfl
  | .fn f a b, x => by
    unfold AV.sub VR
    constructor
    · rintro ⟨p, q, h1, h2, h3⟩
      exact ⟨p, q, h1, (VRs.ren hρ).1 h2, (VRs.ren hρ).1 h3⟩
    · rintro ⟨p, q, h1, h2, h3⟩
      exact ⟨p, q, h1, (VRs.ren hρ).2 h2, (VRs.ren hρ).2 h3⟩
  | .ifc t v, x => by
    unfold AV.sub VR
    constructor
    · rintro ⟨y, h1, h2⟩
      exact ⟨y, h1, (VR.ren hρ).1 h2⟩
    · rintro ⟨y, h1, h2⟩
      exact ⟨y, h1, (VR.ren hρ).2 h2⟩
  | .agg l, x => by
    unfold AV.sub VR
    constructor
    · rintro ⟨y, h1, h2⟩
      exact ⟨y, h1, (VRs.ren hρ).1 h2⟩
    · rintro ⟨y, h1, h2⟩
      exact ⟨y, h1, (VRs.ren hρ).2 h2⟩
  | .tup l, x => by
    unfold AV.sub VR
    constructor
    · rintro ⟨y, h1, h2⟩
      exact ⟨y, h1, (VRs.ren hρ).1 h2⟩
    · rintro ⟨y, h1, h2⟩
      exact ⟨y, h1, (VRs.ren hρ).2 h2⟩
  | .bool _, x => by unfold AV.sub VR; exact Iff.rfl
  | .int _ _, x => by unfold AV.sub VR; exact Iff.rfl
  | .str _, x => by unfold AV.sub VR; exact Iff.rfl
  | .nilp, x => by unfold AV.sub VR; exact Iff.rfl
  | .gptr _ _, x => by unfold AV.sub VR; exact Iff.rfl
  | .nilsl, x => by unfold AV.sub VR; exact Iff.rfl
  | .esl _, x => by unfold AV.sub VR; exact Iff.rfl
  | .zsl, x => by unfold AV.sub VR; exact Iff.rfl
  | .osl e, x => by unfold AV.sub VR; rw [SE.sub_n]
  | .rsl i, x => by unfold AV.sub VR; exact Iff.rfl
  | .nilmap, x => by unfold AV.sub VR; exact Iff.rfl
  | .nilfn, x => by unfold AV.sub VR; exact Iff.rfl
  | .nilif, x => by unfold AV.sub VR; exact Iff.rfl
theorem VRs.ren (hρ : ∀ n, ρ' n = ρ (lookN n ns)) : ∀ {l : List AV} {m : List Value}, VRs ρ (AV.subs { n := ns } l) m ↔ VRs ρ' l m
  | [], m => by unfold AV.subs VRs; exact Iff.rfl
  | v :: l, m => by
    unfold AV.subs VRs
    constructor
    · rintro ⟨y, ys, h1, h2, h3⟩
      exact ⟨y, ys, h1, (VR.ren hρ).1 h2, (VRs.ren hρ).1 h3⟩
    · rintro ⟨y, ys, h1, h2, h3⟩
      exact ⟨y, ys, h1, (VR.ren hρ).2 h2, (VRs.ren hρ).2 h3⟩
end
theorem TR.ren (hρ : ∀ n, ρ' n = ρ (lookN n ns)) {t : TB} {s : Nat} {x : Option Obj} : TR ρ (t.sub { n := ns }) s x ↔ TR ρ' t s x := by
  cases t with
  | cells l e =>
    constructor
    · rintro ⟨cur, h1, h2, h3, h4⟩
      rw [AV.subs_len] at h3
      refine ⟨cur, h1, h2, h3, fun i v hv => ?_⟩
      obtain ⟨h5, y, h6, h7⟩ := h4 i _ (AV.subs_get _ hv)
      rw [AV.sub_one] at h5
      exact ⟨h5, y, h6, (VR.ren hρ).1 h7⟩
    · rintro ⟨cur, h1, h2, h3, h4⟩
      refine ⟨cur, h1, h2, by rw [AV.subs_len]; exact h3, fun i v hv => ?_⟩
      have hi : i < l.length := by
        have := (List.getElem?_eq_some_iff.1 hv).1
        rwa [AV.subs_len] at this
      have h8 := AV.subs_get { n := ns } (List.getElem?_eq_getElem hi)
      rw [hv] at h8
      cases h8
      obtain ⟨h5, y, h6, h7⟩ := h4 i _ (List.getElem?_eq_getElem hi)
      exact ⟨by rw [AV.sub_one]; exact h5, y, h6, (VR.ren hρ).2 h7⟩
  | recs l ks e =>
    show TR ρ (.recs (l.sub { n := ns }) ks e) s x ↔ _
    rw [SE.sub_n]
    exact Iff.rfl
  | opb i n m =>
    show OR ρ (.opb (lookN i []) (lookN n ns) (lookN m ns)) s x ↔ OR ρ' (.opb i n m) s x
    simp only [OR, hρ]
    exact Iff.rfl
end
theorem TR.sub0 [Nums] {ρ : Ren} {t : TB} {s : Nat} {x : Option Obj} : TR ρ (t.sub {}) s x ↔ TR ρ t s x := TR.ren (ns := []) (fun _ => rfl)
def objSize : Obj → Nat
  | .cells c _ _ => c.size
  | _ => 0
/-- blocks that are as they are to be -/
def FitB [Nums] (ρ : Ren) : List (Nat × TB) → List (Nat × Obj) → Prop
  | [], bs => bs = []
  | (n, t) :: l, bs => ∃ b o s r, bs = (b, o) :: r ∧ ρ n = some (b, s) ∧ TR ρ t s (some o) ∧ FitB ρ l r
theorem newAll_get {θ : Sub} : ∀ {l : List TB} {h : AH} {n : Nat} {o : AO}, (newAll θ l h).get n = some o → (∃ i t, l[i]? = some t ∧ n = h.next + i ∧ o = (t.sub θ).ao) ∨ (n < h.next + l.length → n < h.next) ∧ h.get n = some o
  | [], h, n, o, hg => .inr ⟨(by simp), hg⟩
  | t :: l, h, n, o, hg => by
    unfold newAll at hg
    have hn : ((h.put h.next (some (t.sub θ).ao)).skip 1).next = h.next + 1 := by cases h; rfl
    rcases newAll_get hg with ⟨i, t', h1, h2, h3⟩ | ⟨h1, h2⟩
    · rw [hn] at h2
      exact .inl ⟨i + 1, t', by simpa using h1, by omega, h3⟩
    · have h2 : (h.put h.next (some (t.sub θ).ao)).get n = some o := by cases h; exact h2
      rw [hn] at h1
      rcases put_spec h2 with ⟨h3, h4⟩ | ⟨h3, h4⟩
      · cases h4
        exact .inl ⟨0, t, rfl, h3, rfl⟩
      · refine .inr ⟨fun hl => ?_, h4⟩
        simp only [List.length_cons] at hl
        have := h1 (by omega)
        omega
theorem newAll_next {θ : Sub} : ∀ {l : List TB} {h : AH}, (newAll θ l h).next = h.next + l.length
  | [], h => rfl
  | t :: l, h => by
    unfold newAll
    rw [newAll_next]
    have hn : ((h.put h.next (some (t.sub θ).ao)).skip 1).next = h.next + 1 := by cases h; rfl
    rw [hn, List.length_cons]
    omega
theorem putAll_get {θ : Sub} : ∀ {l : List (Nat × TB)} {h : AH} {n : Nat} {o : AO}, (putAll θ l h).get n = some o → (∃ t, (n, t) ∈ l ∧ o = (t.sub θ).ao) ∨ h.get n = some o
  | [], h, n, o, hg => .inr hg
  | (m, t) :: l, h, n, o, hg => by
    unfold putAll at hg
    rcases put_spec hg with ⟨rfl, h2⟩ | ⟨_, h2⟩
    · cases h2
      exact .inl ⟨t, List.mem_cons_self, rfl⟩
    · rcases putAll_get h2 with ⟨t', h3, h4⟩ | h3
      · exact .inl ⟨t', List.mem_cons_of_mem _ h3, h4⟩
      · exact .inr h3
theorem putAll_next {θ : Sub} : ∀ {l : List (Nat × TB)} {h : AH}, (putAll θ l h).next = h.next
  | [], h => rfl
  | (m, t) :: l, h => by
    unfold putAll
    rw [put_next, putAll_next]
theorem dropAll_get : ∀ {l : List (Nat × TB)} {h : AH} {n : Nat} {o : AO}, (dropAll l h).get n = some o → h.get n = some o ∧ ∀ t, (n, t) ∉ l
  | [], h, n, o, hg => ⟨hg, fun t hm => by cases hm⟩
  | (m, t) :: l, h, n, o, hg => by
    unfold dropAll at hg
    rcases put_spec hg with ⟨_, h2⟩ | ⟨h1, h2⟩
    · cases h2
    · obtain ⟨h3, h4⟩ := dropAll_get h2
      refine ⟨h3, fun t' hm => ?_⟩
      rcases List.mem_cons.1 hm with he | hm
      · cases he
        exact h1 rfl
      · exact h4 t' hm
theorem dropAll_next : ∀ {l : List (Nat × TB)} {h : AH}, (dropAll l h).next = h.next
  | [], h => rfl
  | (m, t) :: l, h => by
    unfold dropAll
    rw [put_next, dropAll_next]
theorem lookN_rel {nx : Nat} : ∀ {l : List TB} {i n : Nat}, lookN n (relSub nx i l) = n ∨ ∃ j, j < l.length ∧ n = rel + (i + j) ∧ lookN n (relSub nx i l) = nx + (i + j)
  | [], i, n => .inl rfl
  | t :: l, i, n => by
    unfold relSub lookN
    split
    · rename_i hb
      have hb := Nat.eq_of_beq_eq_true hb
      exact .inr ⟨0, by simp, hb.symm, rfl⟩
    · rcases lookN_rel (nx := nx) (l := l) (i := Nat.add i 1) (n := n) with h1 | ⟨j, h1, h2, h3⟩
      · exact .inl h1
      · refine .inr ⟨j + 1, by simp; omega, ?_, ?_⟩
        · rw [h2]
          show rel + (i + 1 + j) = rel + (i + (j + 1))
          omega
        · rw [h3]
          show nx + (i + 1 + j) = nx + (i + (j + 1))
          omega
theorem lookN_small {nx : Nat} {l : List TB} {n : Nat} (h : n < rel) : lookN n (relSub nx 0 l) = n := by
  rcases lookN_rel (nx := nx) (l := l) (i := 0) (n := n) with h1 | ⟨j, _, h2, _⟩
  · exact h1
  · omega
theorem lookN_big {nx : Nat} : ∀ {l : List TB} {i j : Nat}, j < l.length → lookN (rel + (i + j)) (relSub nx i l) = nx + (i + j)
  | [], i, j, h => by simp at h
  | t :: l, i, j, h => by
    unfold relSub lookN
    split
    · rename_i hb
      have hb : rel + i = rel + (i + j) := Nat.eq_of_beq_eq_true hb
      have : j = 0 := by omega
      subst this
      rfl
    · rename_i hb
      have hb : rel + i ≠ rel + (i + j) := Nat.ne_of_beq_eq_false hb
      cases j with
      | zero => exact absurd rfl hb
      | succ j =>
        have := lookN_big (nx := nx) (l := l) (i := i + 1) (j := j) (by simpa using h)
        have e1 : rel + (i + 1 + j) = rel + (i + (j + 1)) := by omega
        have e2 : nx + (i + 1 + j) = nx + (i + (j + 1)) := by omega
        rw [e1, e2] at this
        exact this
theorem FitB.mem [Nums] {ρ : Ren} : ∀ {l : List (Nat × TB)} {bs : List (Nat × Obj)}, FitB ρ l bs → ∀ p ∈ l, ∃ b o s, (b, o) ∈ bs ∧ ρ p.1 = some (b, s) ∧ TR ρ p.2 s (some o)
  | [], bs, h, p, hp => by cases hp
  | (n, t) :: l, bs, h, p, hp => by
    obtain ⟨b, o, s, r, rfl, h1, h2, h3⟩ := h
    rcases List.mem_cons.1 hp with rfl | hp
    · exact ⟨b, o, s, List.mem_cons_self, h1, h2⟩
    · obtain ⟨b', o', s', h4, h5, h6⟩ := FitB.mem h3 p hp
      exact ⟨b', o', s', List.mem_cons_of_mem _ h4, h5, h6⟩
theorem FitB.back [Nums] {ρ : Ren} : ∀ {l : List (Nat × TB)} {bs : List (Nat × Obj)}, FitB ρ l bs → ∀ q ∈ bs, ∃ p ∈ l, ∃ s, ρ p.1 = some (q.1, s)
  | [], bs, h, q, hq => by
    have : bs = [] := h
    subst this
    cases hq
  | (n, t) :: l, bs, h, q, hq => by
    obtain ⟨b, o, s, r, rfl, h1, h2, h3⟩ := h
    rcases List.mem_cons.1 hq with rfl | hq
    · exact ⟨_, List.mem_cons_self, s, h1⟩
    · obtain ⟨p, h4, h5⟩ := FitB.back h3 q hq
      exact ⟨p, List.mem_cons_of_mem _ h4, h5⟩
section
variable [Nums] {P : Program}
/-- .. with all that is known of memory -/
theorem kc_ownH {k : Kc} (hf : FnOk P k.f) (hpost : ∀ p ∈ k.post, ∃ t, (p.1, t) ∈ k.pre) (hpn : ∀ p ∈ k.pre, p.1 < rel)
    (hc : (∀ c ∈ k.conds, c.1.ev Nums.σ = c.2) → ∀ (ρ : Ren) (W w : World) (m : List (Nat × Obj)) (args' : Array Value) (bs : List (Nat × Obj)), ∀ h : AH, HR ρ h.get h.next w → fitH {} h k.pre = true → FitB ρ k.pre bs → VRs ρ k.args args'.toList → Own W (bs ++ m) w →
      Calls P k.f args' w fun e w' => ∃ x ds bs', e = .returned x ∧ Own W (ds ++ (bs' ++ m)) w' ∧ bs'.map (·.1) = bs.map (·.1) ∧ ds.length = k.news.length ∧
        ∀ ρ' : Ren, (∀ n p, n < rel → ρ n = some p → ρ' n = some p) → (∀ (i : Nat) d, ds[i]? = some d → ρ' (rel + i) = some (d.1, objSize d.2)) →
          VR ρ' k.res x ∧ (∀ (i : Nat) t d, k.news[i]? = some t → ds[i]? = some d → TR ρ' t (objSize d.2) (some d.2)) ∧ ∀ p ∈ k.post, ∃ b o s, (b, o) ∈ bs' ∧ ρ p.1 = some (b, s) ∧ TR ρ' p.2 s (some o)) : KcOk P k := by
  intro hcs
  refine ⟨hf, fun ρ h h' w args' v hat hH hargs => ?_⟩
  unfold Kc.at at hat
  split at hat <;> first | (cases hat; done) | skip
  rename_i hfit
  split at hat <;> first | (cases hat; done) | skip
  rename_i hsm
  have hsm : h.next + k.news.length < 600000 := by simpa using hsm
  simp only [Option.some.injEq, Prod.mk.injEq] at hat
  obtain ⟨rfl, rfl⟩ := hat
  obtain ⟨hfm, hinj⟩ := fitH_mem hfit
  have hid : ∀ n : Nat, ({} : Sub).nAt n = n := fun n => rfl
  -- the blocks
  have mk : ∀ (l : List (Nat × TB)), (∀ p ∈ l, p ∈ k.pre) → l.Nodup → ∃ bs, FitB ρ l bs ∧ (∀ q ∈ bs, w.heap[q.1]? = some q.2) ∧ (bs.map (·.1)).Nodup := by
    intro l
    induction l with
    | nil => intro _ _; exact ⟨[], rfl, (by simp), by simp⟩
    | cons p l ih =>
      intro hl hnd
      obtain ⟨n, t⟩ := p
      obtain ⟨bs, h1, h2, h3⟩ := ih (fun q hq => hl q (List.mem_cons_of_mem _ hq)) (List.nodup_cons.1 hnd).2
      obtain ⟨a, ha, haf⟩ := hfm (n, t) (hl _ List.mem_cons_self)
      rw [hid] at ha
      obtain ⟨b, s, hp, hO⟩ := hH.obj n a ha
      have hT := TR.sub0.1 (TB.fits_ok haf hO)
      cases hx : w.heap[b]? with
      | none =>
        rw [hx] at hO
        exact hO.notNone.elim
      | some o =>
        rw [hx] at hT
        refine ⟨(b, o) :: bs, ⟨b, o, s, bs, rfl, hp, hT, h1⟩, fun q hq => ?_, ?_⟩
        · rcases List.mem_cons.1 hq with rfl | hq
          · exact hx
          · exact h2 q hq
        · rw [List.map_cons, List.nodup_cons]
          refine ⟨fun hm => ?_, h3⟩
          obtain ⟨q, hq, hqb⟩ := List.mem_map.1 hm
          obtain ⟨p', hp', s', hps⟩ := FitB.back h1 q hq
          obtain ⟨a', ha', _⟩ := hfm p' (hl _ (List.mem_cons_of_mem _ hp'))
          rw [hid] at ha'
          rw [hqb] at hps
          have hnn := hH.inj n p'.1 b s s' (by rw [ha]; rfl) (by rw [ha']; rfl) hp hps
          have := hinj (n, t) (hl _ List.mem_cons_self) p' (hl _ (List.mem_cons_of_mem _ hp')) hnn
          rw [this] at hnd
          exact (List.nodup_cons.1 hnd).1 hp'
  have hnd : k.pre.Nodup := by
    have : ∀ {l : List (Nat × TB)}, fitH {} h l = true → l.Nodup := by
      intro l
      induction l with
      | nil => intro _; exact List.nodup_nil
      | cons p l ih =>
        intro hl
        obtain ⟨n, t⟩ := p
        unfold fitH at hl
        split at hl <;> first | (cases hl; done) | skip
        rw [Bool.and_eq_true, Bool.and_eq_true] at hl
        refine List.nodup_cons.2 ⟨fun hm => ?_, ih hl.2.2⟩
        exact notIn_mem hl.2.1 _ hm rfl
    exact this hfit
  obtain ⟨bs, hF, hbs, hbn⟩ := mk k.pre (fun _ h => h) hnd
  -- the world as owned blocks
  let W : World := { w with heap := #[] }
  let m : List (Nat × Obj) := ((List.range w.heap.size).filter fun b => !(bs.map (·.1)).contains b).map fun b => (b, w.heap[b]?.getD (.map #[] 0))
  have hmm : m.map (·.1) = (List.range w.heap.size).filter fun b => !(bs.map (·.1)).contains b := by
    simp [m, List.map_map, Function.comp_def]
  have hO : Own W (bs ++ m) w := by
    refine ⟨⟨rfl, rfl, rfl, Nat.zero_le _, fun b hb => by simp [W] at hb⟩, fun p hp => ⟨Nat.zero_le _, ?_⟩, ?_⟩
    · rcases List.mem_append.1 hp with hp | hp
      · exact hbs p hp
      · obtain ⟨b, hb, rfl⟩ := List.mem_map.1 hp
        have hlt := List.mem_range.1 (List.mem_filter.1 hb).1
        simp [Array.getElem?_eq_getElem hlt]
    · rw [List.map_append, List.nodup_append]
      refine ⟨hbn, by rw [hmm]; exact List.nodup_range.filter _, fun a ha b hb he => ?_⟩
      rw [hmm] at hb
      have := (List.mem_filter.1 hb).2
      rw [← he] at this
      simp only [Bool.not_eq_true', List.contains_eq_mem, decide_eq_false_iff_not] at this
      exact this ha
  have hin : ∀ b, b < w.heap.size → (∃ o, (b, o) ∈ bs) ∨ (b, w.heap[b]?.getD (.map #[] 0)) ∈ m := by
    intro b hb
    by_cases hc : b ∈ bs.map (·.1)
    · obtain ⟨q, hq, rfl⟩ := List.mem_map.1 hc
      exact .inl ⟨q.2, hq⟩
    · refine .inr (List.mem_map.2 ⟨b, List.mem_filter.2 ⟨List.mem_range.2 hb, ?_⟩, rfl⟩)
      simp only [Bool.not_eq_true', List.contains_eq_mem, decide_eq_false_iff_not]
      exact hc
  refine (hc hcs ρ W w m args' bs h hH hfit hF hargs hO).mono ?_
  rintro e w' ⟨x, ds, bs', rfl, hO', hbb, hdl, hres⟩
  -- where blocks are now
  have hd : ∀ (i : Nat) d, ds[i]? = some d → w'.heap[d.1]? = some d.2 := fun i d hi => hO'.get (b := d.1) (o := d.2) (List.mem_append_left _ (List.mem_of_getElem? hi))
  have hb' : ∀ q ∈ bs', w'.heap[q.1]? = some q.2 := fun q hq => hO'.get (b := q.1) (o := q.2) (List.mem_append_right _ (List.mem_append_left _ hq))
  have hrest : ∀ b, b < w.heap.size → (∀ o, (b, o) ∉ bs) → w'.heap[b]? = w.heap[b]? := by
    intro b hb hno
    rcases hin b hb with ⟨o, ho⟩ | hm
    · exact absurd ho (hno o)
    · rw [hO'.get (b := b) (o := w.heap[b]?.getD (.map #[] 0)) (List.mem_append_right _ (List.mem_append_right _ hm)), Array.getElem?_eq_getElem hb]
      rfl
  have hdnew : ∀ (i : Nat) d, ds[i]? = some d → w.heap.size ≤ d.1 := by
    intro i d hi
    rcases Nat.lt_or_ge d.1 w.heap.size with hlt | hge
    · exfalso
      have hnd' := hO'.nd
      rw [List.map_append, List.nodup_append] at hnd'
      have hdm : d.1 ∈ ds.map (·.1) := List.mem_map.2 ⟨d, List.mem_of_getElem? hi, rfl⟩
      rcases hin d.1 hlt with ⟨o, ho⟩ | hm
      · have : d.1 ∈ bs'.map (·.1) := by rw [hbb]; exact List.mem_map.2 ⟨_, ho, rfl⟩
        exact hnd'.2.2 _ hdm _ (by rw [List.map_append]; exact List.mem_append_left _ this) rfl
      · exact hnd'.2.2 _ hdm _ (by rw [List.map_append]; exact List.mem_append_right _ (List.mem_map.2 ⟨_, hm, rfl⟩)) rfl
    · exact hge
  have hsize : w.heap.size ≤ w'.heap.size := by
    rcases Nat.lt_or_ge w'.heap.size w.heap.size with hlt | hge
    · exfalso
      have hpos : w.heap.size - 1 < w.heap.size := by omega
      have : ∃ o, w'.heap[w.heap.size - 1]? = some o := by
        rcases hin _ hpos with ⟨o, ho⟩ | hm
        · have : (w.heap.size - 1) ∈ bs'.map (·.1) := by rw [hbb]; exact List.mem_map.2 ⟨_, ho, rfl⟩
          obtain ⟨q, hq, hqe⟩ := List.mem_map.1 this
          exact ⟨q.2, by rw [← hqe]; exact hb' q hq⟩
        · exact ⟨_, hO'.get (b := w.heap.size - 1) (o := w.heap[w.heap.size - 1]?.getD (.map #[] 0)) (List.mem_append_right _ (List.mem_append_right _ hm))⟩
      obtain ⟨o, ho⟩ := this
      have := heap_lt ho
      omega
    · exact hge
  -- names now
  let ρ2 : Ren := fun n => if n < h.next then ρ n else (ds[n - h.next]?).map fun d => (d.1, objSize d.2)
  have r1 : ∀ n, n < h.next → ρ2 n = ρ n := fun n hn => by simp [ρ2, hn]
  have r2 : ∀ (i : Nat) d, ds[i]? = some d → ρ2 (h.next + i) = some (d.1, objSize d.2) := fun i d hi => by
    simp only [ρ2, if_neg (show ¬ h.next + i < h.next by omega), Nat.add_sub_cancel_left, hi, Option.map_some]
  let ns := relSub h.next 0 k.news
  let ρ3 : Ren := fun n => ρ2 (lookN n ns)
  have hρ3 : ∀ n, ρ3 n = ρ2 (lookN n ns) := fun _ => rfl
  obtain ⟨hx, hnews, hposts⟩ := hres ρ3 (fun n p hn hp => by
      rw [hρ3, lookN_small hn, r1 n (hH.lt hp)]
      exact hp) (fun i d hi => by
      have hil : i < k.news.length := by rw [← hdl]; exact (List.getElem?_eq_some_iff.1 hi).1
      rw [hρ3]
      have := lookN_big (nx := h.next) (l := k.news) (i := 0) (j := i) hil
      rw [Nat.zero_add] at this
      rw [this]
      exact r2 i d hi)
  refine ⟨ρ2, x, rfl, (VR.ren hρ3).2 hx, ?_⟩
  have hnext : (newAll { n := ns } k.news (putAll { n := ns } k.post (dropAll k.pre h))).next = h.next + k.news.length := by
    rw [newAll_next, putAll_next, dropAll_next]
  -- what is under a name
  have under : ∀ n o, (newAll { n := ns } k.news (putAll { n := ns } k.post (dropAll k.pre h))).get n = some o →
      (∃ (i : Nat) (d : Nat × Obj) (t : TB), ds[i]? = some d ∧ k.news[i]? = some t ∧ n = h.next + i ∧ o = (t.sub { n := ns }).ao) ∨ (∃ t, (n, t) ∈ k.post ∧ n < h.next ∧ o = (t.sub { n := ns }).ao) ∨ (n < h.next ∧ h.get n = some o ∧ ∀ t, (n, t) ∉ k.pre) := by
    intro n o hg
    rcases newAll_get hg with ⟨i, t, h1, h2, h3⟩ | ⟨h1, h2⟩
    · rw [putAll_next, dropAll_next] at h2
      have hil : i < ds.length := by rw [hdl]; exact (List.getElem?_eq_some_iff.1 h1).1
      exact .inl ⟨i, ds[i], t, List.getElem?_eq_getElem hil, h1, h2, h3⟩
    · have hk : ∀ a, h.get n = some a → n < h.next := fun a ha => by
        obtain ⟨b, s, hp, _⟩ := hH.obj n a ha
        exact hH.lt hp
      rcases putAll_get h2 with ⟨t, h3, h4⟩ | h3
      · obtain ⟨t0, ht0⟩ := hpost _ h3
        obtain ⟨a, ha, _⟩ := hfm _ ht0
        rw [hid] at ha
        exact .inr (.inl ⟨t, h3, hk a ha, h4⟩)
      · obtain ⟨h4, h5⟩ := dropAll_get h3
        exact .inr (.inr ⟨hk o h4, h4, h5⟩)
  have hpostb : ∀ n t, (n, t) ∈ k.post → ∃ b s, ρ n = some (b, s) ∧ (h.get n).isSome = true ∧ TR ρ3 t s w'.heap[b]? := by
    intro n t hm
    obtain ⟨b, o, s, h1, h2, h3⟩ := hposts _ hm
    obtain ⟨t0, ht0⟩ := hpost _ hm
    obtain ⟨a, ha, _⟩ := hfm _ ht0
    rw [hid] at ha
    exact ⟨b, s, h2, by rw [ha]; rfl, by rw [hb' _ h1]; exact h3⟩
  have hrestn : ∀ n o, h.get n = some o → (∀ t, (n, t) ∉ k.pre) → ∃ b s, ρ n = some (b, s) ∧ w'.heap[b]? = w.heap[b]? ∧ OR ρ o s w.heap[b]? := by
    intro n o hg hno
    obtain ⟨b, s, hp, hO1⟩ := hH.obj n o hg
    have hlt : b < w.heap.size := by
      rcases Nat.lt_or_ge b w.heap.size with h1 | h1
      · exact h1
      · rw [Array.getElem?_eq_none h1] at hO1
        exact hO1.notNone.elim
    refine ⟨b, s, hp, hrest b hlt fun o' ho' => ?_, hO1⟩
    obtain ⟨p, hp', s', hps⟩ := FitB.back hF _ ho'
    obtain ⟨a, ha, _⟩ := hfm p hp'
    rw [hid] at ha
    have := hH.inj n p.1 b s s' (by rw [hg]; rfl) (by rw [ha]; rfl) hp hps
    obtain ⟨pn, pt⟩ := p
    dsimp only at this
    subst this
    exact hno _ hp'
  have ext2 : ∀ n p, ρ n = some p → ρ2 n = some p := fun n p hp => by rw [r1 n (hH.lt hp)]; exact hp
  have isold : ∀ n, ((newAll { n := ns } k.news (putAll { n := ns } k.post (dropAll k.pre h))).get n).isSome = true → n < h.next → (h.get n).isSome = true := by
    intro n hn hlt
    obtain ⟨o, ho⟩ := Option.isSome_iff_exists.1 hn
    rcases under n o ho with ⟨i, d, t, h1, h2, h3, h4⟩ | ⟨t, h1, h2, h3⟩ | ⟨h1, h2, h3⟩
    · omega
    · obtain ⟨b, s, _, h4, _⟩ := hpostb n t h1
      exact h4
    · rw [h2]; rfl
  have newb : ∀ n b s, ((newAll { n := ns } k.news (putAll { n := ns } k.post (dropAll k.pre h))).get n).isSome = true → ρ2 n = some (b, s) → (h.next ≤ n ∧ ∃ (i : Nat) (d : Nat × Obj), n = h.next + i ∧ ds[i]? = some d ∧ b = d.1) ∨ (n < h.next ∧ (h.get n).isSome = true ∧ ρ n = some (b, s)) := by
    intro n b s hn hp
    by_cases hlt : n < h.next
    · rw [r1 n hlt] at hp
      exact .inr ⟨hlt, isold n hn hlt, hp⟩
    · obtain ⟨o, ho⟩ := Option.isSome_iff_exists.1 hn
      rcases under n o ho with ⟨i, d, t, h1, h2, h3, h4⟩ | ⟨t, h1, h2, h3⟩ | ⟨h1, h2, h3⟩
      · subst h3
        rw [r2 i d h1] at hp
        cases hp
        exact .inl ⟨by omega, i, d, rfl, h1, rfl⟩
      · omega
      · omega
  have hlive : ∀ n b s, ((newAll { n := ns } k.news (putAll { n := ns } k.post (dropAll k.pre h))).get n).isSome = true → ρ2 n = some (b, s) → w.heap.size ≤ b ∨ ∃ m s', (h.get m).isSome = true ∧ ρ m = some (b, s') := by
    intro n b s hn hp
    rcases newb n b s hn hp with ⟨_, i, d, _, h2, rfl⟩ | ⟨h1, h2, h3⟩
    · exact .inl (hdnew i d h2)
    · exact .inr ⟨n, s, h2, h3⟩
  have hblock : ∀ b, b < w.heap.size → (∀ n s, (h.get n).isSome = true → ρ n ≠ some (b, s)) → w'.heap[b]? = w.heap[b]? := by
    intro b hb hl
    refine hrest b hb fun o ho => ?_
    obtain ⟨p, hp', s', hps⟩ := FitB.back hF _ ho
    obtain ⟨a, ha, _⟩ := hfm p hp'
    rw [hid] at ha
    exact hl p.1 s' (by rw [ha]; rfl) hps
  have hT := hH.tables (w' := w') hblock hlive
  refine ⟨⟨fun n hn => ?_, fun n o ho => ?_, fun n q b s s' hn hq hp hp' => ?_, hT.1, hT.2.1, hT.2.2.1, hT.2.2.2⟩, r1, by rw [hnext]; omega, hO'.below.os, hO'.below.tape, hO'.below.output, hsize, hblock, hlive, fun n hn hs2 => isold n hs2 hn⟩
  · rw [hnext] at hn
    show (if n < h.next then ρ n else (ds[n - h.next]?).map fun d => (d.1, objSize d.2)) = none
    rw [if_neg (by omega), List.getElem?_eq_none (by omega)]
    rfl
  · rcases under n o ho with ⟨i, d, t, h1, h2, h3, h4⟩ | ⟨t, h1, h2, h3⟩ | ⟨h1, h2, h3⟩
    · subst h3; subst h4
      refine ⟨d.1, objSize d.2, r2 i d h1, ?_⟩
      rw [hd i d h1]
      exact ((TR.ren hρ3).2 (hnews i t d h2 h1)).or
    · subst h3
      obtain ⟨b, s, h4, _, h5⟩ := hpostb n t h1
      exact ⟨b, s, ext2 _ _ h4, ((TR.ren hρ3).2 h5).or⟩
    · obtain ⟨b, s, h4, h5, h6⟩ := hrestn n o h2 h3
      refine ⟨b, s, ext2 _ _ h4, ?_⟩
      rw [h5]
      exact h6.mono ext2
  · rcases newb n b s hn hp with ⟨_, i, d, rfl, h2, rfl⟩ | ⟨h1, h2, h3⟩ <;> rcases newb q _ s' hq hp' with ⟨_, j, d', rfl, h5, h6⟩ | ⟨h4, h5, h6⟩
    · have hnd' := hO'.nd
      rw [List.map_append, List.nodup_append] at hnd'
      have h7 : (ds.map (·.1))[i]? = some d.1 := by simp [h2]
      have h8 : (ds.map (·.1))[j]? = some d.1 := by simp [h5, h6]
      have := (List.getElem?_inj (List.getElem?_eq_some_iff.1 h7).1 hnd'.1).1 (h7.trans h8.symm)
      omega
    · exfalso
      obtain ⟨a, ha⟩ := Option.isSome_iff_exists.1 h5
      obtain ⟨b2, s2, hp2, hO2⟩ := hH.obj q a ha
      rw [h6] at hp2
      cases hp2
      have := hdnew i d h2
      rw [Array.getElem?_eq_none this] at hO2
      exact hO2.notNone
    · exfalso
      obtain ⟨a, ha⟩ := Option.isSome_iff_exists.1 h2
      obtain ⟨b2, s2, hp2, hO2⟩ := hH.obj n a ha
      rw [h3] at hp2
      cases hp2
      have := hdnew j d' h5
      rw [h6, Array.getElem?_eq_none this] at hO2
      exact hO2.notNone
    · exact hH.inj n q b s s' h2 h5 h3 h6
/-- A KNOWN CALL, out of a contract over owned blocks -/
theorem kc_own {k : Kc} (hf : FnOk P k.f) (hpost : ∀ p ∈ k.post, ∃ t, (p.1, t) ∈ k.pre) (hpn : ∀ p ∈ k.pre, p.1 < rel)
    (hc : (∀ c ∈ k.conds, c.1.ev Nums.σ = c.2) → ∀ (ρ : Ren) (W w : World) (m : List (Nat × Obj)) (args' : Array Value) (bs : List (Nat × Obj)), FitB ρ k.pre bs → VRs ρ k.args args'.toList → Own W (bs ++ m) w →
      Calls P k.f args' w fun e w' => ∃ x ds bs', e = .returned x ∧ Own W (ds ++ (bs' ++ m)) w' ∧ bs'.map (·.1) = bs.map (·.1) ∧ ds.length = k.news.length ∧
        ∀ ρ' : Ren, (∀ n p, n < rel → ρ n = some p → ρ' n = some p) → (∀ (i : Nat) d, ds[i]? = some d → ρ' (rel + i) = some (d.1, objSize d.2)) →
          VR ρ' k.res x ∧ (∀ (i : Nat) t d, k.news[i]? = some t → ds[i]? = some d → TR ρ' t (objSize d.2) (some d.2)) ∧ ∀ p ∈ k.post, ∃ b o s, (b, o) ∈ bs' ∧ ρ p.1 = some (b, s) ∧ TR ρ' p.2 s (some o)) : KcOk P k :=
  kc_ownH hf hpost hpn fun hcs ρ W w m args' bs _ _ _ => hc hcs ρ W w m args' bs
end
end Go.Proofs.YthjjpmoifgcepaaGreat.Ex
