import Derived.Test.YtllbnoojkgbjiaaGreatFqFssK
/-
  wainscotlaw22.FastSteps: its known calls that look at memory. No condition.
-/
namespace Go.Proofs.YtllbnoojkgbjiaaGreat.Fss
open Go Ex Mem See
open Go.RowKit
section
variable [Nums]
theorem kc_newG {a : AV} {n : SE} {q N : Nat} (hsh : a.shut = true) (ha0 : Ex.valOf Nums.σ a = .int .i64 (N : Int)) (hn : n.ev Nums.σ = (N : Int)) (h1 : 1 ≤ N) (h2 : N ≤ 4096) (hv : LsVal Nums.σ q (natsI (List.replicate N 0))) :
    KcOk Tryz.prog (kcNew a n q) := by
  refine kc_own fn_new (by intro p hp; cases hp) (by intro p hp; cases hp) fun hcs ρ W w m args' bs hF ha hO => ?_
  have hbs : bs = [] := hF
  subst hbs
  have ha := VRs.shut ha (by simp only [kcNew, AV.shuts, hsh])
  have ha : args' = #[.int .i64 (N : Int)] := by
    apply Array.ext'
    rw [ha]
    simp only [kcNew, valsOf, ha0]
  subst ha
  refine (new_spec hO h1 h2).mono ?_
  rintro e w' ⟨b0, b1, rfl, h'⟩
  refine ⟨_, [mB b0 b1 N 0, wB b1 (List.replicate N 0)], [], rfl, h', rfl, rfl, fun ρ' _ hd => ?_⟩
  have d0 : ρ' rel = some (b0, 2) := hd 0 _ rfl
  have d1 : ρ' (rel + 1) = some (b1, (wRow (List.replicate N 0)).size) := hd 1 _ rfl
  have hsz : (wRow (List.replicate N 0)).size = N := by simp [wRow, words]
  rw [hsz] at d1
  refine ⟨?_, fun j t d hj hd2 => ?_, fun p hp => by cases hp⟩
  · unfold VR
    refine ⟨_, rfl, VRs.cons ?_ (VRs.cons (by unfold VR; rfl) VRs.nil)⟩
    unfold VR
    exact ⟨b0, _, d0, rfl⟩
  · match j with
    | 0 =>
      simp only [kcNew, List.getElem?_cons_zero, Option.some.injEq] at hj hd2
      subst hj; subst hd2
      refine ⟨_, rfl, rfl, Nat.le_refl _, fun i v hi => ?_⟩
      match i with
      | 0 =>
        simp only [List.getElem?_cons_zero, Option.some.injEq] at hi
        subst hi
        refine ⟨rfl, _, rfl, ?_⟩
        unfold VR
        exact ⟨b1, N, N, N, d1, rfl, Nat.le_refl _, by unfold maxLen; omega, by omega, hn⟩
      | 1 =>
        simp only [List.getElem?_cons_succ, List.getElem?_cons_zero, Option.some.injEq] at hi
        subst hi
        exact ⟨rfl, _, rfl, by unfold VR; rfl⟩
      | i + 2 => simp at hi
    | 1 =>
      simp only [kcNew, List.getElem?_cons_succ, List.getElem?_cons_zero, Option.some.injEq] at hj hd2
      subst hj; subst hd2
      exact tr_words (.var hv)
    | j + 2 => simp [kcNew] at hj
theorem kc_rnewG {a : AV} {n : SE} {q N : Nat} (hsh : a.shut = true) (ha0 : Ex.valOf Nums.σ a = .int .i64 (N : Int)) (hn : n.ev Nums.σ = (N : Int)) (h1 : 1 ≤ N) (h2 : N ≤ 4096) (hv : LsVal Nums.σ q (natsI (List.replicate N 0))) :
    KcOk Tryz.prog (kcRNew a n q) := by
  refine kc_own fn_rNew (by intro p hp; cases hp) (by intro p hp; cases hp) fun hcs ρ W w m args' bs hF ha hO => ?_
  have hbs : bs = [] := hF
  subst hbs
  have ha := VRs.shut ha (by simp only [kcRNew, AV.shuts, hsh])
  have ha : args' = #[.int .i64 (N : Int)] := by
    apply Array.ext'
    rw [ha]
    simp only [kcRNew, valsOf, ha0]
  subst ha
  refine (rnew_spec hO h1 h2).mono ?_
  rintro e w' ⟨b0, b1, rfl, h'⟩
  refine ⟨_, [rB b0 b1 N 0, wB b1 (List.replicate N 0)], [], rfl, h', rfl, rfl, fun ρ' _ hd => ?_⟩
  have d0 : ρ' rel = some (b0, 2) := hd 0 _ rfl
  have d1 : ρ' (rel + 1) = some (b1, (wRow (List.replicate N 0)).size) := hd 1 _ rfl
  have hsz : (wRow (List.replicate N 0)).size = N := by simp [wRow, words]
  rw [hsz] at d1
  refine ⟨?_, fun j t d hj hd2 => ?_, fun p hp => by cases hp⟩
  · unfold VR
    refine ⟨_, rfl, VRs.cons ?_ (VRs.cons (by unfold VR; rfl) VRs.nil)⟩
    unfold VR
    exact ⟨b0, _, d0, rfl⟩
  · match j with
    | 0 =>
      simp only [kcRNew, List.getElem?_cons_zero, Option.some.injEq] at hj hd2
      subst hj; subst hd2
      refine ⟨_, rfl, rfl, Nat.le_refl _, fun i v hi => ?_⟩
      match i with
      | 0 =>
        simp only [List.getElem?_cons_zero, Option.some.injEq] at hi
        subst hi
        refine ⟨rfl, _, rfl, ?_⟩
        unfold VR
        exact ⟨b1, N, N, N, d1, rfl, Nat.le_refl _, by unfold maxLen; omega, by omega, hn⟩
      | 1 =>
        simp only [List.getElem?_cons_succ, List.getElem?_cons_zero, Option.some.injEq] at hi
        subst hi
        exact ⟨rfl, _, rfl, by unfold VR; rfl⟩
      | i + 2 => simp at hi
    | 1 =>
      simp only [kcRNew, List.getElem?_cons_succ, List.getElem?_cons_zero, Option.some.injEq] at hj hd2
      subst hj; subst hd2
      exact tr_words (.var hv)
    | j + 2 => simp [kcRNew] at hj
theorem kc_cloneE {L : SE} {g : List Nat} (hL : LsIs Nums.σ L (natsI g)) (hlen : (v 30).ev Nums.σ = (g.length : Int)) (h0 : 0 < g.length) (h1 : g.length ≤ 4096) :
    KcOk Tryz.prog (kcClone L) := by
  have hn : (3 : Nat) < rel := by decide
  refine kc_own fn_clone (by intro p hp; simp only [kcClone, List.mem_cons, List.not_mem_nil, or_false] at hp; subst hp; exact ⟨_, List.mem_cons_self⟩)
    (by intro p hp; simp only [kcClone, List.mem_cons, List.not_mem_nil, or_false] at hp; subst hp; exact hn) fun _ ρ W w m args' bs hF ha hO => ?_
  obtain ⟨bw, ow, sw, r, rfl, pw, tw, rfl⟩ := hF
  obtain ⟨y, hy, hp⟩ := ha.one
  unfold VR at hp
  obtain ⟨bw', zw, ln', cap, pw', rfl, hlc, hcm, hz, hlen'⟩ := hp
  rw [pw] at pw'
  cases pw'
  have hl : ln' = g.length := by rw [hlen] at hlen'; omega
  subst hl
  have hargs2 : args' = #[.slice (some ⟨bw, 0, none⟩) g.length cap] := by
    apply Array.ext'
    rw [hy]
  subst hargs2
  have hs := src_words (c := cap) tw hL rfl hO List.mem_cons_self
  refine (clone_spec hO hs (by omega)).mono ?_
  rintro e w' ⟨v', bs', rfl, hw, h'⟩
  obtain ⟨gg, cp, cur, rfl, rfl, c1, c2, ⟨c3, c4⟩, c5⟩ := SlO.form hw h0
  have c4 := c4 rfl
  refine ⟨_, [(gg, .cells cur 23)], [(bw, ow)], rfl, h', rfl, rfl, fun ρ' hk hd => ?_⟩
  have d0 : ρ' rel = some (gg, cur.size) := hd 0 _ rfl
  refine ⟨?_, fun j t d hj hd2 => ?_, fun p hp => ?_⟩
  · unfold VR
    refine ⟨gg, cur.size, _, cp, d0, rfl, c1, c2, c4.symm, ?_⟩
    exact hlen
  · match j with
    | 0 =>
      simp only [kcClone, List.getElem?_cons_zero, Option.some.injEq] at hj hd2
      subst hj; subst hd2
      refine ⟨cur, rfl, rfl, ?_, fun r j' k' hr hk' => ?_⟩
      · simp only [hL.len, natsI_len, List.length_cons, List.length_nil, Nat.zero_add, Nat.mul_one]
        show g.length ≤ cur.size
        omega
      · simp only [hL.len, natsI_len] at hr
        have hj0 : j' = 0 := by
          have := (List.getElem?_eq_some_iff.1 hk').1
          simp only [List.length_cons, List.length_nil] at this
          omega
        subst hj0
        simp only [List.getElem?_cons_zero, Option.some.injEq] at hk'
        subst hk'
        simp only [List.length_cons, List.length_nil, Nat.zero_add, Nat.mul_one, Nat.add_zero]
        rw [hL.at_ r _ (natsI_get (List.getElem?_eq_getElem hr))]
        have h6 : (cur.toList.take (g.length * 1))[r]? = (words g)[r]? := by rw [c5]
        rw [List.getElem?_take, if_pos (show r < g.length * 1 from by omega), words_get (List.getElem?_eq_getElem hr)] at h6
        rw [← Array.getElem?_toList, h6]
        rfl
    | j + 1 => simp [kcClone] at hj
  · simp only [kcClone, List.mem_cons, List.not_mem_nil, or_false] at hp
    subst hp
    exact ⟨bw, ow, sw, by simp, pw, tw⟩
theorem kc_rw {c L : SE} {g : List Nat} {cn : Nat} (hc : c.ev Nums.σ = (cn : Int)) (hL : LsIs Nums.σ L (natsI g)) (hlen : (v 30).ev Nums.σ = (g.length : Int)) (h0 : 0 < g.length) (h1 : g.length ≤ 4096) :
    KcOk Tryz.prog (kcRW c L) := by
  refine kc_own fn_rWordsM (by intro p hp; simp only [kcRW, List.mem_cons, List.not_mem_nil, or_false] at hp; exact hp.elim (fun h => h ▸ ⟨_, List.mem_cons_self⟩) (fun h => h ▸ ⟨_, List.mem_cons_of_mem _ List.mem_cons_self⟩))
    (by intro p hp; simp only [kcRW, List.mem_cons, List.not_mem_nil, or_false] at hp; rcases hp with rfl | rfl <;> (show _ < rel; unfold rel; simp)) fun _ ρ W w m args' bs hF ha hO => ?_
  obtain ⟨b0, o0, s0, r, rfl, p0, t0, b1, o1, s1, r1, rfl, p1, t1, rfl⟩ := hF
  obtain ⟨y, hy, hp⟩ := ha.one
  obtain ⟨c0, z0, q0, rfl⟩ := hp.ptr_inv
  rw [p0] at q0
  cases q0
  have hargs2 : args' = #[.pointer (some ⟨b0, 0, none⟩)] := by apply Array.ext'; rw [hy]
  subst hargs2
  obtain ⟨cc, ecc, e1, e2, e3⟩ := t0
  simp only [Option.some.injEq] at ecc
  subst ecc
  obtain ⟨-, y0, hy0, hv0⟩ := e3 0 (.dsl 5 (v 30) 1) rfl
  unfold VR at hv0
  obtain ⟨bw', zw, ln', cap', pw', rfl, hlc, hcm, hz, hlen'⟩ := hv0
  rw [p1] at pw'
  cases pw'
  have hl : ln' = g.length := by rw [hlen] at hlen'; omega
  subst hl
  have hs := src_words (c := cap') t1 hL rfl hO (List.mem_cons_of_mem _ List.mem_cons_self)
  have hc0 : w.cell? ⟨b0, 0, none⟩ = some (.slice (some ⟨b1, 0, none⟩) g.length cap') := by rw [hO.cell List.mem_cons_self]; exact hy0
  refine (rwords_spec hO hc0 hs (by omega)).mono ?_
  rintro e w' ⟨v', bs', rfl, hw, h'⟩
  obtain ⟨gg, cp, cur, rfl, rfl, c1, c2, ⟨c3, c4⟩, c5⟩ := SlO.form hw h0
  have c4 := c4 rfl
  refine ⟨_, [(gg, .cells cur 23)], [(b0, .cells cc 66), (b1, o1)], rfl, h', rfl, rfl, fun ρ' hk hd => ?_⟩
  have d0 : ρ' rel = some (gg, cur.size) := hd 0 _ rfl
  refine ⟨?_, fun j t d hj hd2 => ?_, fun p hp => ?_⟩
  · unfold VR
    refine ⟨gg, cur.size, _, cp, d0, rfl, c1, c2, c4.symm, ?_⟩
    exact hlen
  · match j with
    | 0 =>
      simp only [kcRW, List.getElem?_cons_zero, Option.some.injEq] at hj hd2
      subst hj; subst hd2
      refine ⟨cur, rfl, rfl, ?_, fun r j' k' hr hk' => ?_⟩
      · simp only [hL.len, natsI_len, List.length_cons, List.length_nil, Nat.zero_add, Nat.mul_one]
        show g.length ≤ cur.size
        omega
      · simp only [hL.len, natsI_len] at hr
        have hj0 : j' = 0 := by
          have := (List.getElem?_eq_some_iff.1 hk').1
          simp only [List.length_cons, List.length_nil] at this
          omega
        subst hj0
        simp only [List.getElem?_cons_zero, Option.some.injEq] at hk'
        subst hk'
        simp only [List.length_cons, List.length_nil, Nat.zero_add, Nat.mul_one, Nat.add_zero]
        rw [hL.at_ r _ (natsI_get (List.getElem?_eq_getElem hr))]
        have h6 : (cur.toList.take (g.length * 1))[r]? = (words g)[r]? := by rw [c5]
        rw [List.getElem?_take, if_pos (show r < g.length * 1 from by omega), words_get (List.getElem?_eq_getElem hr)] at h6
        rw [← Array.getElem?_toList, h6]
        rfl
    | j + 1 => simp [kcRW] at hj
  · simp only [kcRW, List.mem_cons, List.not_mem_nil, or_false] at hp
    rcases hp with rfl | rfl
    · refine ⟨b0, _, s0, by simp, p0, ⟨cc, rfl, e1, e2, fun i q hi => ?_⟩⟩
      obtain ⟨h1, y, h2, h3⟩ := e3 i q hi
      refine ⟨h1, y, h2, ?_⟩
      match i with
      | 0 =>
        simp only [memB, List.getElem?_cons_zero, Option.some.injEq] at hi
        subst hi
        unfold VR at h3 ⊢
        obtain ⟨a0, a1, a2, a3, a4, a5⟩ := h3
        exact ⟨a0, a1, a2, a3, hk 5 _ (by decide) a4, a5⟩
      | 1 =>
        simp only [memB, List.getElem?_cons_succ, List.getElem?_cons_zero, Option.some.injEq] at hi
        subst hi
        unfold VR at h3 ⊢
        exact h3
      | i + 2 => simp [memB] at hi
    · exact ⟨b1, o1, s1, by simp, p1, t1⟩
theorem kc_eqW {a b : Nat} {L : SE} {g : List Nat} (ha : a < rel) (hb : b < rel) (hL : LsIs Nums.σ L (natsI g)) (hlen : (v 30).ev Nums.σ = (g.length : Int)) (hl : g.length ≤ 4096) :
    KcOk Tryz.prog (kcEqW a b L) := by
  refine kc_own fn_eqW (by intro p hp; simp only [kcEqW, List.mem_cons, List.not_mem_nil, or_false] at hp; exact hp.elim (fun h => h ▸ ⟨_, List.mem_cons_self⟩) (fun h => h ▸ ⟨_, List.mem_cons_of_mem _ List.mem_cons_self⟩))
    (by intro p hp; simp only [kcEqW, List.mem_cons, List.not_mem_nil, or_false] at hp; rcases hp with rfl | rfl <;> assumption) fun _ ρ W w m args' bs hF ha' hO => ?_
  obtain ⟨b0, o0, s0, r, rfl, p0, t0, b1, o1, s1, r1, rfl, p1, t1, rfl⟩ := hF
  obtain ⟨y, y2, hy, hp, hp2⟩ := VRs.two ha'
  unfold VR at hp hp2
  obtain ⟨c0, z0, l0, cap0, q0, rfl, _, _, _, e0⟩ := hp
  obtain ⟨c1, z1, l1, cap1, q1, rfl, _, _, _, e1⟩ := hp2
  rw [p0] at q0
  rw [p1] at q1
  cases q0
  cases q1
  have el0 : l0 = g.length := by rw [hlen] at e0; omega
  have el1 : l1 = g.length := by rw [hlen] at e1; omega
  have hargs2 : args' = #[.slice (some ⟨b0, 0, none⟩) l0 cap0, .slice (some ⟨b1, 0, none⟩) l1 cap1] := by
    apply Array.ext'
    rw [hy]
  subst hargs2
  have s0' := src_words (c := cap0) t0 hL el0 hO List.mem_cons_self
  have s1' := src_words (c := cap1) t1 hL el1 hO (List.mem_cons_of_mem _ List.mem_cons_self)
  subst el0
  refine (eqWords_same s0' s1' (by omega)).mono ?_
  rintro e w' ⟨rfl, nq, rfl⟩
  have h' := hO.drewN nq
  refine ⟨_, [], [(b0, o0), (b1, o1)], rfl, h', rfl, rfl, fun ρ' hk _ => ⟨by unfold VR; rfl, fun i t d hi => by simp [kcEqW] at hi, fun p hp => ?_⟩⟩
  simp only [kcEqW, List.mem_cons, List.not_mem_nil, or_false] at hp
  rcases hp with rfl | rfl
  · exact ⟨b0, o0, s0, by simp, p0, t0⟩
  · exact ⟨b1, o1, s1, by simp, p1, t1⟩
end
end Go.Proofs.YtllbnoojkgbjiaaGreat.Fss
