/-
  The runner: a region that draws its order (the end). No condition.
-/
import Derived.Test.YtigakendeghoaaaExN
namespace Go.Proofs.Ytigakendeghoaaa.Ex
open Go
noncomputable section
variable [Nums]
section
variable {P : Program} {call : FuncId → List AV → AH → Option (AV × AH)} {nt : Nat} {ops : Array Oper} {env0 : T AV} {h : AH} {rs : List Rk} {al : List (Nat × AO)}
variable {ρ0 ρ : Ren} {w0 w : World} {L L' : Nat → Bool} {lam : Nat} {a : Act}
omit [Nums] in
theorem more_at {i : Nat} (hL : ∀ j, L' j = true ↔ L j = true ∨ j = i) {q : Nat} (h : q ≠ i) : L' q = L q := by
  have := hL q
  cases h1 : L q <;> cases h2 : L' q <;> simp_all
/-- an operation that makes a block -/
theorem AI.alloc (hI : AI nt ops env0 h rs ρ0 w0 L lam ρ w a) {i : Nat} {o : Oper} {ao : AO} {v : AV} {x : Value} {obj : Obj} {s : Nat} (hk : Ex.chk ops = true) (hr : Rdy ops L i o) (hri : rs[i]? = some (.alloc ao v)) (hL : ∀ j, L' j = true ↔ L j = true ∨ j = i) (hd : ∀ d, o.dst = some d → d < nt)
    (hO : OR ρ ao s (some obj)) (hx : ∀ ρ' : Ren, ρ' (h.next + i) = some (w.heap.size, s) → VR ρ' v x) : AI nt ops env0 h rs ρ0 w0 L' lam (upd ρ (h.next + i) (w.heap.size, s)) (w.alloc obj) (a.put o.dst x) := by
  have hi : i < ops.size := (Array.getElem?_eq_some_iff.1 hr.op).1
  have hCi : consAt ops rs lam i = false := by
    cases hc : consAt ops rs lam i with
    | false => rfl
    | true =>
      obtain ⟨l, u, g, h1, h2, h3⟩ := consAt_iff.1 hc
      have := ahead_dep h3 hI.cl ((hI.loud l u g h2).2 h1)
      rw [hr.no] at this
      cases this
  have hnl : ∀ {q : Nat} {u : AV} {g : AH}, rs[q]? = some (.loud u g) → q ≠ i := fun hq he => by
    subst he
    rw [hri] at hq
    cases hq
  obtain ⟨hst, hm⟩ := Stp.kept (w' := w.alloc obj) (g' := gF h.next rs L' (consAt ops rs lam) (mainAt ops h rs lam)) hI.st (h.next + i) (hI.nm i hi hr.no) (by omega) (by have := hI.nx; omega) hO rfl rfl rfl rfl (fun m o' hm => by
    rcases gF_cases hm with ⟨q, u, rfl, h1, h2, h3⟩ | ⟨h1, h2⟩
    · by_cases hq : q = i
      · subst hq
        rw [hri] at h1
        cases h1
        exact .inl ⟨rfl, rfl⟩
      · exact .inr ⟨by omega, gF_alloc h1 (by rw [← more_at hL hq]; exact h2) h3⟩
    · by_cases hmi : m = h.next + i
      · have := h2 i ao v hmi hri ((hL i).2 (.inr rfl))
        rw [hCi] at this
        cases this
      · refine .inr ⟨hmi, gF_main h1 fun q ao' v' he hq hLq => h2 q ao' v' he hq ((hL q).2 (.inl hLq))⟩)
  have hup : upd ρ (h.next + i) (w.heap.size, s) (h.next + i) = some (w.heap.size, s) := by simp [upd]
  refine ⟨closed_more hI.cl hr hL, fun j hj => ?_, hI.lam0, fun q u g hq => ?_, hst, hI.nx, fun j hj hn => ?_, hI.mask, by rw [put_defers]; exact hI.dz, by rw [put_size]; exact hI.size,
    put_vals hk hI.cl hr hri hL hd hI.size hI.val hm (hx _ hup)⟩
  · rcases (hL j).1 hj with h1 | rfl
    · exact hI.lt j h1
    · exact hi
  · rw [← hI.loud q u g hq, more_at hL (hnl hq)]
  · have hji : j ≠ i := fun he => by
      subst he
      rw [(hL j).2 (.inr rfl)] at hn
      cases hn
    rw [more_at hL hji] at hn
    unfold upd
    rw [if_neg (by omega)]
    exact hI.nm j hj hn
omit [Nums] in
theorem isLoud_of {o : Oper} (h : kd o.op = .loud) : isLoud o = true := by unfold isLoud; rw [h]
/-- no loud operation stands between the last one that is done and the next one -/
theorem Reg.gap (hR : Reg P call nt ops env0 h rs al) (hI : AI nt ops env0 h rs ρ0 w0 L lam ρ w a) {i : Nat} {o : Oper} (hr : Rdy ops L i o) (hko : kd o.op = .loud) {l : Nat} {u : AV} {g : AH} (hl : rs[l]? = some (.loud u g)) (hli : l < i) : l < lam := by
  have hlt : l < rs.length := (List.getElem?_eq_some_iff.1 hl).1
  obtain ⟨q, hq⟩ : ∃ q, ops[l]? = some q := ⟨_, Array.getElem?_eq_getElem (by rw [← hR.len]; exact hlt)⟩
  have hql : isLoud q = true := by
    obtain ⟨env, h1, cons, al', _, _, hf⟩ := hR.fact l _ q hl hq
    rcases hf with ⟨_, h2⟩ | ⟨_, vs, _, h2⟩
    · cases h2
    · unfold KF at h2
      unfold isLoud
      split at h2
      · obtain ⟨_, _, h3⟩ := h2; cases h3
      · obtain ⟨_, h3⟩ := h2; cases h3
      · obtain ⟨_, _, _, h3⟩ := h2; cases h3
      · rename_i hk; rw [hk]
  have := (chk_ord hR.chk hr.op hq (by omega) (.inr ⟨isLoud_of hko, hql⟩)).1 hli
  exact (hI.loud l u g hl).1 (Rdy.ahead hI.cl this hr (by omega))
theorem Reg.main_eq (hR : Reg P call nt ops env0 h rs al) (hI : AI nt ops env0 h rs ρ0 w0 L lam ρ w a) {i : Nat} {o : Oper} (hr : Rdy ops L i o) (hko : kd o.op = .loud) (hle : lam ≤ i) :
    heapOf (h.skip ops.size) (rs.take i) = mainAt ops h rs lam := by
  have hs : rs.take i = rs.take lam ++ (rs.drop lam).take (i - lam) := by
    rw [← List.take_add, show lam + (i - lam) = i from by omega]
  rw [hs, heapOf_append, heapOf_none]
  · rfl
  · intro r hmem
    obtain ⟨k, hk⟩ := List.mem_iff_getElem?.1 hmem
    obtain ⟨h1, h2⟩ := take_get.1 hk
    rw [List.getElem?_drop] at h2
    cases r with
    | loud u g =>
      have := hR.gap hI hr hko h2 (by omega)
      omega
    | _ => rfl
/-- a loud operation -/
theorem AI.loudOp (hR : Reg P call nt ops env0 h rs al) (hI : AI nt ops env0 h rs ρ0 w0 L lam ρ w a) {i : Nat} {o : Oper} {v : AV} {H' V : AH} {x : Value} {ρ' : Ren} {w' : World} (hr : Rdy ops L i o) (hko : kd o.op = .loud) (hri : rs[i]? = some (.loud v H')) (hL : ∀ j, L' j = true ↔ L j = true ∨ j = i) (hd : ∀ d, o.dst = some d → d < nt)
    (hVn : V.next = (mainAt ops h rs lam).next) (hV : ∀ m o', V.get m = some o' → (∃ q, ahead (bf ops) q i = true ∧ consAt ops rs lam q = false ∧ m = h.next + q ∧ ∃ u, rs[q]? = some (.alloc o' u)) ∨ (mainAt ops h rs lam).get m = some o')
    (hVi : ∀ m o', V.get m = some o' → gF h.next rs L (consAt ops rs lam) (mainAt ops h rs lam) m = some o')
    (hst : Stp ρ V.get V.next w ρ' H'.get H'.next w') (hx : VR ρ' v x) : AI nt ops env0 h rs ρ0 w0 L' (i + 1) ρ' w' (a.put o.dst x) := by
  have hi : i < ops.size := (Array.getElem?_eq_some_iff.1 hr.op).1
  have hli : lam ≤ i := by
    rcases Nat.lt_or_ge i lam with h1 | h1
    · have := (hI.loud i v H' hri).2 h1
      rw [hr.no] at this
      cases this
    · exact h1
  have hmain' : mainAt ops h rs (i + 1) = H' := by
    unfold mainAt
    have hlt := (List.getElem?_eq_some_iff.1 hri).1
    have hri' : rs[i] = .loud v H' := (List.getElem?_eq_some_iff.1 hri).2
    rw [List.take_succ_eq_append_getElem hlt, heapOf_append, hri']
    rfl
  have hmono : ∀ q, consAt ops rs lam q = true → consAt ops rs (i + 1) q = true := fun q hq => by
    obtain ⟨l, u, g, h1, h2, h3⟩ := consAt_iff.1 hq
    exact consAt_iff.2 ⟨l, u, g, by omega, h2, h3⟩
  have hmono' : ∀ q, ahead (bf ops) q i = true → consAt ops rs (i + 1) q = true := fun q hq => consAt_iff.2 ⟨i, v, H', by omega, hri, hq⟩
  have hcons' : ∀ q, consAt ops rs (i + 1) q = true → consAt ops rs lam q = true ∨ ahead (bf ops) q i = true := fun q hq => by
    obtain ⟨l, u, g, h1, h2, h3⟩ := consAt_iff.1 hq
    rcases Nat.lt_or_ge l i with h4 | h4
    · exact .inl (consAt_iff.2 ⟨l, u, g, hR.gap hI hr hko h2 h4, h2, h3⟩)
    · have : l = i := by omega
      subst this
      exact .inr h3
  have hst' : Stp ρ (gF h.next rs L (consAt ops rs lam) (mainAt ops h rs lam)) (mainAt ops h rs lam).next w ρ' (gF h.next rs L' (consAt ops rs (i + 1)) H') H'.next w' := by
    rw [hVn] at hst
    refine Stp.frame hI.st.hr hVi hst _ fun m o' hm => ?_
    rcases gF_cases hm with ⟨q, u, rfl, h1, h2, h3⟩ | ⟨h1, h2⟩
    · left
      have hqi : q ≠ i := fun he => by subst he; rw [hri] at h1; cases h1
      have hq0 : consAt ops rs lam q = false := by
        cases hc : consAt ops rs lam q with
        | false => rfl
        | true => rw [hmono q hc] at h3; cases h3
      refine ⟨gF_alloc h1 (by rw [← more_at hL hqi]; exact h2) hq0, ?_⟩
      cases hg : V.get (h.next + q) with
      | none => rfl
      | some o2 =>
        rcases hV _ _ hg with ⟨q', h4, _, h5, _⟩ | h4
        · have : q' = q := by omega
          subst this
          rw [hmono' _ h4] at h3
          cases h3
        · have := hI.mask q (by rw [← hR.len]; exact (List.getElem?_eq_some_iff.1 h1).1) (by rw [h4]; rfl)
          rw [hq0] at this
          cases this
    · exact .inr h1
  have hgr := hst.gr
  rw [hVn] at hgr
  have hnx : h.next + ops.size ≤ H'.next := Nat.le_trans hI.nx hgr
  refine ⟨closed_more hI.cl hr hL, fun j hj => ?_, .inr ⟨i, v, H', rfl, hri⟩, fun q u g hq => ?_, by rw [hmain']; exact hI.st.trans hst', by rw [hmain']; exact hnx, fun j hj hn => ?_, fun j hj hm => ?_, by rw [put_defers]; exact hI.dz, by rw [put_size]; exact hI.size,
    put_vals hR.chk hI.cl hr hri hL hd hI.size hI.val (Stp.mono hI.st.hr hst') hx⟩
  · rcases (hL j).1 hj with h1 | rfl
    · exact hI.lt j h1
    · exact hi
  · rw [hL, hI.loud q u g hq]
    constructor
    · rintro (h1 | rfl) <;> omega
    · intro h1
      rcases Nat.lt_or_ge q i with h2 | h2
      · exact .inl (hR.gap hI hr hko hq h2)
      · exact .inr (by omega)
  · have hjL : L j = false := by
      cases h1 : L j with
      | false => rfl
      | true => rw [(hL j).2 (.inl h1)] at hn; cases hn
    rw [hst'.ext (h.next + j) (by have := hI.nx; omega)]
    exact hI.nm j hj hjL
  · rw [hmain'] at hm
    have := hst.dom (h.next + j) (by rw [hVn]; have := hI.nx; omega) hm
    obtain ⟨o2, ho2⟩ := Option.isSome_iff_exists.1 this
    rcases hV _ _ ho2 with ⟨q', h4, _, h5, _⟩ | h4
    · have : q' = j := by omega
      subst this
      exact hmono' _ h4
    · exact hmono _ (hI.mask j hj (by rw [h4]; rfl))
/-- one operation that may come next -/
theorem Reg.step (hR : Reg P call nt ops env0 h rs al) (hc : CallS P call) (hI : AI nt ops env0 h rs ρ0 w0 L lam ρ w a) {i : Nat} {o : Oper} (hr : Rdy ops L i o) (hL : ∀ j, L' j = true ↔ L j = true ∨ j = i) {Q : Exit → Act → World → Prop} {K : Act → World → Prop}
    (hK : ∀ lam' ρ' w' a', AI nt ops env0 h rs ρ0 w0 L' lam' ρ' w' a' → K a' w') : wpOp P ops Q i K a w := by
  have hi : i < ops.size := (Array.getElem?_eq_some_iff.1 hr.op).1
  obtain ⟨r, hri⟩ : ∃ r, rs[i]? = some r := ⟨_, List.getElem?_eq_getElem (by rw [hR.len]; exact hi)⟩
  obtain ⟨env, h1, cons, al', hInv, hd, hf⟩ := hR.fact i r o hri hr.op
  have hlen : (rs.take i).length = i := by rw [List.length_take, Nat.min_eq_left (by rw [hR.len]; omega)]
  have hpre : ∀ k, k < i → (rs.take i)[k]? = rs[k]? := fun k hk => by rw [List.getElem?_take, if_pos hk]
  have hvals : ∀ {env : T AV}, (∀ t v, env.get t = some v → Val ops env0 rs (below i) t v) → ∀ t v, t ∈ looks ops o → env.get t = some v → ∃ x, a.tmps[t]? = some x ∧ VR ρ v x := fun he t v ht hg => hI.val t v (Rdy.val hR.chk hI.cl hr ht (he t v hg))
  have henv : ∀ t v, env.get t = some v → Val ops env0 rs (below i) t v := fun t v hv => by
    have := hInv.env t v hv
    rw [hlen] at this
    exact this.ext hpre
  unfold wpOp
  rw [hr.op]
  dsimp only
  rcases hf with ⟨hg, rfl⟩ | ⟨hg, vs, hvs, hkf⟩
  · have hw := guard_rel (ρ := ρ) (a := a) (fun t v ht => hvals henv t v (looks_of ht)) hg
    rw [hw]
    simp only [Bool.false_eq_true, if_false]
    exact hK lam ρ w _ (AI.still hI hR.chk hr hri hL hd rfl (by intro _ _ h; cases h) (by unfold Rk.res und VR; exact ⟨#[], rfl, VRs.nil⟩))
  · have hw := guard_rel (ρ := ρ) (a := a) (fun t v ht => hvals henv t v (looks_of ht)) hg
    rw [hw]
    simp only [if_true]
    left
    have hv : VRs ρ vs (o.op.operands.toList.map a.eval) := evs_rel (fun t v ht => hvals henv t v (looks_of (tmp_looks ht))) hvs
    unfold KF at hkf
    split at hkf
    · obtain ⟨v, hp, rfl⟩ := hkf
      obtain ⟨x, hx, hrun⟩ := pure_sound hp hv
      unfold Oper.wp
      rw [hrun w]
      exact hK lam ρ w _ (AI.still hI hR.chk hr hri hL hd rfl (by intro _ _ h; cases h) hx)
    · rename_i hkd
      obtain ⟨v, rfl⟩ := hkf
      obtain ⟨env2, vs2, henv2, hvs2, hsame⟩ := hR.read i v o hri hr.op hkd
      have hv2 : VRs ρ vs2 (o.op.operands.toList.map a.eval) := evs_rel (fun t v ht => hvals henv2 t v (looks_of (tmp_looks ht))) hvs2
      have hmay : mayAt (bf ops) i lam 0 rs = true := by
        refine mayAt_ok fun k u g hk => ?_
        rw [Nat.zero_add]
        have hki : k ≠ i := fun he => by subst he; rw [hri] at hk; cases hk
        refine ⟨fun hlt => ?_, fun hge => ?_⟩
        · cases ha : ahead (bf ops) i k with
          | false => rfl
          | true =>
            have := ahead_dep ha hI.cl ((hI.loud k u g hk).2 hlt)
            rw [hr.no] at this
            cases this
        · cases ha : ahead (bf ops) k i with
          | false => rfl
          | true =>
            have := (hI.loud k u g hk).1 (Rdy.ahead hI.cl ha hr hki)
            omega
      obtain ⟨c, hcb, hread⟩ := sameAll_spec hsame lam hI.lam0 hmay
      have hcc : ∀ q, c.testBit q = consAt ops rs lam q := fun q => by
        have := hcb q
        rw [← consB_P] at this
        unfold consAt
        cases h1 : c.testBit q <;> cases h2 : consB (bf ops) q 0 (rs.take lam) <;> simp_all
      obtain ⟨x, hx, hrun⟩ := read_sound (nx := (mainAt ops h rs lam).next) (w := w) (HR.sub hI.st.hr fun m o' hm => by
        refine AI.view hI (al := al) hr (fun q ao hq => (hR.al q ao).1 hq) hri (by intro _ _ h; cases h) (fun q hq => ?_) hm
        rw [Bool.and_eq_true] at hq
        refine ⟨hq.1, ?_⟩
        have := hq.2
        rw [hcc] at this
        simpa using this) hread hv2
      unfold Oper.wp
      rw [hrun]
      exact hK lam ρ w _ (AI.still hI hR.chk hr hri hL hd rfl (by intro _ _ h; cases h) hx)
    · obtain ⟨ao, k, ha, rfl⟩ := hkf
      obtain ⟨obj, s, hO, hrun⟩ := alloc_sound ha hv
      obtain ⟨x, hrx, hx⟩ := hrun w
      unfold Oper.wp
      rw [hrx]
      exact hK lam _ _ _ (AI.alloc hI hR.chk hr hri hL hd hO fun ρ' hp => hx ρ' _ hp)
    · rename_i hkd
      obtain ⟨v, H', rfl, hop⟩ := hkf
      have hli : lam ≤ i := by
        rcases Nat.lt_or_ge i lam with h1 | h1
        · have := (hI.loud i v H' hri).2 h1
          rw [hr.no] at this
          cases this
        · exact h1
      have hmain : h1 = mainAt ops h rs lam := by rw [hInv.heap, hR.main_eq hI hr hkd hli]
      have hcons : ∀ q, cons.testBit q = consAt ops rs lam q := fun q => by
        have h2 : cons.testBit q = true ↔ consAt ops rs lam q = true := by
          rw [hInv.cons, consAt_iff]
          constructor
          · rintro ⟨l, u, g, h3, h4⟩
            obtain ⟨h5, h6⟩ := take_get.1 h3
            exact ⟨l, u, g, hR.gap hI hr hkd h6 h5, h6, h4⟩
          · rintro ⟨l, u, g, h3, h4, h5⟩
            exact ⟨l, u, g, take_get.2 ⟨by omega, h4⟩, h5⟩
        cases h3 : cons.testBit q <;> cases h4 : consAt ops rs lam q <;> simp_all
      have hal' : ∀ q ao, (q, ao) ∈ al' → ∃ u, rs[q]? = some (.alloc ao u) := fun q ao hq => by
        obtain ⟨u, hu⟩ := (hInv.al q ao).1 hq
        exact ⟨u, (take_get.1 hu).2⟩
      rw [hmain] at hop
      have hview : ∀ m o', (overlay h.next (fun q => ahead (bf ops) q i && !(cons.testBit q)) al' (mainAt ops h rs lam)).get m = some o' → gF h.next rs L (consAt ops rs lam) (mainAt ops h rs lam) m = some o' := fun m o' hm => by
        refine AI.view hI (al := al') hr hal' hri (by intro _ _ h; cases h) (fun q hq => ?_) hm
        rw [Bool.and_eq_true] at hq
        refine ⟨hq.1, ?_⟩
        have := hq.2
        rw [hcons] at this
        simpa using this
      refine loudOp_wp hc hkd hop (HR.sub (by rw [overlay_next]; exact hI.st.hr) hview) hv fun ρ' x w' hst hx => ?_
      refine hK (i + 1) ρ' w' _ (AI.loudOp hR hI hr hkd hri hL hd overlay_next (fun m o' hm => ?_) hview hst hx)
      rcases overlay_spec hm with ⟨q, h2, h3, rfl⟩ | h2
      · left
        rw [Bool.and_eq_true] at h2
        obtain ⟨u, hu⟩ := hal' _ _ h3
        refine ⟨q, h2.1, ?_, rfl, u, hu⟩
        have := h2.2
        rw [hcons] at this
        simpa using this
      · exact .inr h2
end
end
end Go.Proofs.Ytigakendeghoaaa.Ex
