/-
  Texts of this claim, joined. No condition.
-/
import Derived.Test.YtigakendeghoaaaFs3
import Derived.Below
import Derived.Test.YtigakendeghoaaaRows
import Derived.WalkKit
import Derived.WalkSpells
import Derived.WalkLawsBesides
import Derived.Deep.Draws
import Derived.Deep.QuietTactic
import Derived.BigQuiet
import Derived.Lib.Hide
import Derived.ProofKit
import Derived.Sort.AtCall
import Derived.Deep.RegionHeld3
import Derived.Deep.RegionWith
import Derived.Deep.DrawnRows
import Derived.OpenShut
/-
  The runner: a region that draws its order (the end). No condition.
-/
namespace Go.Proofs.Ytigakendeghoaaa.Ex
open Go
noncomputable section
variable [Nums]
section
variable {P : Program} {call : FuncId → List AV → AH → Option (AV × AH)} {nt : Nat} {ops : Array Oper} {env0 : T AV} {h : AH} {rs : List Rk} {al : List (Nat × AO)}
variable {ρ0 ρ : Ren} {w0 w : World} {L L' : Nat → Bool} {lam : Nat} {a : Act}
omit [Nums] in
theorem more_at {i : Nat} (hL : ∀ j, L' j = true ↔ L j = true ∨ j = i) {q : Nat} (h : q ≠ i) : L' q = L q := by
  have := hL q
  cases h1 : L q <;> cases h2 : L' q <;> simp_all
/-- an operation that makes a block -/
theorem AI.alloc (hI : AI nt ops env0 h rs ρ0 w0 L lam ρ w a) {i : Nat} {o : Oper} {ao : AO} {v : AV} {x : Value} {obj : Obj} {s : Nat} (hk : Ex.chk ops = true) (hr : Rdy ops L i o) (hri : rs[i]? = some (.alloc ao v)) (hL : ∀ j, L' j = true ↔ L j = true ∨ j = i) (hd : ∀ d, o.dst = some d → d < nt)
    (hO : OR ρ ao s (some obj)) (hx : ∀ ρ' : Ren, ρ' (h.next + i) = some (w.heap.size, s) → VR ρ' v x) : AI nt ops env0 h rs ρ0 w0 L' lam (upd ρ (h.next + i) (w.heap.size, s)) (w.alloc obj) (a.put o.dst x) := by
  have hi : i < ops.size := (Array.getElem?_eq_some_iff.1 hr.op).1
  have hCi : consAt ops rs lam i = false := by
    cases hc : consAt ops rs lam i with
    | false => rfl
    | true =>
      obtain ⟨l, u, g, h1, h2, h3⟩ := consAt_iff.1 hc
      have := ahead_dep h3 hI.cl ((hI.loud l u g h2).2 h1)
      rw [hr.no] at this
      cases this
  have hnl : ∀ {q : Nat} {u : AV} {g : AH}, rs[q]? = some (.loud u g) → q ≠ i := fun hq he => by
    subst he
    rw [hri] at hq
    cases hq
  obtain ⟨hst, hm⟩ := Stp.kept (w' := w.alloc obj) (g' := gF h.next rs L' (consAt ops rs lam) (mainAt ops h rs lam)) hI.st (h.next + i) (hI.nm i hi hr.no) (by omega) (by have := hI.nx; omega) hO rfl rfl rfl rfl (fun m o' hm => by
    rcases gF_cases hm with ⟨q, u, rfl, h1, h2, h3⟩ | ⟨h1, h2⟩
    · by_cases hq : q = i
      · subst hq
        rw [hri] at h1
        cases h1
        exact .inl ⟨rfl, rfl⟩
      · exact .inr ⟨by omega, gF_alloc h1 (by rw [← more_at hL hq]; exact h2) h3⟩
    · by_cases hmi : m = h.next + i
      · have := h2 i ao v hmi hri ((hL i).2 (.inr rfl))
        rw [hCi] at this
        cases this
      · refine .inr ⟨hmi, gF_main h1 fun q ao' v' he hq hLq => h2 q ao' v' he hq ((hL q).2 (.inl hLq))⟩)
  have hup : upd ρ (h.next + i) (w.heap.size, s) (h.next + i) = some (w.heap.size, s) := by simp [upd]
  refine ⟨closed_more hI.cl hr hL, fun j hj => ?_, hI.lam0, fun q u g hq => ?_, hst, hI.nx, fun j hj hn => ?_, hI.mask, by rw [put_defers]; exact hI.dz, by rw [put_size]; exact hI.size,
    put_vals hk hI.cl hr hri hL hd hI.size hI.val hm (hx _ hup)⟩
  · rcases (hL j).1 hj with h1 | rfl
    · exact hI.lt j h1
    · exact hi
  · rw [← hI.loud q u g hq, more_at hL (hnl hq)]
  · have hji : j ≠ i := fun he => by
      subst he
      rw [(hL j).2 (.inr rfl)] at hn
      cases hn
    rw [more_at hL hji] at hn
    unfold upd
    rw [if_neg (by omega)]
    exact hI.nm j hj hn
omit [Nums] in
theorem isLoud_of {o : Oper} (h : kd o.op = .loud) : isLoud o = true := by unfold isLoud; rw [h]
/-- no loud operation stands between the last one that is done and the next one -/
theorem Reg.gap (hR : Reg P call nt ops env0 h rs al) (hI : AI nt ops env0 h rs ρ0 w0 L lam ρ w a) {i : Nat} {o : Oper} (hr : Rdy ops L i o) (hko : kd o.op = .loud) {l : Nat} {u : AV} {g : AH} (hl : rs[l]? = some (.loud u g)) (hli : l < i) : l < lam := by
  have hlt : l < rs.length := (List.getElem?_eq_some_iff.1 hl).1
  obtain ⟨q, hq⟩ : ∃ q, ops[l]? = some q := ⟨_, Array.getElem?_eq_getElem (by rw [← hR.len]; exact hlt)⟩
  have hql : isLoud q = true := by
    obtain ⟨env, h1, cons, al', _, _, hf⟩ := hR.fact l _ q hl hq
    rcases hf with ⟨_, h2⟩ | ⟨_, vs, _, h2⟩
    · cases h2
    · unfold KF at h2
      unfold isLoud
      split at h2
      · obtain ⟨_, _, h3⟩ := h2; cases h3
      · obtain ⟨_, h3⟩ := h2; cases h3
      · obtain ⟨_, _, _, h3⟩ := h2; cases h3
      · rename_i hk; rw [hk]
  have := (chk_ord hR.chk hr.op hq (by omega) (.inr ⟨isLoud_of hko, hql⟩)).1 hli
  exact (hI.loud l u g hl).1 (Rdy.ahead hI.cl this hr (by omega))
theorem Reg.main_eq (hR : Reg P call nt ops env0 h rs al) (hI : AI nt ops env0 h rs ρ0 w0 L lam ρ w a) {i : Nat} {o : Oper} (hr : Rdy ops L i o) (hko : kd o.op = .loud) (hle : lam ≤ i) :
    heapOf (h.skip ops.size) (rs.take i) = mainAt ops h rs lam := by
  have hs : rs.take i = rs.take lam ++ (rs.drop lam).take (i - lam) := by
    rw [← List.take_add, show lam + (i - lam) = i from by omega]
  rw [hs, heapOf_append, heapOf_none]
  · rfl
  · intro r hmem
    obtain ⟨k, hk⟩ := List.mem_iff_getElem?.1 hmem
    obtain ⟨h1, h2⟩ := take_get.1 hk
    rw [List.getElem?_drop] at h2
    cases r with
    | loud u g =>
      have := hR.gap hI hr hko h2 (by omega)
      omega
    | _ => rfl
/-- a loud operation -/
theorem AI.loudOp (hR : Reg P call nt ops env0 h rs al) (hI : AI nt ops env0 h rs ρ0 w0 L lam ρ w a) {i : Nat} {o : Oper} {v : AV} {H' V : AH} {x : Value} {ρ' : Ren} {w' : World} (hr : Rdy ops L i o) (hko : kd o.op = .loud) (hri : rs[i]? = some (.loud v H')) (hL : ∀ j, L' j = true ↔ L j = true ∨ j = i) (hd : ∀ d, o.dst = some d → d < nt)
    (hVn : V.next = (mainAt ops h rs lam).next) (hV : ∀ m o', V.get m = some o' → (∃ q, ahead (bf ops) q i = true ∧ consAt ops rs lam q = false ∧ m = h.next + q ∧ ∃ u, rs[q]? = some (.alloc o' u)) ∨ (mainAt ops h rs lam).get m = some o')
    (hVi : ∀ m o', V.get m = some o' → gF h.next rs L (consAt ops rs lam) (mainAt ops h rs lam) m = some o')
    (hst : Stp ρ V.get V.next w ρ' H'.get H'.next w') (hx : VR ρ' v x) : AI nt ops env0 h rs ρ0 w0 L' (i + 1) ρ' w' (a.put o.dst x) := by
  have hi : i < ops.size := (Array.getElem?_eq_some_iff.1 hr.op).1
  have hli : lam ≤ i := by
    rcases Nat.lt_or_ge i lam with h1 | h1
    · have := (hI.loud i v H' hri).2 h1
      rw [hr.no] at this
      cases this
    · exact h1
  have hmain' : mainAt ops h rs (i + 1) = H' := by
    unfold mainAt
    have hlt := (List.getElem?_eq_some_iff.1 hri).1
    have hri' : rs[i] = .loud v H' := (List.getElem?_eq_some_iff.1 hri).2
    rw [List.take_succ_eq_append_getElem hlt, heapOf_append, hri']
    rfl
  have hmono : ∀ q, consAt ops rs lam q = true → consAt ops rs (i + 1) q = true := fun q hq => by
    obtain ⟨l, u, g, h1, h2, h3⟩ := consAt_iff.1 hq
    exact consAt_iff.2 ⟨l, u, g, by omega, h2, h3⟩
  have hmono' : ∀ q, ahead (bf ops) q i = true → consAt ops rs (i + 1) q = true := fun q hq => consAt_iff.2 ⟨i, v, H', by omega, hri, hq⟩
  have hcons' : ∀ q, consAt ops rs (i + 1) q = true → consAt ops rs lam q = true ∨ ahead (bf ops) q i = true := fun q hq => by
    obtain ⟨l, u, g, h1, h2, h3⟩ := consAt_iff.1 hq
    rcases Nat.lt_or_ge l i with h4 | h4
    · exact .inl (consAt_iff.2 ⟨l, u, g, hR.gap hI hr hko h2 h4, h2, h3⟩)
    · have : l = i := by omega
      subst this
      exact .inr h3
  have hst' : Stp ρ (gF h.next rs L (consAt ops rs lam) (mainAt ops h rs lam)) (mainAt ops h rs lam).next w ρ' (gF h.next rs L' (consAt ops rs (i + 1)) H') H'.next w' := by
    rw [hVn] at hst
    refine Stp.frame hI.st.hr hVi hst _ fun m o' hm => ?_
    rcases gF_cases hm with ⟨q, u, rfl, h1, h2, h3⟩ | ⟨h1, h2⟩
    · left
      have hqi : q ≠ i := fun he => by subst he; rw [hri] at h1; cases h1
      have hq0 : consAt ops rs lam q = false := by
        cases hc : consAt ops rs lam q with
        | false => rfl
        | true => rw [hmono q hc] at h3; cases h3
      refine ⟨gF_alloc h1 (by rw [← more_at hL hqi]; exact h2) hq0, ?_⟩
      cases hg : V.get (h.next + q) with
      | none => rfl
      | some o2 =>
        rcases hV _ _ hg with ⟨q', h4, _, h5, _⟩ | h4
        · have : q' = q := by omega
          subst this
          rw [hmono' _ h4] at h3
          cases h3
        · have := hI.mask q (by rw [← hR.len]; exact (List.getElem?_eq_some_iff.1 h1).1) (by rw [h4]; rfl)
          rw [hq0] at this
          cases this
    · exact .inr h1
  have hgr := hst.gr
  rw [hVn] at hgr
  have hnx : h.next + ops.size ≤ H'.next := Nat.le_trans hI.nx hgr
  refine ⟨closed_more hI.cl hr hL, fun j hj => ?_, .inr ⟨i, v, H', rfl, hri⟩, fun q u g hq => ?_, by rw [hmain']; exact hI.st.trans hst', by rw [hmain']; exact hnx, fun j hj hn => ?_, fun j hj hm => ?_, by rw [put_defers]; exact hI.dz, by rw [put_size]; exact hI.size,
    put_vals hR.chk hI.cl hr hri hL hd hI.size hI.val (Stp.mono hI.st.hr hst') hx⟩
  · rcases (hL j).1 hj with h1 | rfl
    · exact hI.lt j h1
    · exact hi
  · rw [hL, hI.loud q u g hq]
    constructor
    · rintro (h1 | rfl) <;> omega
    · intro h1
      rcases Nat.lt_or_ge q i with h2 | h2
      · exact .inl (hR.gap hI hr hko hq h2)
      · exact .inr (by omega)
  · have hjL : L j = false := by
      cases h1 : L j with
      | false => rfl
      | true => rw [(hL j).2 (.inl h1)] at hn; cases hn
    rw [hst'.ext (h.next + j) (by have := hI.nx; omega)]
    exact hI.nm j hj hjL
  · rw [hmain'] at hm
    have := hst.dom (h.next + j) (by rw [hVn]; have := hI.nx; omega) hm
    obtain ⟨o2, ho2⟩ := Option.isSome_iff_exists.1 this
    rcases hV _ _ ho2 with ⟨q', h4, _, h5, _⟩ | h4
    · have : q' = j := by omega
      subst this
      exact hmono' _ h4
    · exact hmono _ (hI.mask j hj (by rw [h4]; rfl))
/-- one operation that may come next -/
theorem Reg.step (hR : Reg P call nt ops env0 h rs al) (hc : CallS P call) (hI : AI nt ops env0 h rs ρ0 w0 L lam ρ w a) {i : Nat} {o : Oper} (hr : Rdy ops L i o) (hL : ∀ j, L' j = true ↔ L j = true ∨ j = i) {Q : Exit → Act → World → Prop} {K : Act → World → Prop}
    (hK : ∀ lam' ρ' w' a', AI nt ops env0 h rs ρ0 w0 L' lam' ρ' w' a' → K a' w') : wpOp P ops Q i K a w := by
  have hi : i < ops.size := (Array.getElem?_eq_some_iff.1 hr.op).1
  obtain ⟨r, hri⟩ : ∃ r, rs[i]? = some r := ⟨_, List.getElem?_eq_getElem (by rw [hR.len]; exact hi)⟩
  obtain ⟨env, h1, cons, al', hInv, hd, hf⟩ := hR.fact i r o hri hr.op
  have hlen : (rs.take i).length = i := by rw [List.length_take, Nat.min_eq_left (by rw [hR.len]; omega)]
  have hpre : ∀ k, k < i → (rs.take i)[k]? = rs[k]? := fun k hk => by rw [List.getElem?_take, if_pos hk]
  have hvals : ∀ {env : T AV}, (∀ t v, env.get t = some v → Val ops env0 rs (below i) t v) → ∀ t v, t ∈ looks ops o → env.get t = some v → ∃ x, a.tmps[t]? = some x ∧ VR ρ v x := fun he t v ht hg => hI.val t v (Rdy.val hR.chk hI.cl hr ht (he t v hg))
  have henv : ∀ t v, env.get t = some v → Val ops env0 rs (below i) t v := fun t v hv => by
    have := hInv.env t v hv
    rw [hlen] at this
    exact this.ext hpre
  unfold wpOp
  rw [hr.op]
  dsimp only
  rcases hf with ⟨hg, rfl⟩ | ⟨hg, vs, hvs, hkf⟩
  · have hw := guard_rel (ρ := ρ) (a := a) (fun t v ht => hvals henv t v (looks_of ht)) hg
    rw [hw]
    simp only [Bool.false_eq_true, if_false]
    exact hK lam ρ w _ (AI.still hI hR.chk hr hri hL hd rfl (by intro _ _ h; cases h) (by unfold Rk.res und VR; exact ⟨#[], rfl, VRs.nil⟩))
  · have hw := guard_rel (ρ := ρ) (a := a) (fun t v ht => hvals henv t v (looks_of ht)) hg
    rw [hw]
    simp only [if_true]
    left
    have hv : VRs ρ vs (o.op.operands.toList.map a.eval) := evs_rel (fun t v ht => hvals henv t v (looks_of (tmp_looks ht))) hvs
    unfold KF at hkf
    split at hkf
    · obtain ⟨v, hp, rfl⟩ := hkf
      obtain ⟨x, hx, hrun⟩ := pure_sound hp hv
      unfold Oper.wp
      rw [hrun w]
      exact hK lam ρ w _ (AI.still hI hR.chk hr hri hL hd rfl (by intro _ _ h; cases h) hx)
    · rename_i hkd
      obtain ⟨v, rfl⟩ := hkf
      obtain ⟨env2, vs2, henv2, hvs2, hsame⟩ := hR.read i v o hri hr.op hkd
      have hv2 : VRs ρ vs2 (o.op.operands.toList.map a.eval) := evs_rel (fun t v ht => hvals henv2 t v (looks_of (tmp_looks ht))) hvs2
      have hmay : mayAt (bf ops) i lam 0 rs = true := by
        refine mayAt_ok fun k u g hk => ?_
        rw [Nat.zero_add]
        have hki : k ≠ i := fun he => by subst he; rw [hri] at hk; cases hk
        refine ⟨fun hlt => ?_, fun hge => ?_⟩
        · cases ha : ahead (bf ops) i k with
          | false => rfl
          | true =>
            have := ahead_dep ha hI.cl ((hI.loud k u g hk).2 hlt)
            rw [hr.no] at this
            cases this
        · cases ha : ahead (bf ops) k i with
          | false => rfl
          | true =>
            have := (hI.loud k u g hk).1 (Rdy.ahead hI.cl ha hr hki)
            omega
      obtain ⟨c, hcb, hread⟩ := sameAll_spec hsame lam hI.lam0 hmay
      have hcc : ∀ q, c.testBit q = consAt ops rs lam q := fun q => by
        have := hcb q
        rw [← consB_P] at this
        unfold consAt
        cases h1 : c.testBit q <;> cases h2 : consB (bf ops) q 0 (rs.take lam) <;> simp_all
      obtain ⟨x, hx, hrun⟩ := read_sound (nx := (mainAt ops h rs lam).next) (w := w) (HR.sub hI.st.hr fun m o' hm => by
        refine AI.view hI (al := al) hr (fun q ao hq => (hR.al q ao).1 hq) hri (by intro _ _ h; cases h) (fun q hq => ?_) hm
        rw [Bool.and_eq_true] at hq
        refine ⟨hq.1, ?_⟩
        have := hq.2
        rw [hcc] at this
        simpa using this) hread hv2
      unfold Oper.wp
      rw [hrun]
      exact hK lam ρ w _ (AI.still hI hR.chk hr hri hL hd rfl (by intro _ _ h; cases h) hx)
    · obtain ⟨ao, k, ha, rfl⟩ := hkf
      obtain ⟨obj, s, hO, hrun⟩ := alloc_sound ha hv
      obtain ⟨x, hrx, hx⟩ := hrun w
      unfold Oper.wp
      rw [hrx]
      exact hK lam _ _ _ (AI.alloc hI hR.chk hr hri hL hd hO fun ρ' hp => hx ρ' _ hp)
    · rename_i hkd
      obtain ⟨v, H', rfl, hop⟩ := hkf
      have hli : lam ≤ i := by
        rcases Nat.lt_or_ge i lam with h1 | h1
        · have := (hI.loud i v H' hri).2 h1
          rw [hr.no] at this
          cases this
        · exact h1
      have hmain : h1 = mainAt ops h rs lam := by rw [hInv.heap, hR.main_eq hI hr hkd hli]
      have hcons : ∀ q, cons.testBit q = consAt ops rs lam q := fun q => by
        have h2 : cons.testBit q = true ↔ consAt ops rs lam q = true := by
          rw [hInv.cons, consAt_iff]
          constructor
          · rintro ⟨l, u, g, h3, h4⟩
            obtain ⟨h5, h6⟩ := take_get.1 h3
            exact ⟨l, u, g, hR.gap hI hr hkd h6 h5, h6, h4⟩
          · rintro ⟨l, u, g, h3, h4, h5⟩
            exact ⟨l, u, g, take_get.2 ⟨by omega, h4⟩, h5⟩
        cases h3 : cons.testBit q <;> cases h4 : consAt ops rs lam q <;> simp_all
      have hal' : ∀ q ao, (q, ao) ∈ al' → ∃ u, rs[q]? = some (.alloc ao u) := fun q ao hq => by
        obtain ⟨u, hu⟩ := (hInv.al q ao).1 hq
        exact ⟨u, (take_get.1 hu).2⟩
      rw [hmain] at hop
      have hview : ∀ m o', (overlay h.next (fun q => ahead (bf ops) q i && !(cons.testBit q)) al' (mainAt ops h rs lam)).get m = some o' → gF h.next rs L (consAt ops rs lam) (mainAt ops h rs lam) m = some o' := fun m o' hm => by
        refine AI.view hI (al := al') hr hal' hri (by intro _ _ h; cases h) (fun q hq => ?_) hm
        rw [Bool.and_eq_true] at hq
        refine ⟨hq.1, ?_⟩
        have := hq.2
        rw [hcons] at this
        simpa using this
      refine loudOp_wp hc hkd hop (HR.sub (by rw [overlay_next]; exact hI.st.hr) hview) hv fun ρ' x w' hst hx => ?_
      refine hK (i + 1) ρ' w' _ (AI.loudOp hR hI hr hkd hri hL hd overlay_next (fun m o' hm => ?_) hview hst hx)
      rcases overlay_spec hm with ⟨q, h2, h3, rfl⟩ | h2
      · left
        rw [Bool.and_eq_true] at h2
        obtain ⟨u, hu⟩ := hal' _ _ h3
        refine ⟨q, h2.1, ?_, rfl, u, hu⟩
        have := h2.2
        rw [hcons] at this
        simpa using this
      · exact .inr h2
end
end
end Go.Proofs.Ytigakendeghoaaa.Ex

/-
  The runner: regions, code, calls: what it finds is what the model does, whatever the tape holds. No condition.
-/
namespace Go.Proofs.Ytigakendeghoaaa.Ex
open Go
noncomputable section
variable [Nums]
section
variable {P : Program} {call : FuncId → List AV → AH → Option (AV × AH)} {nt : Nat} {ops : Array Oper} {ρ : Ren} {w : World}
theorem Stp.up {ρ' : Ren} {g g' : Nat → Option AO} {nx nx' n2 : Nat} {w' : World} (h : Stp ρ g nx w ρ' g' nx' w') (hn : nx' ≤ n2) : Stp ρ g nx w ρ' g' n2 w' :=
  ⟨h.hr.up hn, h.ext, Nat.le_trans h.gr hn, h.os, h.tape, h.output, h.size, h.block, h.live, h.dom⟩
omit [Nums] in
theorem skip_get {h : AH} {k : Nat} : (h.skip k).get = h.get := by cases h; rfl
omit [Nums] in
theorem skip_next {h : AH} {k : Nat} : (h.skip k).next = h.next + k := by cases h; rfl
omit [Nums] in
theorem cnt {p p' : Nat → Bool} {i : Nat} (hp : p i = true) (h : ∀ j, p' j = (p j && decide (j ≠ i))) : ∀ l : List Nat, l.Nodup → i ∈ l → l.countP p' + 1 = l.countP p
  | [], _, hi => by cases hi
  | x :: l, hn, hi => by
    rw [List.nodup_cons] at hn
    by_cases hx : x = i
    · subst hx
      have : ∀ j ∈ l, p' j = p j := fun j hj => by
        rw [h]
        have : j ≠ x := fun he => hn.1 (he ▸ hj)
        simp [this]
      have hc : l.countP p' = l.countP p := by
        clear hi hn
        induction l with
        | nil => rfl
        | cons y l ih =>
          rw [List.countP_cons, List.countP_cons, ih (fun j hj => this j (List.mem_cons_of_mem _ hj)), this y List.mem_cons_self]
      rw [List.countP_cons, List.countP_cons, hc, hp, h]
      simp
    · have hi' : i ∈ l := by
        rcases List.mem_cons.1 hi with h1 | h1
        · exact absurd h1.symm hx
        · exact h1
      have ih := cnt hp h l hn.2 hi'
      rw [List.countP_cons, List.countP_cons, h]
      simp [hx]
      omega
omit [Nums] in
theorem ready_iff {listed : Array Bool} (hs : listed.size = ops.size) {i : Nat} : i ∈ Region.ready .any ops listed ↔ ∃ o, Rdy ops (fun j => listed.getD j false) i o := by
  unfold Region.ready
  rw [List.mem_filter, List.mem_range]
  constructor
  · rintro ⟨h1, h2⟩
    rw [Bool.and_eq_true] at h2
    obtain ⟨o, ho⟩ : ∃ o, ops[i]? = some o := ⟨_, Array.getElem?_eq_getElem h1⟩
    refine ⟨o, ho, ?_, fun e he hb => ?_⟩
    · have := h2.1
      simp only [Array.getD_eq_getD_getElem?, Array.getElem?_eq_getElem (show i < listed.size by omega)] at this ⊢
      simpa using this
    · have := h2.2
      rw [ho] at this
      simp only [Option.map_some, Option.getD_some, Array.all_eq_true_iff_forall_mem] at this
      have := this e (by simpa using he)
      simpa [hb] using this
  · rintro ⟨o, hr⟩
    have h1 : i < ops.size := (Array.getElem?_eq_some_iff.1 hr.op).1
    refine ⟨h1, ?_⟩
    rw [Bool.and_eq_true]
    refine ⟨?_, ?_⟩
    · have := hr.no
      simp only [Array.getD_eq_getD_getElem?, Array.getElem?_eq_getElem (show i < listed.size by omega)] at this ⊢
      simpa using this
    · rw [hr.op]
      simp only [Option.map_some, Option.getD_some, Array.all_eq_true_iff_forall_mem]
      intro e he
      cases hb : Region.binds .any e with
      | false => rfl
      | true => simpa using hr.pre e (by simpa using he) hb
section
variable {env0 : T AV} {h : AH} {rs : List Rk} {al : List (Nat × AO)} {ρ0 : Ren} {w0 : World}
omit [Nums] in
/-- none may come next: all are done -/
theorem ready_nil (hk : chk ops = true) {listed : Array Bool} (hs : listed.size = ops.size) (hn : Region.ready .any ops listed = []) : ∀ i, i < ops.size → listed.getD i false = true := by
  intro i
  induction i using Nat.strongRecOn with
  | _ i ih =>
    intro hi
    cases hL : listed.getD i false with
    | true => rfl
    | false =>
      obtain ⟨o, ho⟩ : ∃ o, ops[i]? = some o := ⟨_, Array.getElem?_eq_getElem hi⟩
      have : i ∈ Region.ready .any ops listed := (ready_iff hs).2 ⟨o, ho, hL, fun e he hb => by
        have := chk_lt hk ho e he hb
        exact ih e.on this (by omega)⟩
      rw [hn] at this
      cases this
theorem any_wp (hR : Reg P call nt ops env0 h rs al) (hc : CallS P call) {Q : Exit → Act → World → Prop}
    (hQ : ∀ L lam ρ w a, AI nt ops env0 h rs ρ0 w0 L lam ρ w a → (∀ i, i < ops.size → L i = true) → Q .normal a w) : ∀ (fuel : Nat) (listed : Array Bool) (lam : Nat) (ρ : Ren) (w : World) (a : Act), listed.size = ops.size →
    (List.range ops.size).countP (fun j => !listed.getD j false) ≤ fuel → AI nt ops env0 h rs ρ0 w0 (fun j => listed.getD j false) lam ρ w a → wpAny P .any ops Q fuel listed a w
  | 0, listed, lam, ρ, w, a, hs, hf, hI => by
    have hall : ∀ i, i < ops.size → listed.getD i false = true := by
      intro i hi
      have h0 : (List.range ops.size).countP (fun j => !listed.getD j false) = 0 := by omega
      rw [List.countP_eq_zero] at h0
      have := h0 i (List.mem_range.2 hi)
      simpa using this
    refine ⟨?_, hQ _ _ _ _ _ hI hall⟩
    rw [List.eq_nil_iff_forall_not_mem]
    intro i hi
    obtain ⟨o, hr⟩ := (ready_iff hs).1 hi
    have := hall i (Array.getElem?_eq_some_iff.1 hr.op).1
    have h2 : listed.getD i false = false := hr.no
    rw [this] at h2
    cases h2
  | fuel + 1, listed, lam, ρ, w, a, hs, hf, hI => by
    refine ⟨fun hn => hQ _ _ _ _ _ hI (ready_nil hR.chk hs hn), fun i hi => ?_⟩
    obtain ⟨o, hr⟩ := (ready_iff hs).1 hi
    have hio : i < ops.size := (Array.getElem?_eq_some_iff.1 hr.op).1
    have hL : ∀ j, (listed.setIfInBounds i true).getD j false = true ↔ listed.getD j false = true ∨ j = i := by
      intro j
      simp only [Array.getD_eq_getD_getElem?, Array.getElem?_setIfInBounds]
      by_cases hij : i = j
      · subst hij
        simp [show i < listed.size by omega]
      · simp [hij, Ne.symm hij]
    refine hR.step hc hI hr (L' := fun j => (listed.setIfInBounds i true).getD j false) hL fun lam' ρ' w' a' hI' => ?_
    refine any_wp hR hc hQ fuel _ lam' ρ' w' a' (by simpa using hs) ?_ hI'
    have := cnt (p := fun j => !listed.getD j false) (p' := fun j => !(listed.setIfInBounds i true).getD j false) (i := i) (by simpa using hr.no) (fun j => by
      have := hL j
      cases h1 : (listed.setIfInBounds i true).getD j false <;> cases h2 : listed.getD j false <;> by_cases h3 : j = i <;> simp_all) (List.range ops.size) List.nodup_range (List.mem_range.2 hio)
    omega
end
/-- A REGION THAT DRAWS ITS ORDER -/
theorem regDr_wp (hc : CallS P call) {env env' : T AV} {h h' : AH} {a : Act} (hreg : regDr P call nt ops env h = some (env', h')) (hE : ER ρ env nt a) (hH : HR ρ h.get h.next w) {Q : Exit → Act → World → Prop}
    (hQ : ∀ ρ' w' a', Stp ρ h.get h.next w ρ' h'.get h'.next w' → ER ρ' env' nt a' → Q .normal a' w') : wpAny P .any ops Q ops.size (Array.replicate ops.size false) a w := by
  unfold regDr at hreg
  split at hreg <;> first | (cases hreg; done) | skip
  rename_i hk
  split at hreg <;> first | (cases hreg; done) | skip
  split at hreg <;> first | (cases hreg; done) | skip
  rename_i rs envF hF cons al hd
  split at hreg <;> first | (cases hreg; done) | skip
  rename_i hrd
  simp only [Option.some.injEq, Prod.mk.injEq] at hreg
  obtain ⟨rfl, rfl⟩ := hreg
  have hInv0 : InvR ops (bf ops) env (h.skip ops.size) ([] : List Rk).reverse env (h.skip ops.size) 0 [] := by
    refine ⟨fun t v hv => .inr ⟨by simp [below], hv⟩, rfl, fun a => by simp [ConsP], fun a ao => by simp⟩
  obtain ⟨tail, e1, e2, hInv, hfact⟩ := regD_facts (env0 := env) (h0 := h.skip ops.size) ops.toList env (h.skip ops.size) 0 [] [] hd (by simp) hInv0
  simp only [List.reverse_nil, List.nil_append, List.length_nil, Nat.zero_add] at e1 hfact
  subst e1
  have hlen : rs.length = ops.size := by simpa using e2
  have hreads := reads_facts (nt := nt) (b := bf ops) (base := h.next) (env0 := env) (h0 := h.skip ops.size) (all := rs) (al := al) ops.toList [] rs env hrd (by simp) (fun t v hv => .inr ⟨by simp [below], hv⟩)
  simp only [List.nil_append, List.length_nil, Nat.zero_add] at hreads
  have hR : Reg P call nt ops env h rs al := by
    refine ⟨hk, hlen, fun i r o hr ho => hfact i r o hr (by simpa using ho), fun i v o hr ho hkd => ?_, hInv.al⟩
    obtain ⟨en, vs, h1, h2, h3⟩ := hreads i v o hr (by simpa using ho) hkd
    exact ⟨en, vs, fun t u hu => (h1 t u hu).ext fun k hk => by rw [List.getElem?_take, if_pos hk], h2, h3⟩
  have hg0 : ∀ m o, gF h.next rs (fun j => (Array.replicate ops.size false).getD j false) (consAt ops rs 0) (mainAt ops h rs 0) m = some o → h.get m = some o := by
    intro m o hm
    rcases gF_cases hm with ⟨q, u, _, _, h2, _⟩ | ⟨h1, _⟩
    · simp only [Array.getD_eq_getD_getElem?, Array.getElem?_replicate] at h2
      split at h2 <;> simp at h2
    · have : (mainAt ops h rs 0).get = h.get := by unfold mainAt; rw [List.take_zero]; exact skip_get
      rw [← this]
      exact h1
  have hm0 : mainAt ops h rs 0 = h.skip ops.size := by unfold mainAt; rw [List.take_zero]; rfl
  refine any_wp (ρ0 := ρ) (w0 := w) hR hc (fun L lam ρ' w' a' hI hall => ?_) ops.size _ 0 ρ w a (by simp) ?_ ?_
  · have hlam : rs.take lam = rs ∨ ∀ q u g, rs[q]? = some (.loud u g) → q < lam := .inr fun q u g hq => (hI.loud q u g hq).1 (hall q (by rw [← hlen]; exact (List.getElem?_eq_some_iff.1 hq).1))
    have hlast : ∀ q u g, rs[q]? = some (.loud u g) → q < lam := fun q u g hq => (hI.loud q u g hq).1 (hall q (by rw [← hlen]; exact (List.getElem?_eq_some_iff.1 hq).1))
    have hmain : mainAt ops h rs lam = hF := by
      rw [hInv.heap]
      unfold mainAt
      have : rs = rs.take lam ++ rs.drop lam := (List.take_append_drop _ _).symm
      conv => rhs; rw [this]
      rw [heapOf_append, heapOf_none (q := rs.drop lam)]
      intro r hmem
      obtain ⟨k, hk⟩ := List.mem_iff_getElem?.1 hmem
      rw [List.getElem?_drop] at hk
      cases r with
      | loud u g =>
        have := hlast _ u g hk
        omega
      | _ => rfl
    have hcons : ∀ q, cons.testBit q = consAt ops rs lam q := fun q => by
      have h2 : cons.testBit q = true ↔ consAt ops rs lam q = true := by
        rw [hInv.cons, consAt_iff]
        constructor
        · rintro ⟨l, u, g, h3, h4⟩
          exact ⟨l, u, g, hlast l u g h3, h3, h4⟩
        · rintro ⟨l, u, g, _, h4, h5⟩
          exact ⟨l, u, g, h4, h5⟩
      cases h3 : cons.testBit q <;> cases h4 : consAt ops rs lam q <;> simp_all
    refine hQ ρ' w' a' ?_ ⟨hI.dz, hI.size, fun t v hv => hI.val t v ?_⟩
    · have := hI.st
      rw [hmain] at this
      rw [overlay_next]
      refine Stp.sub this fun m o hm => ?_
      rcases overlay_spec hm with ⟨q, h1, h2, rfl⟩ | h1
      · obtain ⟨u, hu⟩ := (hInv.al q o).1 h2
        refine gF_alloc hu (hall q (by rw [← hlen]; exact (List.getElem?_eq_some_iff.1 hu).1)) ?_
        rw [hcons] at h1
        simpa using h1
      · refine gF_main h1 fun q ao v he hq _ => ?_
        subst he
        exact hI.mask q (by rw [← hlen]; exact (List.getElem?_eq_some_iff.1 hq).1) (by rw [hmain, h1]; rfl)
    · have := hInv.env t v hv
      rcases this with ⟨q, r, h1, h2, h3, h4, h5⟩ | ⟨h1, h2⟩
      · refine .inl ⟨q, r, hall q (by rw [← hlen]; exact (List.getElem?_eq_some_iff.1 h3).1), h2, h3, h4, fun j hj hj' => h5 j ?_ hj'⟩
        have := hI.lt j hj
        simp [below, hlen, this]
      · refine .inr ⟨fun j hj hj' => h1 j ?_ hj', h2⟩
        have := hI.lt j hj
        simp [below, hlen, this]
  · have := List.countP_le_length (p := fun j => !(Array.replicate ops.size false).getD j false) (l := List.range ops.size)
    simpa using this
  · have hLf : ∀ j, (Array.replicate ops.size false).getD j false = false := by
      intro j
      simp only [Array.getD_eq_getD_getElem?, Array.getElem?_replicate]
      split <;> rfl
    refine ⟨fun i o _ hi => ?_, fun i hi => ?_, .inl rfl, fun q u g _ => ?_, ?_, ?_, fun i hi _ => ?_, fun i hi hs => ?_, hE.dz, hE.size, fun t v hv => ?_⟩
    · rw [hLf] at hi; cases hi
    · rw [hLf] at hi; cases hi
    · rw [hLf]; simp
    · rw [hm0, skip_next]
      have := (Stp.refl hH).up (n2 := h.next + ops.size) (by omega)
      exact Stp.sub this (by rw [hm0] at hg0; exact hg0)
    · rw [hm0, skip_next]; omega
    · exact hH.fresh _ (by omega)
    · rw [hm0, skip_get] at hs
      obtain ⟨o, ho⟩ := Option.isSome_iff_exists.1 hs
      obtain ⟨b, s, hb, _⟩ := hH.obj _ _ ho
      rw [hH.fresh _ (by omega)] at hb
      cases hb
    · rcases hv with ⟨q, r, h1, _⟩ | ⟨_, h2⟩
      · dsimp only at h1
        rw [hLf] at h1; cases h1
      · exact hE.val t v h2
end
end
end Go.Proofs.Ytigakendeghoaaa.Ex

/-
  The runner: code and calls: what it finds is what the model does, whatever the tape holds. No condition.
-/
namespace Go.Proofs.Ytigakendeghoaaa.Ex
open Go
noncomputable section
variable [Nums]
section
variable {P : Program} {call : FuncId → List AV → AH → Option (AV × AH)} {nt : Nat} {ρ : Ren} {w : World}
theorem ER.put {ρ' : Ren} {env env' : T AV} {a : Act} {dst : Option Tmp} {v : AV} {x : Value} (hE : ER ρ env nt a) (hm : ∀ n p, ρ n = some p → ρ' n = some p) (hp : putA nt env dst v = some env') (hx : VR ρ' v x) : ER ρ' env' nt (a.put dst x) := by
  obtain ⟨hd, hv⟩ := putA_spec hp
  refine ⟨by rw [put_defers]; exact hE.dz, by rw [put_size]; exact hE.size, fun t u hu => ?_⟩
  rcases hv t u hu with ⟨rfl, rfl⟩ | ⟨h1, h2⟩
  · refine ⟨x, ?_, hx⟩
    have := hd t rfl
    simp [Act.put, hE.size, this]
  · obtain ⟨y, hy, hr⟩ := hE.val t u h2
    refine ⟨y, ?_, hr.mono hm⟩
    cases dst with
    | none => exact hy
    | some d =>
      have : d ≠ t := fun he => h1 (by rw [he])
      simp [Act.put, Array.getElem?_setIfInBounds, this, hy]
theorem ER.mono {ρ' : Ren} {env : T AV} {a : Act} (hE : ER ρ env nt a) (hm : ∀ n p, ρ n = some p → ρ' n = some p) : ER ρ' env nt a :=
  ⟨hE.dz, hE.size, fun t v hv => by
    obtain ⟨x, hx, hr⟩ := hE.val t v hv
    exact ⟨x, hx, hr.mono hm⟩⟩
theorem undR : VR ρ und undef := by unfold und VR; exact ⟨#[], rfl, VRs.nil⟩
/-- A REGION IN THE ORDER OF THE TEXT -/
theorem regL_wp (hc : CallS P call) {ops : Array Oper} {Q : Exit → Act → World → Prop} : ∀ (l : List Oper) (env : T AV) (h : AH) (env' : T AV) (h' : AH) (ρ : Ren) (w : World) (a : Act), regL P call nt ops l env h = some (env', h') →
    ER ρ env nt a → HR ρ h.get h.next w → (∀ ρ' w' a', Stp ρ h.get h.next w ρ' h'.get h'.next w' → ER ρ' env' nt a' → Q .normal a' w') → wpList P ops Q l a w
  | [], env, h, env', h', ρ, w, a, hr, hE, hH, hQ => by
    simp only [regL, Option.some.injEq, Prod.mk.injEq] at hr
    obtain ⟨rfl, rfl⟩ := hr
    exact hQ ρ w a (Stp.refl hH) hE
  | o :: l, env, h, env', h', ρ, w, a, hr, hE, hH, hQ => by
    unfold regL at hr
    split at hr <;> first | (cases hr; done) | skip
    · rename_i hg
      have hw := guard_rel (ρ := ρ) (a := a) (fun t v _ hv => hE.val t v hv) hg
      split at hr <;> first | (cases hr; done) | skip
      rename_i env1 hp
      unfold wpList
      rw [hw]
      simp only [Bool.false_eq_true, if_false]
      exact regL_wp hc l env1 h env' h' ρ w _ hr (ER.put hE (fun _ _ h => h) hp undR) hH hQ
    · rename_i hg
      have hw := guard_rel (ρ := ρ) (a := a) (fun t v _ hv => hE.val t v hv) hg
      split at hr <;> first | (cases hr; done) | skip
      rename_i vs hvs
      split at hr <;> first | (cases hr; done) | skip
      rename_i v h1 hop
      split at hr <;> first | (cases hr; done) | skip
      rename_i env1 hp
      unfold wpList
      rw [hw]
      simp only [if_true]
      left
      refine op_wp hc hop hH (evs_rel (fun t v _ hv => hE.val t v hv) hvs) fun ρ' x w' hst hx => ?_
      exact regL_wp hc l env1 h1 env' h' ρ' w' _ hr (ER.put hE (Stp.mono hH hst) hp hx) hst.hr fun ρ2 w2 a2 h2 h3 => hQ ρ2 w2 a2 (hst.trans h2) h3
def exitOf : AX → Exit
  | .normal => .normal
  | .exit id => .exit id
  | .ret => .ret
def PostX (nt : Nat) (ρ : Ren) (h : AH) (w : World) (x : AX) (env' : T AV) (h' : AH) (e : Exit) (a' : Act) (w' : World) : Prop :=
  e = exitOf x ∧ ∃ ρ', Stp ρ h.get h.next w ρ' h'.get h'.next w' ∧ ER ρ' env' nt a'
omit [Nums] in
theorem rounds_mono {c : Code} {Q Q' : Exit → Act → World → Prop} (hq : ∀ e a w, Q e a w → Q' e a w) : ∀ (n : Nat) (a : Act) (w : World), Code.rounds P c Q n a w → Code.rounds P c Q' n a w
  | 0, _, _, h => h
  | n + 1, a, w, h => by
    rw [rounds_succ] at h ⊢
    refine wp_mono h fun e a1 w1 h1 => ?_
    cases e with
    | normal => exact rounds_mono hq n a1 w1 h1
    | _ => exact hq _ _ _ h1
theorem iter_wp {c : Code} {body : T AV → AH → Option (AX × T AV × AH)} (hb : ∀ env h x env' h', body env h = some (x, env', h') → ∀ (ρ : Ren) w a, ER ρ env nt a → HR ρ h.get h.next w → c.wp P (PostX nt ρ h w x env' h') a w) :
    ∀ (n : Nat) env h x env' h', iter body n env h = some (x, env', h') → ∀ (ρ : Ren) w a, ER ρ env nt a → HR ρ h.get h.next w → Code.rounds P c (PostX nt ρ h w x env' h') n a w
  | 0, _, _, _, _, _, h, _, _, _, _, _ => by simp [iter] at h
  | n + 1, env, h, x, env', h', hi, ρ, w, a, hE, hH => by
    rw [rounds_succ]
    unfold iter at hi
    split at hi
    · rename_i env1 h1 hbody
      refine wp_mono (hb _ _ _ _ _ hbody ρ w a hE hH) ?_
      rintro e a1 w1 ⟨rfl, ρ1, hst, hE1⟩
      refine rounds_mono (fun e a' w' hq => ?_) _ _ _ (iter_wp hb n _ _ _ _ _ hi ρ1 w1 a1 hE1 hst.hr)
      obtain ⟨h1, ρ2, h2, h3⟩ := hq
      exact ⟨h1, ρ2, hst.trans h2, h3⟩
    · rename_i hno
      refine wp_mono (hb _ _ _ _ _ hi ρ w a hE hH) ?_
      rintro e a1 w1 ⟨rfl, hq⟩
      cases x with
      | normal => exact absurd hi (hno _ _)
      | exit id => exact ⟨rfl, hq⟩
      | ret => exact ⟨rfl, hq⟩
omit [Nums] in
theorem then_of {x : AX} {K : Act → World → Prop} {Q : Exit → Act → World → Prop} {a : Act} {w : World} (hn : x = .normal → K a w) (ho : x ≠ .normal → Q (exitOf x) a w) : Exit.then K Q (exitOf x) a w := by
  cases x with
  | normal => exact hn rfl
  | exit id => exact ho (by intro h; cases h)
  | ret => exact ho (by intro h; cases h)
theorem exec_wp (hm : P.follows .mixedOrders = true) (hc : CallS P call) : ∀ (c : Code) env h x env' h', exec P call nt c env h = some (x, env', h') → ∀ (ρ : Ren) w a, ER ρ env nt a → HR ρ h.get h.next w → c.wp P (PostX nt ρ h w x env' h') a w
  | .skip, env, h, x, env', h', he, ρ, w, a, hE, hH => by
    simp only [exec, Option.some.injEq, Prod.mk.injEq] at he
    obtain ⟨rfl, rfl, rfl⟩ := he
    exact wp_skip ⟨rfl, ρ, Stp.refl hH, hE⟩
  | .label l, env, h, x, env', h', he, ρ, w, a, hE, hH => by
    simp only [exec, Option.some.injEq, Prod.mk.injEq] at he
    obtain ⟨rfl, rfl, rfl⟩ := he
    exact wp_label ⟨rfl, ρ, Stp.refl hH, hE⟩
  | .region id ops false, env, h, x, env', h', he, ρ, w, a, hE, hH => by
    unfold exec at he
    split at he <;> first | (cases he; done) | skip
    rename_i env1 h1 hr
    simp only [Option.some.injEq, Prod.mk.injEq] at he
    obtain ⟨rfl, rfl, rfl⟩ := he
    exact wp_region_list (regL_wp hc _ _ _ _ _ ρ w a hr hE hH fun ρ' w' a' hst hE' => ⟨rfl, ρ', hst, hE'⟩)
  | .region id ops true, env, h, x, env', h', he, ρ, w, a, hE, hH => by
    unfold exec at he
    split at he <;> first | (cases he; done) | skip
    rename_i env1 h1 hr
    simp only [Option.some.injEq, Prod.mk.injEq] at he
    obtain ⟨rfl, rfl, rfl⟩ := he
    exact wp_region_any hm (regDr_wp hc hr hE (hH.drew _) fun ρ' w' a' hst hE' => ⟨rfl, ρ', hst.drew, hE'⟩)
  | .seq c d, env, h, x, env', h', he, ρ, w, a, hE, hH => by
    unfold exec at he
    split at he
    · rename_i env1 h1 hx
      refine wp_seq (wp_mono (exec_wp hm hc c _ _ _ _ _ hx ρ w a hE hH) ?_)
      rintro e a1 w1 ⟨rfl, ρ1, hst, hE1⟩
      refine wp_mono (exec_wp hm hc d _ _ _ _ _ he ρ1 w1 a1 hE1 hst.hr) ?_
      rintro e a2 w2 ⟨rfl, ρ2, hst2, hE2⟩
      exact ⟨rfl, ρ2, hst.trans hst2, hE2⟩
    · rename_i hno
      refine wp_seq (wp_mono (exec_wp hm hc c _ _ _ _ _ he ρ w a hE hH) ?_)
      rintro e a1 w1 ⟨rfl, hq⟩
      exact then_of (fun hx => by subst hx; exact absurd he (hno _ _)) (fun _ => ⟨rfl, hq⟩)
  | .cond c d e, env, h, x, env', h', he, ρ, w, a, hE, hH => by
    unfold exec at he
    have hev : ∀ b, ev env c = some (.bool b) → a.eval c = .bool b := by
      intro b hb
      have := evs_rel (ρ := ρ) (a := a) (l := [c]) (vs := [.bool b]) (fun t v _ hv => hE.val t v hv) (by simp [evs, hb])
      obtain ⟨y, hy, hr⟩ := this.one
      simp at hy
      unfold VR at hr
      rw [hy, hr]
    split at he
    · rename_i hb
      exact wp_cond_true (hev _ hb) (exec_wp hm hc d _ _ _ _ _ he ρ w a hE hH)
    · rename_i hb
      exact wp_cond_false (hev _ hb) (exec_wp hm hc e _ _ _ _ _ he ρ w a hE hH)
    · cases he
  | .block id c, env, h, x, env', h', he, ρ, w, a, hE, hH => by
    unfold exec at he
    split at he
    · rename_i j env1 h1 hx
      refine wp_block (wp_mono (exec_wp hm hc c _ _ _ _ _ hx ρ w a hE hH) ?_)
      rintro e a1 w1 ⟨rfl, ρ1, hst, hE1⟩
      split at he
      · rename_i hj
        have hj := Nat.eq_of_beq_eq_true hj
        simp only [Option.some.injEq, Prod.mk.injEq] at he
        obtain ⟨rfl, rfl, rfl⟩ := he
        show (if j = id then _ else _)
        rw [if_pos hj]
        exact ⟨rfl, ρ1, hst, hE1⟩
      · rename_i hj
        simp only [Option.some.injEq, Prod.mk.injEq] at he
        obtain ⟨rfl, rfl, rfl⟩ := he
        show (if j = id then _ else _)
        rw [if_neg (fun hji => by subst hji; simp at hj)]
        exact ⟨rfl, ρ1, hst, hE1⟩
    · rename_i hno
      refine wp_block (wp_mono (exec_wp hm hc c _ _ _ _ _ he ρ w a hE hH) ?_)
      rintro e a1 w1 ⟨rfl, hq⟩
      cases x with
      | normal => exact ⟨rfl, hq⟩
      | exit j => exact absurd he (hno _ _ _)
      | ret => exact ⟨rfl, hq⟩
  | .loop c, env, h, x, env', h', he, ρ, w, a, hE, hH => by
    unfold exec at he
    exact wp_loop_rounds 100000 (iter_wp (exec_wp hm hc c) 100000 _ _ _ _ _ he ρ w a hE hH)
  | .scope c, env, h, x, env', h', he, ρ, w, a, hE, hH => by
    unfold exec at he
    refine wp_scope_straight (wp_mono (exec_wp hm hc c _ _ _ _ _ he ρ w a hE hH) ?_)
    rintro e a1 w1 ⟨rfl, hq⟩
    cases x <;> exact ⟨rfl, hq⟩
  | .exit id, env, h, x, env', h', he, ρ, w, a, hE, hH => by
    simp only [exec, Option.some.injEq, Prod.mk.injEq] at he
    obtain ⟨rfl, rfl, rfl⟩ := he
    exact wp_exit ⟨rfl, ρ, Stp.refl hH, hE⟩
  | .ret, env, h, x, env', h', he, ρ, w, a, hE, hH => by
    simp only [exec, Option.some.injEq, Prod.mk.injEq] at he
    obtain ⟨rfl, rfl, rfl⟩ := he
    exact wp_ret ⟨rfl, ρ, Stp.refl hH, hE⟩
  | .goto _, _, _, _, _, _, he, _, _, _, _, _ => by simp [exec] at he
  | .rangeFunc _ _ _ _, _, _, _, _, _, he, _, _, _, _, _ => by simp [exec] at he
  | .refuse _, _, _, _, _, _, he, _, _, _, _, _ => by simp [exec] at he
/-! results -/
theorem ress_sound {h : AH} {env : T AV} {a : Act} {nx : Nat} {F : ResultVar → Sem Value} (hFt : ∀ t, F (.tmp t) = pure (a.tmps.getD t undef)) (hFc : ∀ c t, F (.cell c t) = (asAddr (a.tmps.getD c undef) >>= fun x => loadVar t x))
    (hH : HR ρ h.get nx w) (hE : ER ρ env nt a) : ∀ {l : List ResultVar} {vs : List AV}, ress P h env l = some vs →
    ∃ xs : List Value, VRs ρ vs xs ∧ (l.mapM F : Sem (List Value)).run P w = .ok xs w
  | [], vs, hr => by
    simp only [ress, Option.some.injEq] at hr
    subst hr
    exact ⟨[], VRs.nil, rfl⟩
  | .tmp t :: l, vs, hr => by
    unfold ress at hr
    split at hr <;> first | (cases hr; done) | skip
    rename_i v hv
    split at hr <;> first | (cases hr; done) | skip
    rename_i us hus
    simp only [Option.some.injEq] at hr
    subst hr
    obtain ⟨x, hx, hxr⟩ := hE.val t v hv
    obtain ⟨xs, h1, h2⟩ := ress_sound hFt hFc hH hE hus
    refine ⟨x :: xs, VRs.cons hxr h1, ?_⟩
    have : a.tmps.getD t undef = x := by simp [hx]
    simp only [List.mapM_cons, Sem.run_bind, Sem.run_pure, Result.andThen_ok, hFt, this, h2]
  | .cell c t :: l, vs, hr => by
    unfold ress at hr
    split at hr <;> first | (cases hr; done) | skip
    rename_i p hp
    split at hr <;> first | (cases hr; done) | skip
    rename_i v hv
    split at hr <;> first | (cases hr; done) | skip
    rename_i us hus
    simp only [Option.some.injEq] at hr
    subst hr
    obtain ⟨y, hy, hyr⟩ := hE.val c p hp
    obtain ⟨xs, h1, h2⟩ := ress_sound hFt hFc hH hE hus
    have hyv : a.tmps.getD c undef = y := by simp [hy]
    have hop : VRs ρ [p] (((Op.load t (.tmp c)).operands.toList).map a.eval) := by
      have : a.eval (.tmp c) = y := by simp [Act.eval, hy]
      simp only [Op.operands, List.map_cons, List.map_nil, this]
      exact VRs.cons hyr VRs.nil
    obtain ⟨x, hx, hrun⟩ := read_sound (o := { (default : Oper) with op := .load t (.tmp c) }) hH hv hop
    obtain ⟨b, off, rfl⟩ : ∃ b off, y = .pointer (some ⟨b, off, none⟩) := by
      simp only [aread] at hv
      split at hv <;> first | (cases hv; done) | skip
      · rename_i n off hh
        simp only [List.cons.injEq, and_true] at hh
        subst hh
        obtain ⟨b, s, _, rfl⟩ := hyr.ptr_inv
        exact ⟨b, off, rfl⟩
      · rename_i g off hh
        simp only [List.cons.injEq, and_true] at hh
        subst hh
        unfold VR at hyr
        exact ⟨g, off, hyr⟩
    have hload : (loadVar t ⟨b, off, none⟩).run P w = .ok x w := by
      have he : a.eval (.tmp c) = .pointer (some ⟨b, off, none⟩) := by simp [Act.eval, hy]
      simp only [execOp, he, Instr.loadAt, Instr.sureAddr, Sem.run_bind, Sem.run_pure, Result.andThen_ok] at hrun
      cases hl : (loadVar t ⟨b, off, none⟩).run P w with
      | ok x' w' =>
        rw [hl] at hrun
        simp only [Result.andThen_ok, Result.ok.injEq, Next.value.injEq] at hrun
        rw [hrun.1, hrun.2]
      | halt e w' =>
        rw [hl] at hrun
        simp at hrun
    refine ⟨x :: xs, VRs.cons hx h1, ?_⟩
    have hs : (F (.cell c t)).run P w = .ok x w := by
      rw [hFc, hyv, Sem.run_bind]
      exact hload
    simp only [List.mapM_cons, Sem.run_bind, Sem.run_pure, Result.andThen_ok, hs, h2]
theorem results_sound {h : AH} {env : T AV} {a : Act} {nx : Nat} {fn : Func} {vs : List AV} (hH : HR ρ h.get nx w) (hE : ER ρ env nt a) (hr : ress P h env fn.results.toList = some vs) :
    ∃ x, VR ρ (resOf vs) x ∧ (results fn a.tmps).run P w = .ok x w := by
  unfold results
  generalize hF : (fun x : ResultVar => (_ : Sem Value)) = F
  obtain ⟨xs, h1, h2⟩ := ress_sound (F := F) (fun t => by rw [← hF]) (fun c t => by rw [← hF]) hH hE hr
  have hl := h1.len
  have harr : fn.results = fn.results.toList.toArray := by simp
  rw [harr, List.mapM_toArray]
  simp only [Sem.run_bind, Sem.run_map]
  refine ⟨if hh : xs.toArray.size = 1 then xs.toArray[0] else .tuple xs.toArray, ?_, ?_⟩
  · cases vs with
    | nil =>
      simp only [List.length_nil] at hl
      rw [dif_neg (by simp; omega)]
      unfold resOf VR
      exact ⟨_, rfl, by simpa using h1⟩
    | cons v vs =>
      cases vs with
      | nil =>
        obtain ⟨y, rfl, hy⟩ := h1.one
        exact hy
      | cons v' vs =>
        simp only [List.length_cons] at hl
        rw [dif_neg (by simp; omega)]
        unfold resOf VR
        exact ⟨_, rfl, by simpa using h1⟩
  · rw [h2]
    rfl
omit [Nums] in
theorem envOf_get : ∀ {l : List AV} {k : Nat} {t0 : T AV} {t : Nat} {v : AV}, (envOf k l t0).get t = some v → (k ≤ t ∧ l[t - k]? = some v) ∨ t0.get t = some v
  | [], k, t0, t, v, h => .inr h
  | x :: l, k, t0, t, v, h => by
    unfold envOf at h
    rcases envOf_get h with ⟨h1, h2⟩ | h1
    · have h1 : k + 1 ≤ t := h1
      have h2 : l[t - (k + 1)]? = some v := h2
      refine .inl ⟨by omega, ?_⟩
      rw [show t - k = (t - (k + 1)) + 1 from by omega, List.getElem?_cons_succ]
      exact h2
    · rcases T.get_put h1 with ⟨h2, h3⟩ | ⟨_, h3⟩
      · subst h2
        exact .inl ⟨Nat.le_refl _, by rw [Nat.sub_self]; simpa using h3⟩
      · exact .inr h3
/-- memory known before is known behind what left it alone -/
theorem Stp.left {g : Nat → Option AO} {nx : Nat} {w' : World} (h : HR ρ g nx w) (hb : RowKit.Below w.heap.size w w') : Stp ρ g nx w ρ g nx w' := by
  have hT := h.tables (w' := w') (g' := g) (ρ' := ρ) (fun c hc _ => hb.block c hc) (fun m c s1 hm hq => .inr ⟨m, s1, hm, hq⟩)
  refine ⟨⟨h.fresh, fun n o hn => ?_, h.inj, hT.1, hT.2⟩, fun _ _ => rfl, Nat.le_refl _, hb.os, hb.tape, hb.output, hb.size, fun b hlt _ => hb.block b hlt, fun n b s hn hp => .inr ⟨n, s, hn, hp⟩, fun _ _ h => h⟩
  obtain ⟨b, s, hp, hO⟩ := h.obj n o hn
  refine ⟨b, s, hp, ?_⟩
  have hlt : b < w.heap.size := by
    rcases Nat.lt_or_ge b w.heap.size with h1 | h1
    · exact h1
    · rw [Array.getElem?_eq_none h1] at hO
      exact hO.notNone.elim
  rw [hb.block b hlt]
  exact hO
mutual
/-- what a value without memory is -/
def valOf (σ : Nat → Int) : AV → Value
  | .bool b => .bool b
  | .int k n => .int k n
  | .sym k e => .int k (e.ev σ)
  | .str s => .string s
  | .nilp => .pointer none
  | .nilsl => .slice none 0 0
  | .nilmap => .map none
  | .nilfn => .nilFunc
  | .nilif => .nilIface
  | .agg l => .agg (valsOf σ l).toArray
  | .tup l => .tuple (valsOf σ l).toArray
  | _ => undef
def valsOf (σ : Nat → Int) : List AV → List Value
  | [] => []
  | v :: l => valOf σ v :: valsOf σ l
end
mutual
theorem VR.shut : ∀ {v : AV} {x : Value}, VR ρ v x → v.shut = true → x = valOf Nums.σ v
  | .bool _, _, h, _ => by unfold VR at h; exact h
  | .int _ _, _, h, _ => by unfold VR at h; exact h
  | .sym _ _, _, h, _ => by unfold VR at h; exact h
  | .str _, _, h, _ => by unfold VR at h; exact h
  | .nilp, _, h, _ => by unfold VR at h; exact h
  | .ptr _ _, _, _, h => by cases h
  | .gptr _ _, _, _, h => by cases h
  | .nilsl, _, h, _ => by unfold VR at h; exact h
  | .sl .., _, _, h => by cases h
  | .esl _, _, _, h => by cases h
  | .nilmap, _, h, _ => by unfold VR at h; exact h
  | .map _, _, _, h => by cases h
  | .fn _ _ _, _, _, h => by cases h
  | .nilfn, _, h, _ => by unfold VR at h; exact h
  | .nilif, _, h, _ => by unfold VR at h; exact h
  | .ifc _ _, _, _, h => by cases h
  | .agg l, _, h, hs => by
    unfold VR at h
    obtain ⟨a, rfl, h⟩ := h
    have := VRs.shut h hs
    unfold valOf
    rw [← this]
  | .tup l, _, h, hs => by
    unfold VR at h
    obtain ⟨a, rfl, h⟩ := h
    have := VRs.shut h hs
    unfold valOf
    rw [← this]
theorem VRs.shut : ∀ {l : List AV} {m : List Value}, VRs ρ l m → AV.shuts l = true → m = valsOf Nums.σ l
  | [], _, h, _ => by unfold VRs at h; exact h
  | v :: l, _, h, hs => by
    obtain ⟨y, ys, rfl, h1, h2⟩ := h.uncons
    unfold AV.shuts at hs
    split at hs
    · rename_i hv
      unfold valsOf
      rw [VR.shut h1 hv, VRs.shut h2 hs]
    · cases hs
end
mutual
theorem VR.ofShut : ∀ {v : AV}, v.shut = true → VR ρ v (valOf Nums.σ v)
  | .bool _, _ => by unfold VR valOf; rfl
  | .int _ _, _ => by unfold VR valOf; rfl
  | .sym _ _, _ => by unfold VR valOf; rfl
  | .str _, _ => by unfold VR valOf; rfl
  | .nilp, _ => by unfold VR valOf; rfl
  | .ptr _ _, h => by cases h
  | .gptr _ _, h => by cases h
  | .nilsl, _ => by unfold VR valOf; rfl
  | .sl .., h => by cases h
  | .esl _, h => by cases h
  | .nilmap, _ => by unfold VR valOf; rfl
  | .map _, h => by cases h
  | .fn _ _ _, h => by cases h
  | .nilfn, _ => by unfold VR valOf; rfl
  | .nilif, _ => by unfold VR valOf; rfl
  | .ifc _ _, h => by cases h
  | .agg l, h => by unfold VR valOf; exact ⟨_, rfl, VRs.ofShut h⟩
  | .tup l, h => by unfold VR valOf; exact ⟨_, rfl, VRs.ofShut h⟩
theorem VRs.ofShut : ∀ {l : List AV}, AV.shuts l = true → VRs ρ l (valsOf Nums.σ l)
  | [], _ => by unfold valsOf; exact VRs.nil
  | v :: l, hs => by
    unfold AV.shuts at hs
    split at hs
    · rename_i hv
      unfold valsOf
      exact VRs.cons (VR.ofShut hv) (VRs.ofShut hs)
    · cases hs
end
/-- calls that are known -/
def OvOk (P : Program) (gs : List (Nat × List Int)) (σ : Nat → Int) (ov : Ov) : Prop := ∀ f xs v, (f, xs, v) ∈ ov →
  AV.shuts xs = true ∧ v.shut = true ∧ FnOk P f ∧ ∀ w, Tabs gs w → Calls P f (valsOf σ xs).toArray w fun e w' => e = .returned (valOf σ v) ∧ RowKit.Below w.heap.size w w'
omit [Nums] in
theorem ovAt_mem {f : FuncId} {args : List AV} {v : AV} : ∀ {ov : Ov}, ovAt f args ov = some v → (f, args, v) ∈ ov
  | [], h => by cases h
  | (g, xs, u) :: l, h => by
    unfold ovAt at h
    split at h
    · rename_i hg
      have hg := Nat.eq_of_beq_eq_true hg
      split at h
      · rename_i ha
        have ha := AV.beqs_eq ha
        simp only [Option.some.injEq] at h
        subst hg ha h
        exact List.mem_cons_self
      · exact List.mem_cons_of_mem _ (ovAt_mem h)
    · exact List.mem_cons_of_mem _ (ovAt_mem h)
theorem condsOk_mem : ∀ {l : List (Cnd × Bool)}, condsOk l = true → ∀ c ∈ l, c.1.ev Nums.σ = c.2
  | [], _, c, hc => by cases hc
  | (.lt a b, r) :: l, h, c, hc => by
    unfold condsOk at h
    split at h <;> first | (cases h; done) | skip
    rename_i q hq
    split at h <;> first | (cases h; done) | skip
    rename_i hqr
    rcases List.mem_cons.1 hc with rfl | hc
    · show decide _ = r
      rw [askLt_ok hq]
      simpa using hqr
    · exact condsOk_mem h c hc
  | (.eq a b, r) :: l, h, c, hc => by
    unfold condsOk at h
    split at h <;> first | (cases h; done) | skip
    rename_i q hq
    split at h <;> first | (cases h; done) | skip
    rename_i hqr
    rcases List.mem_cons.1 hc with rfl | hc
    · show (_ == _) = r
      rw [askEq_ok hq]
      simpa using hqr
    · exact condsOk_mem h c hc
/-- .. whatever must be known of numbers, and whatever becomes of blocks of which nothing is known -/
def KnOk (P : Program) (kn : List Kn) : Prop := ∀ k ∈ kn, (∀ c ∈ k.conds, c.1.ev Nums.σ = c.2) → FnOk P k.f ∧ ∀ (ρ : Ren) (h h' : AH) (w : World) (args' : Array Value), effDo h k.effs = some h' → HR ρ h.get h.next w → VRs ρ k.args args'.toList →
  Calls P k.f args' w fun e w' => ∃ x, e = .returned x ∧ VR ρ k.res x ∧ Stp ρ h.get h.next w ρ h'.get h'.next w'
theorem knAt_mem {f : FuncId} {args : List AV} {h h' : AH} {v : AV} : ∀ {kn : List Kn}, knAt f args h kn = some (v, h') → ∃ k ∈ kn, k.f = f ∧ args = k.args ∧ (∀ c ∈ k.conds, c.1.ev Nums.σ = c.2) ∧ effDo h k.effs = some h' ∧ k.res = v
  | [], hk => by cases hk
  | k :: l, hk => by
    have hrest : knAt f args h l = some (v, h') → ∃ k' ∈ k :: l, k'.f = f ∧ args = k'.args ∧ (∀ c ∈ k'.conds, c.1.ev Nums.σ = c.2) ∧ effDo h k'.effs = some h' ∧ k'.res = v := fun hl => by
      obtain ⟨k', h1, h2⟩ := knAt_mem hl
      exact ⟨k', List.mem_cons_of_mem _ h1, h2⟩
    unfold knAt at hk
    split at hk
    · exact hrest hk
    · rename_i hf
      split at hk
      · exact hrest hk
      · rename_i ha
        split at hk
        · exact hrest hk
        · rename_i hc
          split at hk
          · rename_i h1 he
            simp only [Option.some.injEq, Prod.mk.injEq] at hk
            obtain ⟨rfl, rfl⟩ := hk
            exact ⟨k, List.mem_cons_self, Nat.eq_of_beq_eq_true hf, AV.beqs_eq ha, condsOk_mem hc, he, rfl⟩
          · exact hrest hk
theorem kn_nil : KnOk P [] := fun k hk => by cases hk
theorem callN_sound (hm : P.follows .mixedOrders = true) {ov : Ov} (hov : OvOk P Fc.globs Nums.σ ov) {kn : List Kn} (hkn : KnOk P kn) : ∀ n, CallS P (callN P ov kn n)
  | 0 => fun f args h v h' he => by simp [callN] at he
  | n + 1 => fun f args h v h' he => by
    unfold callN at he
    split at he
    · rename_i u hf
      obtain ⟨ha, hu, h1, h2⟩ := hov _ _ _ (ovAt_mem hf)
      simp only [Option.some.injEq, Prod.mk.injEq] at he
      obtain ⟨rfl, rfl⟩ := he
      refine ⟨h1, fun ρ w args' hH hargs => ?_⟩
      have hargs := VRs.shut hargs ha
      have hargs : args' = (valsOf Nums.σ args).toArray := by rw [← hargs]
      subst hargs
      refine (h2 w hH.gl).mono ?_
      rintro e w' ⟨rfl, hb⟩
      exact ⟨ρ, _, rfl, VR.ofShut hu, Stp.left hH hb⟩
    split at he
    · rename_i r hk
      simp only [Option.some.injEq] at he
      subst he
      obtain ⟨k, hmem, rfl, rfl, hcs, heff, rfl⟩ := knAt_mem hk
      obtain ⟨h1, h2⟩ := hkn k hmem hcs
      exact ⟨h1, fun ρ w args' hH hargs => (h2 ρ _ _ w args' heff hH hargs).mono fun e w' ⟨x, hx, hv, hst⟩ => ⟨ρ, x, hx, hv, hst⟩⟩
    split at he <;> first | (cases he; done) | skip
    rename_i fn hf
    split at he <;> first | (cases he; done) | skip
    rename_i hname
    split at he <;> first | (cases he; done) | skip
    rename_i c hb
    split at he <;> first | (cases he; done) | skip
    rename_i hle
    rw [Bool.and_eq_true] at hle
    have hle := Nat.le_of_ble_eq_true hle.1
    refine ⟨⟨fn, c, hf, hname, hb⟩, fun ρ w args' hH hargs => ?_⟩
    have hal : args.length = args'.size := by simpa using hargs.len
    have hE : ER ρ (envOf 0 args .e) fn.ntmps { tmps := args' ++ Array.replicate (fn.ntmps - args'.size) undef, defers := [] } := by
      refine ⟨rfl, by simp; omega, fun t v hv => ?_⟩
      rcases envOf_get hv with ⟨_, h1⟩ | h1
      · rw [Nat.sub_zero] at h1
        obtain ⟨x, hx, hr⟩ := hargs.get h1
        refine ⟨x, ?_, hr⟩
        have hlt := (List.getElem?_eq_some_iff.1 hx).1
        rw [Array.getElem?_append_left (by simpa using hlt)]
        simpa using hx
      · rw [T.get_e] at h1; cases h1
    split at he <;> first | (cases he; done) | skip
    rename_i x env' h1 hno hx
    split at he <;> first | (cases he; done) | skip
    rename_i vs hvs
    simp only [Option.some.injEq, Prod.mk.injEq] at he
    obtain ⟨rfl, rfl⟩ := he
    refine calls_of_wp hf hb (wp_mono (exec_wp hm (callN_sound hm hov hkn n) c _ _ _ _ _ hx ρ w _ hE hH) ?_)
    rintro e a1 w1 ⟨rfl, ρ1, hst, hE1⟩
    obtain ⟨y, hy, hrun⟩ := results_sound (fn := fn) hst.hr hE1 hvs
    cases x with
    | exit id => exact absurd rfl (hno id)
    | normal => exact ⟨hE1.dz, y, hrun, ρ1, y, rfl, hy, hst⟩
    | ret => exact ⟨hE1.dz, y, hrun, ρ1, y, rfl, hy, hst⟩
omit [Nums] in
theorem AH.get_e {n k : Nat} : (AH.mk .e k).get n = none := T.getP_e _
/-- A CALL, BY THE RUNNER -/
theorem runs_calls (hm : P.follows .mixedOrders = true) {ov : Ov} (hov : OvOk P Fc.globs Nums.σ ov) {n : Nat} {f : FuncId} {args : List AV} {v : AV} (h : runs P ov n f args v = true) (ha : AV.shuts args = true) (hv : v.shut = true) (w : World) (hg : Tabs Fc.globs w) :
    Calls P f (valsOf Nums.σ args).toArray w fun e w' => e = .returned (valOf Nums.σ v) ∧ RowKit.Below w.heap.size w w' := by
  unfold runs at h
  split at h <;> first | (cases h; done) | skip
  rename_i u h' hc
  have h := AV.beq_eq h
  subst h
  have hH : HR (fun _ => none) (AH.mk .e 0).get (AH.mk .e 0).next w := ⟨fun _ _ => rfl, (fun n o hn => by rw [AH.get_e] at hn; cases hn), (fun n m b s s' hn => by rw [AH.get_e] at hn; cases hn), hg, (fun b l _ n s hn => by rw [AH.get_e] at hn; cases hn)⟩
  refine ((callN_sound hm hov kn_nil n _ _ _ _ _ hc).2 (fun _ => none) w _ hH (VRs.ofShut ha)).mono ?_
  rintro e w' ⟨ρ', x, rfl, hx, hst⟩
  exact ⟨by rw [VR.shut hx hv], hst.os, hst.tape, hst.output, hst.size, fun b hb => hst.block b hb fun n s hn => by rw [AH.get_e] at hn; cases hn⟩
omit [Nums] in
theorem heap2_get {s n : Nat} {o : AO} (h : (heap2 s).get n = some o) : (n = 0 ∧ o = .opq (2 * s)) ∨ (n = 1 ∧ o = .opq (2 * s + 1)) := by
  unfold heap2 AH.get at h
  rcases T.get_put h with ⟨rfl, h⟩ | ⟨h1, h⟩
  · exact .inr ⟨rfl, by cases h; rfl⟩
  · rcases T.get_put h with ⟨rfl, h⟩ | ⟨h2, h⟩
    · exact .inl ⟨rfl, by cases h; rfl⟩
    · rw [T.get_e] at h; cases h
/-- what two blocks of which nothing is known are behind a call, and all others -/
structure Two (w w' : World) (b0 b1 : Nat) (o0 o1 : Obj) : Prop where
  os : w'.os = w.os
  tape : w'.tape = w.tape
  output : w'.output = w.output
  size : w.heap.size ≤ w'.heap.size
  block : ∀ b, b < w.heap.size → b ≠ b0 → b ≠ b1 → w'.heap[b]? = w.heap[b]?
  at0 : w'.heap[b0]? = some o0
  at1 : w'.heap[b1]? = some o1
def ren2 (b0 b1 : Nat) : Ren := fun n => match n with
  | 0 => some (b0, 0)
  | 1 => some (b1, 0)
  | _ => none
omit [Nums] in
theorem isOpq_get {h : AH} {n i : Nat} (hq : isOpq h n i = true) : h.get n = some (.opq i) := by
  unfold isOpq at hq
  split at hq
  · rename_i j hj
    rw [hj, Nat.eq_of_beq_eq_true hq]
  · cases hq
/-- A CALL AMID TWO BLOCKS OF WHICH NOTHING IS KNOWN, BY THE RUNNER -/
theorem runs2_calls (hm : P.follows .mixedOrders = true) {ov : Ov} (hov : OvOk P Fc.globs Nums.σ ov) {kn : List Kn} (hkn : KnOk P kn) {n : Nat} {f : FuncId} {xs : List AV} {s0 s : Nat} {v : AV} (h : runs2 P ov kn n f (.ptr 0 0 :: xs) s0 v s = true) (ha : AV.shuts xs = true) (hv : v.shut = true)
    (w : World) (hg : Tabs Fc.globs w) {b0 b1 : Nat} (hb : b0 ≠ b1) (h0 : w.heap[b0]? = some (Nums.ω (2 * s0) b0 b1)) (h1 : w.heap[b1]? = some (Nums.ω (2 * s0 + 1) b0 b1)) (hgn : ∀ b l, findG b Fc.globs = some l → b ≠ b0 ∧ b ≠ b1) :
    Calls P f (.pointer (some ⟨b0, 0, none⟩) :: valsOf Nums.σ xs).toArray w fun e w' => e = .returned (valOf Nums.σ v) ∧ Two w w' b0 b1 (Nums.ω (2 * s) b0 b1) (Nums.ω (2 * s + 1) b0 b1) := by
  unfold runs2 at h
  split at h <;> first | (cases h; done) | skip
  rename_i u h' hc
  rw [Bool.and_eq_true, Bool.and_eq_true] at h
  obtain ⟨hu, q0, q1⟩ := h
  have hu := AV.beq_eq hu
  subst hu
  have q0 := isOpq_get q0
  have q1 := isOpq_get q1
  have hH : HR (ren2 b0 b1) (heap2 s0).get (heap2 s0).next w := by
    refine ⟨fun n hn => ?_, fun n o ho => ?_, fun n m b s s' hn hm hp hq => ?_, hg, fun b l hf n s hn hp => ?_⟩
    · have : 2 ≤ n := hn
      match n, this with
      | n + 2, _ => rfl
    · rcases heap2_get ho with ⟨rfl, rfl⟩ | ⟨rfl, rfl⟩
      · exact ⟨b0, 0, rfl, b0, 0, b1, 0, rfl, rfl, h0⟩
      · exact ⟨b1, 0, rfl, b0, 0, b1, 0, rfl, rfl, h1⟩
    · obtain ⟨o1, ho1⟩ := Option.isSome_iff_exists.1 hn
      obtain ⟨o2, ho2⟩ := Option.isSome_iff_exists.1 hm
      rcases heap2_get ho1 with ⟨rfl, _⟩ | ⟨rfl, _⟩ <;> rcases heap2_get ho2 with ⟨rfl, _⟩ | ⟨rfl, _⟩
      · rfl
      · simp only [ren2, Option.some.injEq, Prod.mk.injEq] at hp hq
        exact absurd (hp.1.trans hq.1.symm) hb
      · simp only [ren2, Option.some.injEq, Prod.mk.injEq] at hp hq
        exact absurd (hq.1.trans hp.1.symm) hb
      · rfl
    · obtain ⟨o1, ho1⟩ := Option.isSome_iff_exists.1 hn
      have := hgn b l hf
      rcases heap2_get ho1 with ⟨rfl, _⟩ | ⟨rfl, _⟩
      · simp only [ren2, Option.some.injEq, Prod.mk.injEq] at hp
        exact this.1 hp.1.symm
      · simp only [ren2, Option.some.injEq, Prod.mk.injEq] at hp
        exact this.2 hp.1.symm
  refine ((callN_sound hm hov hkn n _ _ _ _ _ hc).2 (ren2 b0 b1) w (.pointer (some ⟨b0, 0, none⟩) :: valsOf Nums.σ xs).toArray hH (VRs.cons (by unfold VR; exact ⟨b0, 0, rfl, rfl⟩) (VRs.ofShut ha))).mono ?_
  rintro e w' ⟨ρ', x, rfl, hx, hst⟩
  have e0 : ρ' 0 = some (b0, 0) := (hst.ext 0 (show 0 < 2 by omega)).trans rfl
  have e1 : ρ' 1 = some (b1, 0) := (hst.ext 1 (show 1 < 2 by omega)).trans rfl
  obtain ⟨c0, t0, p0, r0⟩ := hst.hr.obj 0 _ q0
  obtain ⟨c1, t1, p1, r1⟩ := hst.hr.obj 1 _ q1
  rw [e0] at p0
  rw [e1] at p1
  cases p0
  cases p1
  obtain ⟨_, _, _, _, k0, k1, r0⟩ := r0
  rw [e0] at k0
  rw [e1] at k1
  cases k0
  cases k1
  obtain ⟨_, _, _, _, k0, k1, r1⟩ := r1
  rw [e0] at k0
  rw [e1] at k1
  cases k0
  cases k1
  refine ⟨by rw [VR.shut hx hv], hst.os, hst.tape, hst.output, hst.size, fun b hb' n0 n1 => hst.block b hb' fun n s hn hp => ?_, r0, r1⟩
  obtain ⟨o1, ho1⟩ := Option.isSome_iff_exists.1 hn
  rcases heap2_get ho1 with ⟨rfl, _⟩ | ⟨rfl, _⟩
  · simp only [ren2, Option.some.injEq, Prod.mk.injEq] at hp
    exact n0 hp.1.symm
  · simp only [ren2, Option.some.injEq, Prod.mk.injEq] at hp
    exact n1 hp.1.symm
end
end
end Go.Proofs.Ytigakendeghoaaa.Ex

/-
  The runner: closed calls; calls whose numbers are not known, question by question. No condition.
-/
namespace Go.Proofs.Ytigakendeghoaaa.Ex
open Go
section
variable {P : Program} {gs : List (Nat × List Int)} {σ : Nat → Int}
theorem tabs_nil {w : World} : Tabs [] w := fun g l h => by cases h
theorem ov_nil : OvOk P gs σ [] := fun f xs v hf => by cases hf
/-- where a tree of questions leads to none of its ends -/
def BadP (σ : Nat → Int) : DT → Prop
  | .leaf | .is _ => False
  | .bad => True
  | .node c t e => (c.ev σ = true ∧ BadP σ t) ∨ (c.ev σ = false ∧ BadP σ e)
/-- what a tree of questions leads to -/
def Ends (σ : Nat → Int) : DT → Value → Prop
  | .leaf, x => x = .bool true
  | .is v, x => x = valOf σ v
  | .bad, _ => False
  | .node c t e, x => (c.ev σ = true ∧ Ends σ t x) ∨ (c.ev σ = false ∧ Ends σ e x)
theorem tree_ends (hm : P.follows .mixedOrders = true) {ov : Ov} (hov : OvOk P gs σ ov) {n : Nat} {f : FuncId} {args : List AV} (ha : AV.shuts args = true) : ∀ (d : DT) (fs : List (Cnd × Bool)), (∀ f ∈ fs, f.1.ev σ = f.2) → tree P gs ov n f args d fs = true → ¬ BadP σ d →
    ∀ w, Tabs gs w → Calls P f (valsOf σ args).toArray w fun e w' => (∃ x, e = .returned x ∧ Ends σ d x) ∧ RowKit.Below w.heap.size w w'
  | .leaf, fs, hfs, h, _, w, hg => (@runs_calls { facts := fs, globs := gs, σ := σ, ok := hfs } P hm ov hov n f args (.bool true) h ha rfl w hg).mono fun _ _ h => ⟨⟨_, h.1, rfl⟩, h.2⟩
  | .is v, fs, hfs, h, _, w, hg => by
    unfold tree at h
    split at h <;> first | (cases h; done) | skip
    rename_i hv
    exact (@runs_calls { facts := fs, globs := gs, σ := σ, ok := hfs } P hm ov hov n f args v h ha hv w hg).mono fun _ _ h => ⟨⟨_, h.1, rfl⟩, h.2⟩
  | .bad, _, _, _, hb, _, _ => absurd trivial hb
  | .node c t e, fs, hfs, h, hb, w, hg => by
    unfold tree at h
    split at h <;> first | (cases h; done) | skip
    rename_i ht
    cases hc : c.ev σ with
    | true =>
      refine (tree_ends hm hov ha t ((c, true) :: fs) (fun f hf => by rcases List.mem_cons.1 hf with rfl | hf; exact hc; exact hfs f hf) ht (fun hx => hb (.inl ⟨hc, hx⟩)) w hg).mono ?_
      rintro _ _ ⟨⟨x, rfl, hx⟩, h2⟩
      exact ⟨⟨x, rfl, .inl ⟨hc, hx⟩⟩, h2⟩
    | false =>
      refine (tree_ends hm hov ha e ((c, false) :: fs) (fun f hf => by rcases List.mem_cons.1 hf with rfl | hf; exact hc; exact hfs f hf) h (fun hx => hb (.inr ⟨hc, hx⟩)) w hg).mono ?_
      rintro _ _ ⟨⟨x, rfl, hx⟩, h2⟩
      exact ⟨⟨x, rfl, .inr ⟨hc, hx⟩⟩, h2⟩
/-- no end but true -/
def DT.plain : DT → Bool
  | .leaf | .bad => true
  | .is _ => false
  | .node _ t e => t.plain && e.plain
theorem ends_plain : ∀ {d : DT} {x : Value}, d.plain = true → Ends σ d x → x = .bool true
  | .leaf, _, _, h => h
  | .bad, _, _, h => h.elim
  | .is _, _, hp, _ => by cases hp
  | .node c t e, x, hp, h => by
    unfold DT.plain at hp
    rw [Bool.and_eq_true] at hp
    rcases h with ⟨_, h⟩ | ⟨_, h⟩
    · exact ends_plain hp.1 h
    · exact ends_plain hp.2 h
theorem tree_calls (hm : P.follows .mixedOrders = true) {ov : Ov} (hov : OvOk P gs σ ov) {n : Nat} {f : FuncId} {args : List AV} (ha : AV.shuts args = true) (d : DT) (hp : d.plain = true) (h : tree P gs ov n f args d [] = true) (hb : ¬ BadP σ d) (w : World) (hg : Tabs gs w) :
    Calls P f (valsOf σ args).toArray w fun e w' => e = .returned (.bool true) ∧ RowKit.Below w.heap.size w w' := by
  refine (tree_ends hm hov ha d [] (by simp) h hb w hg).mono ?_
  rintro _ _ ⟨⟨x, rfl, hx⟩, h2⟩
  rw [ends_plain hp hx]
  exact ⟨rfl, h2⟩
/-- A CALL WITHOUT ARGUMENTS -/
theorem leaf_calls (hm : P.follows .mixedOrders = true) {ov : Ov} (hov : OvOk P gs σ ov) {n : Nat} {f : FuncId} (h : tree P gs ov n f [] .leaf [] = true) (w : World) (hg : Tabs gs w) : Calls P f #[] w fun e w' => e = .returned (.bool true) ∧ RowKit.Below w.heap.size w w' :=
  tree_calls hm hov rfl .leaf rfl h (fun h => h) w hg
theorem yes_calls (hm : P.follows .mixedOrders = true) {n : Nat} {f : FuncId} (h : yes P n f = true) (w : World) : Calls P f #[] w fun e w' => e = .returned (.bool true) ∧ RowKit.Below w.heap.size w w' :=
  leaf_calls (gs := []) (σ := fun _ => 0) hm ov_nil h w tabs_nil
/-- one more call that is known -/
theorem ov_cons {ov : Ov} {f : FuncId} {xs : List AV} {v : AV} (hov : OvOk P gs σ ov) (ha : AV.shuts xs = true) (hv : v.shut = true) (hf : FnOk P f) (hc : ∀ w, Tabs gs w → Calls P f (valsOf σ xs).toArray w fun e w' => e = .returned (valOf σ v) ∧ RowKit.Below w.heap.size w w') : OvOk P gs σ ((f, xs, v) :: ov) := by
  intro g xs' v' hm
  rcases List.mem_cons.1 hm with he | he
  · simp only [Prod.mk.injEq] at he
    obtain ⟨rfl, rfl, rfl⟩ := he
    exact ⟨ha, hv, hf, hc⟩
  · exact hov g xs' v' he
/-- .. by a run -/
theorem ov_run (hm : P.follows .mixedOrders = true) {ov : Ov} (hov : OvOk P gs σ ov) {n : Nat} {f : FuncId} (hf : FnOk P f) (h : tree P gs ov n f [] .leaf [] = true) : OvOk P gs σ ((f, [], .bool true) :: ov) :=
  ov_cons hov rfl rfl hf fun w hg => leaf_calls hm hov h w hg
end
end Go.Proofs.Ytigakendeghoaaa.Ex

/-
  Memory as a list of owned blocks over the memory that was there at the start. Used by all walks of this seat. No condition.
-/
namespace Go.Proofs.Ytigakendeghoaaa
open Go.RowKit

/-- 'w' is 'W' with new blocks, of which the listed ones hold what is listed. -/
structure Own (W : World) (m : List (Nat × Obj)) (w : World) : Prop where
  below : Below W.heap.size W w
  at_ : ∀ p ∈ m, W.heap.size ≤ p.1 ∧ w.heap[p.1]? = some p.2
  nd : (m.map (·.1)).Nodup

theorem heap_lt {w : World} {g : Nat} {o : Obj} (h : w.heap[g]? = some o) : g < w.heap.size := by
  rcases Nat.lt_or_ge g w.heap.size with hlt | hge
  · exact hlt
  · rw [Array.getElem?_eq_none hge] at h; cases h

theorem perm_swap {α : Type} (A B C : List α) : (A ++ (B ++ C)).Perm (B ++ (A ++ C)) := by
  rw [← List.append_assoc, ← List.append_assoc]
  exact List.Perm.append_right _ List.perm_append_comm

namespace Own
variable {W w w' : World} {m m' : List (Nat × Obj)} {b i : Nat} {cs : Array Value} {t : TypeId} {o : Obj}

theorem init (W : World) : Own W [] W := ⟨Below.refl _ _, by simp, by simp⟩
theorem self (w : World) : Own w [] w := init w
theorem get (h : Own W m w) (hm : (b, o) ∈ m) : w.heap[b]? = some o := (h.at_ _ hm).2
theorem lt (h : Own W m w) (hm : (b, o) ∈ m) : b < w.heap.size := heap_lt (h.get hm)
theorem ge (h : Own W m w) (hm : (b, o) ∈ m) : W.heap.size ≤ b := (h.at_ _ hm).1
theorem cell (h : Own W m w) (hm : (b, .cells cs t) ∈ m) (i : Nat) : w.cell? ⟨b, i, none⟩ = cs[i]? := by
  simp [World.cell?, h.get hm]
theorem frozen (h : Own W m w) (hm : (b, .cells cs t) ∈ m) (i : Nat) : w.frozen? ⟨b, i, none⟩ = false := by
  simp [World.frozen?, h.get hm]
theorem old (h : Own W m w) {a : Addr} (ha : a.block < W.heap.size) : w.cell? a = W.cell? a := h.below.cell ha
theorem size_le (h : Own W m w) : W.heap.size ≤ w.heap.size := h.below.size
theorem drew (h : Own W m w) : Own W m w.drew := ⟨h.below.drew, h.at_, h.nd⟩
theorem drewN (h : Own W m w) (n : Nat) : Own W m (w.drewN n) := ⟨⟨h.below.os, h.below.tape, h.below.output, h.below.size, h.below.block⟩, h.at_, h.nd⟩
theorem perm (h : Own W m w) (hp : m.Perm m') : Own W m' w :=
  ⟨h.below, fun p hm => h.at_ p (hp.mem_iff.2 hm), (hp.map (·.1)).nodup_iff.1 h.nd⟩
theorem sub (h : Own W m w) (hs : m'.Sublist m) : Own W m' w :=
  ⟨h.below, fun p hm => h.at_ p (hs.subset hm), h.nd.sublist (hs.map _)⟩
theorem skip {x : Nat × Obj} (h : Own W (x :: m) w) : Own W m w := h.sub (List.sublist_cons_self _ _)
theorem dropL (h : Own W (m' ++ m) w) : Own W m w := h.sub (List.sublist_append_right _ _)
theorem dropR (h : Own W (m ++ m') w) : Own W m w := h.sub (List.sublist_append_left _ _)
theorem swap {m1 m2 m3 : List (Nat × Obj)} (h : Own W (m1 ++ (m2 ++ m3)) w) : Own W (m2 ++ (m1 ++ m3)) w :=
  h.perm (by rw [← List.append_assoc, ← List.append_assoc]; exact List.Perm.append_right _ List.perm_append_comm)
theorem comm {m1 m2 : List (Nat × Obj)} (h : Own W (m1 ++ m2) w) : Own W (m2 ++ m1) w := h.perm List.perm_append_comm
/-- nothing that was there has turned -/
theorem then_below (h : Own W m w) (hb : Below w.heap.size w w') : Own W m w' :=
  ⟨h.below.trans (hb.mono h.size_le), fun p hm => ⟨(h.at_ p hm).1, (hb.block p.1 (heap_lt (h.at_ p hm).2)).trans (h.at_ p hm).2⟩, h.nd⟩
theorem alloc (h : Own W m w) (o : Obj) : Own W m (w.alloc o) := h.then_below ((Below.refl _ _).alloc (Nat.le_refl _) _)
theorem new (h : Own W m w) (o : Obj) : Own W ((w.heap.size, o) :: m) (w.alloc o) :=
  ⟨(h.alloc o).below, fun p hm => by
    rcases List.mem_cons.1 hm with rfl | hm
    · exact ⟨h.size_le, heap_alloc_new w o⟩
    · exact (h.alloc o).at_ p hm, by
    simp only [List.map_cons, List.nodup_cons]
    refine ⟨fun hin => ?_, h.nd⟩
    obtain ⟨p, hp, he⟩ := List.mem_map.1 hin
    have := heap_lt (h.at_ p hp).2
    omega⟩
theorem set (h : Own W ((b, .cells cs t) :: m) w) (i : Nat) (v : Value) : Own W ((b, .cells (cs.setIfInBounds i v) t) :: m) (w.setCell ⟨b, i, none⟩ v) := by
  have hg := h.get (List.mem_cons_self)
  have hge := h.ge (List.mem_cons_self)
  refine ⟨h.below.setCell hge v, fun p hm => ?_, h.nd⟩
  rcases List.mem_cons.1 hm with rfl | hm
  · exact ⟨hge, by simp [World.setCell, Array.getElem?_modify, hg]⟩
  · have hne : p.1 ≠ b := fun he => by
      have := h.nd
      simp only [List.map_cons, List.nodup_cons] at this
      exact this.1 (he ▸ List.mem_map_of_mem (f := (·.1)) hm)
    exact ⟨(h.at_ p (List.mem_cons_of_mem _ hm)).1, (Below.heap_setCell w _ v p.1 hne).trans (h.at_ p (List.mem_cons_of_mem _ hm)).2⟩
theorem setIn {m1 m2 : List (Nat × Obj)} (h : Own W (m1 ++ (b, .cells cs t) :: m2) w) (i : Nat) (v : Value) :
    Own W (m1 ++ (b, .cells (cs.setIfInBounds i v) t) :: m2) (w.setCell ⟨b, i, none⟩ v) :=
  ((h.perm List.perm_middle).set i v).perm List.perm_middle.symm
theorem toBelow (h : Own w m w') : Below w.heap.size w w' := h.below
theorem of_self (h : Own W m w) (h' : Own w [] w') : Own W m w' := h.then_below h'.below
/-- what a call makes, beside what was there -/
theorem join (h : Own W m w) (h' : Own w m' w') : Own W (m' ++ m) w' := by
  have hk := h.then_below h'.below
  refine ⟨hk.below, fun p hp => ?_, ?_⟩
  · rcases List.mem_append.1 hp with hp | hp
    · exact ⟨Nat.le_trans h.size_le (h'.at_ p hp).1, (h'.at_ p hp).2⟩
    · exact hk.at_ p hp
  · rw [List.map_append, List.nodup_append]
    refine ⟨h'.nd, h.nd, fun a ha b hb => ?_⟩
    obtain ⟨p, hp, rfl⟩ := List.mem_map.1 ha
    obtain ⟨q, hq, rfl⟩ := List.mem_map.1 hb
    have h1 := (h'.at_ p hp).1
    have h2 := heap_lt (h.at_ q hq).2
    omega
theorem ne {b' : Nat} {o' : Obj} (h : Own W ((b, o) :: m) w) (hm : (b', o') ∈ m) : b' ≠ b := fun he => by
  have := h.nd
  simp only [List.map_cons, List.nodup_cons] at this
  exact this.1 (he ▸ List.mem_map_of_mem (f := (·.1)) hm)
theorem front3 {m1 m2 m3 m4 : List (Nat × Obj)} (h : Own W (m1 ++ (m2 ++ (m3 ++ m4))) w) : Own W (m3 ++ (m1 ++ (m2 ++ m4))) w :=
  h.perm ((List.Perm.append_left _ (perm_swap _ _ _)).trans (perm_swap _ _ _))
theorem dropIn {m1 m2 m3 : List (Nat × Obj)} (h : Own W (m1 ++ (m2 ++ m3)) w) : Own W (m1 ++ m3) w :=
  h.sub ((List.Sublist.refl _).append (List.sublist_append_right _ _))
theorem drop1 {x : Nat × Obj} {m1 : List (Nat × Obj)} (h : Own W (m1 ++ x :: m) w) : Own W (m1 ++ m) w :=
  h.sub ((List.Sublist.refl _).append (List.sublist_cons_self _ _))
theorem drop2 {x : Nat × Obj} {m1 m2 : List (Nat × Obj)} (h : Own W (m1 ++ (m2 ++ x :: m)) w) : Own W (m1 ++ (m2 ++ m)) w :=
  h.sub ((List.Sublist.refl _).append ((List.Sublist.refl _).append (List.sublist_cons_self _ _)))
/-- a new block behind one, or two, groups of blocks -/
theorem new1 {m1 : List (Nat × Obj)} (h : Own W (m1 ++ m) w) (o : Obj) : Own W (m1 ++ (w.heap.size, o) :: m) (w.alloc o) := (h.new o).perm List.perm_middle.symm
theorem new2 {m1 m2 : List (Nat × Obj)} (h : Own W (m1 ++ (m2 ++ m)) w) (o : Obj) : Own W (m1 ++ (m2 ++ (w.heap.size, o) :: m)) (w.alloc o) :=
  (h.new o).perm (by rw [← List.append_assoc, ← List.append_assoc]; exact List.perm_middle.symm)
end Own

/-! ### make -/
theorem run_make_rowN {P : Program} (t e : TypeId) (i : TypeInfo) (z : Value) (ht : P.underlying t = some (.slice e)) (hi : P.info? e = some i) (hz : i.zero = some z)
    (kl kc : IntKind) (n c : Nat) (hnc : n ≤ c) (hbytes : i.bytes * c ≤ 281474976710656) (h63 : c ≤ 9223372036854775807) (w : World) :
    (Instr.makeSlice t (.int kl (n : Int)) (.int kc (c : Int))).run P w = .ok (.slice (some ⟨w.heap.size, 0, none⟩) n c) (w.alloc (.cells (madeCells z.cells (c * i.size)) e)) := by
  have hb : (i.bytes : Int) * (c : Int) ≤ 281474976710656 := by
    have h : ((i.bytes * c : Nat) : Int) ≤ 281474976710656 := by omega
    rwa [Int.natCast_mul] at h
  have hr := run_make (P := P) w t e i z ht hi hz kl kc n c (by omega) (by omega) hb (by omega)
  simp only [Int.toNat_natCast] at hr
  exact hr
theorem madeCells_const (z : Array Value) (x : Value) (n : Nat) (h0 : 0 < z.size) (h : ∀ i, i < z.size → z[i]! = x) : madeCells z n = Array.replicate n x := by
  apply Array.ext
  · simp [madeCells]
  · intro i h1 h2
    simp [madeCells, h (i % z.size) (Nat.mod_lt _ h0)]
/-- what is told of a type -/
theorem info_get {P : Program} {t n b : Nat} {z : Value} (h : (P.info? t).map (fun i => (i.zero, i.size, i.bytes)) = some (some z, n, b)) : ∃ i, P.info? t = some i ∧ i.zero = some z ∧ i.size = n ∧ i.bytes = b := by
  cases hi : P.info? t with
  | none => rw [hi] at h; cases h
  | some i => rw [hi] at h; simp at h; exact ⟨i, rfl, h⟩
end Go.Proofs.Ytigakendeghoaaa

/-
  From what a law's walk gives to the law's row: the call returns true, and of what was there before nothing has turned. No condition.
-/
namespace Go.Proofs.Ytigakendeghoaaa
open Go.ChangeShapes Go.WideShapes Go.ChangeAt Go.RowKit

theorem Try.own : ownKnob Try.prog.godebug = none := by kernel_rfl
theorem Try.laidOut : laidOutB Try.prog = true := by kernel_rfl

section
variable {H : Type} {enc : TypeId × Value → H} {P : Program}
/-- arguments read behind the call as they did -/
theorem trodAll_below (hl : laidOutB P = true) {W W' : World} (hb : Below W.heap.size W W') {sp : Nat → Bool} :
    ∀ (ts : List TypeId) (vs : List Value) (ds : List (DataW H)) (ps : List MemPlace), (∀ t ∈ ts, P.readableRec t = true ∧ t < P.types.size) →
    DataW.TrodAll enc P W 0 (fun _ => true) true ts vs ds ps → (∀ x ∈ ps, x.block < W.heap.size) → (∀ x ∈ ps, sp x.block = true) →
    DataW.TrodAll enc P W' 0 sp true ts vs ds ps
  | [], vs, ds, ps, _, h, _, _ => by
    obtain ⟨rfl, rfl, rfl⟩ := trodAll_nil h
    exact trodAll_mk0
  | t :: ts, vs, ds, ps, hr, h, hlt, hs => by
    obtain ⟨v, vs', d, ds', p, q, rfl, rfl, rfl, h1, h2⟩ := trodAll_cons h
    obtain ⟨hr1, hr2⟩ := hr t List.mem_cons_self
    exact trodAll_cons_mk (WideElems.Trod_stays hl hr1 hr2 h1 (fun x hx => hb.same (hlt x (List.mem_append_left _ hx))) (fun x hx => hs x (List.mem_append_left _ hx)))
      (trodAll_below hl hb ts vs' ds' q (fun t' ht' => hr t' (List.mem_cons_of_mem _ ht')) h2 (fun x hx => hlt x (List.mem_append_right _ hx)) (fun x hx => hs x (List.mem_append_right _ hx)))

theorem law_post {f : Func} {s : ChangeSpec} {T : TypeId} {apart fresh handsOn again : Bool} {W W' : World} {args : Array Value} {ds gs : List (DataW H)} {before : List MemPlace} (hl : laidOutB P = true)
    (hT : P.underlying T = some .bool) (hres : f.resultTypes = #[T]) (hvars : s.vars = []) (hr : ∀ t ∈ f.params.toList, P.readableRec t = true ∧ t < P.types.size)
    (hW : DataW.Whole enc P f.params.toList s.vars apart W args.toList ds gs before)
    (hfn : s.fn H ds = { results := [.lit (.bool true)], args := ds }) (hb : Below W.heap.size W W') :
    s.post enc P f apart fresh handsOn again W args (.bool true) W' := by
  have hW' := hW
  obtain ⟨p, q, hA, hV, rfl, hz, hn⟩ := hW
  rw [hvars] at hV
  obtain ⟨rfl, rfl⟩ := trodVars_none hV
  simp only [List.append_nil] at hW'
  have hlt : ∀ x ∈ p, x.block < W.heap.size := fun x hx => hW'.lt x hx
  have hA' : ∀ sp : Nat → Bool, (∀ x ∈ p, sp x.block = true) → DataW.TrodAll enc P W' 0 sp true f.params.toList args.toList ds p :=
    fun sp hs => trodAll_below hl hb _ _ _ _ hr hA hlt hs
  have hR : ∀ (b : Nat) (sp : Nat → Bool) (hd : Bool), DataW.TrodAll enc P W' b sp hd f.resultTypes.toList ((Value.bool true).resultList f.resultTypes.size) [.lit (.bool true)] [] := fun b sp hd => by
    rw [hres]; exact trodAll_mk1 (shut_bool hT _)
  have hold : ∀ x ∈ p, (fun b => decide (b < W.heap.size)) x.block = true := fun x hx => by simpa using hlt x hx
  have hds : s.fn H (ds ++ []) = { results := [.lit (.bool true)], args := ds } := by rw [List.append_nil]; exact hfn
  refine ⟨ds, [], p, [], p, [], hW', ?_, ?_, ?_, World.keptBut_mono (fun x hx => ⟨hx, .inr (.inl hx)⟩) (hb.frame (· ∈ p)), fun _ => ?_⟩
  · rw [hds]; exact hR _ _ _
  · rw [hds]; exact hA' _ hold
  · rw [hvars, hds]; rfl
  · refine ⟨ok_one hres rfl (okWide_bool_mk hT _), _, [], [] ++ p, ⟨[] ++ p, [], trodAll_append (hA' _ (fun _ _ => rfl)) (hR 0 (fun _ => true) true), by rw [hvars]; rfl, by simp, ?_, ?_⟩, ?_⟩
    · intro b off hp
      have hin : MemPlace.cell b off ∈ p := by simpa using hp
      rw [hb.frozen (hlt _ hin)]
      exact hz b off (by simpa using hin)
    · intro ha
      simpa using hn ha
    · intro x hx _
      simpa using hx
end
end Go.Proofs.Ytigakendeghoaaa

/-
  From a run in the kernel to the form that a law's last text wants. No condition.
-/
namespace Go.Proofs.Ytigakendeghoaaa.Ex
open Go
theorem mixed : Try.prog.follows .mixedOrders = true := by kernel_rfl
theorem yes_own {n : Nat} {f : FuncId} (h : yes Try.prog n f = true) (w : World) : Calls Try.prog f #[] w fun e w' => e = .returned (.bool true) ∧ Own w [] w' :=
  (yes_calls mixed h w).mono fun _ _ h => ⟨h.1, ⟨h.2, by simp, by simp⟩⟩
/-- .. amid other blocks -/
theorem yes_in {n : Nat} {f : FuncId} (h : yes Try.prog n f = true) {W w : World} {m : List (Nat × Obj)} (hO : Own W m w) : Calls Try.prog f #[] w fun e w' => e = .returned (.bool true) ∧ Own W m w' :=
  (yes_calls mixed h w).mono fun _ _ h => ⟨h.1, hO.then_below h.2⟩
/-- .. where calls are known, and tables -/
theorem yes_over {gs : List (Nat × List Int)} {σ : Nat → Int} {ov : Ov} (hov : OvOk Try.prog gs σ ov) {n : Nat} {f : FuncId} (h : tree Try.prog gs ov n f [] .leaf [] = true) (w : World) (hg : Tabs gs w) : Calls Try.prog f #[] w fun e w' => e = .returned (.bool true) ∧ Own w [] w' :=
  (leaf_calls mixed hov h w hg).mono fun _ _ h => ⟨h.1, ⟨h.2, by simp, by simp⟩⟩
/-- a law with arguments -/
theorem law_over {gs : List (Nat × List Int)} {σ : Nat → Int} {ov : Ov} (hov : OvOk Try.prog gs σ ov) {n : Nat} {f : FuncId} {args : List AV} (ha : AV.shuts args = true) (d : DT) (hp : d.plain = true) (h : tree Try.prog gs ov n f args d [] = true) (hb : ¬ BadP σ d) (w : World) (hg : Tabs gs w) :
    Calls Try.prog f (valsOf σ args).toArray w fun e w' => e = .returned (.bool true) ∧ Own w [] w' :=
  (tree_calls mixed hov ha d hp h hb w hg).mono fun _ _ h => ⟨h.1, ⟨h.2, by simp, by simp⟩⟩
end Go.Proofs.Ytigakendeghoaaa.Ex

/-
  Calls amid a memory of which nothing is known but what known calls make of it, question by question. No condition.
-/
namespace Go.Proofs.Ytigakendeghoaaa.Ex
open Go
section
variable {P : Program} {gs : List (Nat × List Int)} {σ : Nat → Int} {ω : Nat → Nat → Nat → Obj}
/-- calls that are known, whatever is known of numbers -/
def KnAll (P : Program) (gs : List (Nat × List Int)) (σ : Nat → Int) (ω : Nat → Nat → Nat → Obj) (kn : List Kn) : Prop :=
  ∀ (fs : List (Cnd × Bool)) (hfs : ∀ f ∈ fs, f.1.ev σ = f.2), @KnOk { facts := fs, globs := gs, σ := σ, ω := ω, ok := hfs } P kn
theorem knAll_nil : KnAll P gs σ ω [] := fun fs hfs => @kn_nil { facts := fs, globs := gs, σ := σ, ω := ω, ok := hfs } P
/-- what a tree of questions leads to -/
def EndsM (σ : Nat → Int) : DM → Value → Nat → Prop
  | .is v s, x, t => x = valOf σ v ∧ t = s
  | .bad, _, _ => False
  | .node c t e, x, s => (c.ev σ = true ∧ EndsM σ t x s) ∨ (c.ev σ = false ∧ EndsM σ e x s)
def BadM (σ : Nat → Int) : DM → Prop
  | .is _ _ => False
  | .bad => True
  | .node c t e => (c.ev σ = true ∧ BadM σ t) ∨ (c.ev σ = false ∧ BadM σ e)
def hasBadM : DM → Bool
  | .bad => true
  | .node _ t e => hasBadM t || hasBadM e
  | .is _ _ => false
theorem no_badM {t : DM} (h : hasBadM t = false) : ¬ BadM σ t := by
  induction t with
  | is _ _ => exact fun h => h
  | bad => cases h
  | node c t e i1 i2 =>
    unfold hasBadM at h
    rw [Bool.or_eq_false_iff] at h
    rintro (⟨_, h1⟩ | ⟨_, h1⟩)
    · exact i1 h.1 h1
    · exact i2 h.2 h1
theorem treeM_ends (hm : P.follows .mixedOrders = true) {ov : Ov} (hov : OvOk P gs σ ov) {kn : List Kn} (hkn : KnAll P gs σ ω kn) {n : Nat} {f : FuncId} {xs : List AV} (ha : AV.shuts xs = true) {s0 : Nat} : ∀ (d : DM) (fs : List (Cnd × Bool)), (∀ f ∈ fs, f.1.ev σ = f.2) →
    treeM P gs ov kn n f (.ptr 0 0 :: xs) s0 d fs = true → ¬ BadM σ d →
    ∀ w, Tabs gs w → ∀ b0 b1, b0 ≠ b1 → w.heap[b0]? = some (ω (2 * s0) b0 b1) → w.heap[b1]? = some (ω (2 * s0 + 1) b0 b1) → (∀ b l, findG b gs = some l → b ≠ b0 ∧ b ≠ b1) →
    Calls P f (.pointer (some ⟨b0, 0, none⟩) :: valsOf σ xs).toArray w fun e w' => ∃ x s, e = .returned x ∧ EndsM σ d x s ∧ Two w w' b0 b1 (ω (2 * s) b0 b1) (ω (2 * s + 1) b0 b1)
  | .is v s, fs, hfs, h, _, w, hg, b0, b1, hb, h0, h1, hgn => by
    unfold treeM at h
    split at h <;> first | (cases h; done) | skip
    rename_i hv
    exact (@runs2_calls { facts := fs, globs := gs, σ := σ, ω := ω, ok := hfs } P hm ov hov kn (hkn fs hfs) n f xs s0 s v h ha hv w hg b0 b1 hb h0 h1 hgn).mono fun _ _ h => ⟨_, s, h.1, ⟨rfl, rfl⟩, h.2⟩
  | .bad, _, _, _, hb, _, _, _, _, _, _, _, _ => absurd trivial hb
  | .node c t e, fs, hfs, h, hb, w, hg, b0, b1, hbb, h0, h1, hgn => by
    unfold treeM at h
    split at h <;> first | (cases h; done) | skip
    rename_i ht
    cases hc : c.ev σ with
    | true =>
      refine (treeM_ends hm hov hkn ha t ((c, true) :: fs) (fun f hf => by rcases List.mem_cons.1 hf with rfl | hf; exact hc; exact hfs f hf) ht (fun hx => hb (.inl ⟨hc, hx⟩)) w hg b0 b1 hbb h0 h1 hgn).mono ?_
      rintro _ _ ⟨x, s, rfl, hx, h2⟩
      exact ⟨x, s, rfl, .inl ⟨hc, hx⟩, h2⟩
    | false =>
      refine (treeM_ends hm hov hkn ha e ((c, false) :: fs) (fun f hf => by rcases List.mem_cons.1 hf with rfl | hf; exact hc; exact hfs f hf) h (fun hx => hb (.inr ⟨hc, hx⟩)) w hg b0 b1 hbb h0 h1 hgn).mono ?_
      rintro _ _ ⟨x, s, rfl, hx, h2⟩
      exact ⟨x, s, rfl, .inr ⟨hc, hx⟩, h2⟩
/-! from, and to, the form of owned blocks -/
theorem Two.own {W w w' : World} {m : List (Nat × Obj)} {b0 b1 : Nat} {o0 o1 o0' o1' : Obj} (h : Own W ((b0, o0) :: (b1, o1) :: m) w) (ht : Two w w' b0 b1 o0' o1') : Own W ((b0, o0') :: (b1, o1') :: m) w' := by
  have hn0 : ∀ p ∈ m, p.1 ≠ b0 := fun p hp => h.ne (List.mem_cons_of_mem _ hp)
  have hn1 : ∀ p ∈ m, p.1 ≠ b1 := fun p hp => h.skip.ne hp
  have g0 := h.ge List.mem_cons_self
  have g1 := h.skip.ge List.mem_cons_self
  refine ⟨⟨ht.os.trans h.below.os, ht.tape.trans h.below.tape, ht.output.trans h.below.output, Nat.le_trans h.below.size ht.size, fun b hb => ?_⟩, fun p hp => ?_, h.nd⟩
  · rw [ht.block b (Nat.lt_of_lt_of_le hb h.below.size) (by omega) (by omega)]
    exact h.below.block b hb
  · rcases List.mem_cons.1 hp with rfl | hp
    · exact ⟨g0, ht.at0⟩
    · rcases List.mem_cons.1 hp with rfl | hp
      · exact ⟨g1, ht.at1⟩
      · have := h.at_ p (List.mem_cons_of_mem _ (List.mem_cons_of_mem _ hp))
        refine ⟨this.1, ?_⟩
        rw [ht.block p.1 (heap_lt this.2) (hn0 p hp) (hn1 p hp)]
        exact this.2
theorem two_of {w : World} {b0 b1 : Nat} {o0 o1 o0' o1' : Obj} (hb : b0 ≠ b1) (h0 : w.heap[b0]? = some o0) (h1 : w.heap[b1]? = some o1) {Q : Ending → Prop} {f : FuncId} {args : Array Value}
    (hc : ∀ (W : World) (m : List (Nat × Obj)), Own W ((b0, o0) :: (b1, o1) :: m) w → Calls P f args w fun e w' => Q e ∧ Own W ((b0, o0') :: (b1, o1') :: m) w') :
    Calls P f args w fun e w' => Q e ∧ Two w w' b0 b1 o0' o1' := by
  let W : World := { w with heap := #[] }
  let m : List (Nat × Obj) := ((List.range w.heap.size).filter fun b => b != b0 && b != b1).map fun b => (b, w.heap[b]?.getD o0)
  have hO : Own W ((b0, o0) :: (b1, o1) :: m) w := by
    refine ⟨⟨rfl, rfl, rfl, Nat.zero_le _, fun b hb => by simp [W] at hb⟩, fun p hp => ⟨Nat.zero_le _, ?_⟩, ?_⟩
    · rcases List.mem_cons.1 hp with rfl | hp
      · exact h0
      · rcases List.mem_cons.1 hp with rfl | hp
        · exact h1
        · obtain ⟨b, hb, rfl⟩ := List.mem_map.1 hp
          have hlt := List.mem_range.1 (List.mem_filter.1 hb).1
          simp [Array.getElem?_eq_getElem hlt]
    · have hmm : m.map (·.1) = (List.range w.heap.size).filter fun b => b != b0 && b != b1 := by
        simp [m, List.map_map, Function.comp_def]
      simp only [List.map_cons, hmm, List.nodup_cons, List.mem_cons, List.mem_filter, List.mem_range]
      refine ⟨fun h => ?_, fun h => ?_, List.nodup_range.filter _⟩
      · rcases h with h | h
        · exact hb h
        · simp at h
      · simp at h
  refine (hc W m hO).mono ?_
  rintro e w' ⟨hq, h'⟩
  refine ⟨hq, h'.below.os, h'.below.tape, h'.below.output, ?_, fun b hbl n0 n1 => ?_, h'.get List.mem_cons_self, h'.get (List.mem_cons_of_mem _ List.mem_cons_self)⟩
  · rcases Nat.lt_or_ge w'.heap.size w.heap.size with hlt | hge
    · -- the greatest block is still there
      exfalso
      have hpos : w.heap.size - 1 < w.heap.size := by omega
      have hthere : ∃ o, w'.heap[w.heap.size - 1]? = some o := by
        by_cases e0 : w.heap.size - 1 = b0
        · exact ⟨_, by rw [e0]; exact h'.get List.mem_cons_self⟩
        · by_cases e1 : w.heap.size - 1 = b1
          · exact ⟨_, by rw [e1]; exact h'.get (List.mem_cons_of_mem _ List.mem_cons_self)⟩
          · refine ⟨_, h'.get (b := w.heap.size - 1) (o := w.heap[w.heap.size - 1]?.getD o0) ?_⟩
            refine List.mem_cons_of_mem _ (List.mem_cons_of_mem _ (List.mem_map.2 ⟨w.heap.size - 1, List.mem_filter.2 ⟨List.mem_range.2 hpos, ?_⟩, rfl⟩))
            simp [e0, e1]
      obtain ⟨o, ho⟩ := hthere
      have := heap_lt ho
      omega
    · exact hge
  · have := h'.get (b := b) (o := w.heap[b]?.getD o0) (List.mem_cons_of_mem _ (List.mem_cons_of_mem _ (List.mem_map.2 ⟨b, List.mem_filter.2 ⟨List.mem_range.2 hbl, by simp [n0, n1]⟩, rfl⟩)))
    rw [this, Array.getElem?_eq_getElem hbl]
    rfl
/-- A CALL AMID A MEMORY: its two blocks are the first ones that are owned -/
theorem treeM_own (hm : P.follows .mixedOrders = true) {ov : Ov} (hov : OvOk P [] σ ov) {kn : List Kn} (hkn : KnAll P [] σ ω kn) {n : Nat} {f : FuncId} {xs : List AV} (ha : AV.shuts xs = true) {s0 : Nat} (d : DM) (fs : List (Cnd × Bool)) (hfs : ∀ f ∈ fs, f.1.ev σ = f.2)
    (h : treeM P [] ov kn n f (.ptr 0 0 :: xs) s0 d fs = true) (hbad : ¬ BadM σ d) {W w : World} {m : List (Nat × Obj)} {b0 b1 : Nat} (hO : Own W ((b0, ω (2 * s0) b0 b1) :: (b1, ω (2 * s0 + 1) b0 b1) :: m) w) :
    Calls P f (.pointer (some ⟨b0, 0, none⟩) :: valsOf σ xs).toArray w fun e w' => ∃ x s, e = .returned x ∧ EndsM σ d x s ∧ Own W ((b0, ω (2 * s) b0 b1) :: (b1, ω (2 * s + 1) b0 b1) :: m) w' :=
  (treeM_ends hm hov hkn ha d fs hfs h hbad w tabs_nil b0 b1 (fun he => hO.ne (List.mem_cons_self) he.symm) (hO.get List.mem_cons_self) (hO.skip.get List.mem_cons_self) (fun b l hf => by cases hf)).mono
    fun _ _ ⟨x, s, h1, h2, h3⟩ => ⟨x, s, h1, h2, h3.own hO⟩
/-! known calls -/
theorem KnAll.cons {k : Kn} {kn : List Kn} (h : KnAll P gs σ ω [k]) (hk : KnAll P gs σ ω kn) : KnAll P gs σ ω (k :: kn) := fun fs hfs x hx => by
  rcases List.mem_cons.1 hx with rfl | hx
  · exact h fs hfs x List.mem_cons_self
  · exact hk fs hfs x hx
/-- one that looks at no memory -/
theorem kn_pure {k : Kn} (ha : AV.shuts k.args = true) (hv : k.res.shut = true) (he : k.effs = []) (hf : FnOk P k.f)
    (hc : (∀ c ∈ k.conds, c.1.ev σ = c.2) → ∀ w, Calls P k.f (valsOf σ k.args).toArray w fun e w' => e = .returned (valOf σ k.res) ∧ RowKit.Below w.heap.size w w') : KnAll P gs σ ω [k] := fun fs hfs x hx hcs => by
  rw [List.mem_singleton] at hx
  subst hx
  refine ⟨hf, fun ρ h h' w args' heff hH hargs => ?_⟩
  rw [he] at heff
  simp only [effDo, Option.some.injEq] at heff
  subst heff
  have hargs := @VRs.shut { facts := fs, globs := gs, σ := σ, ω := ω, ok := hfs } ρ _ _ hargs ha
  have hargs : args' = (valsOf σ x.args).toArray := by
    apply Array.ext'
    rw [hargs]
    rfl
  subst hargs
  refine (hc hcs w).mono ?_
  rintro e w' ⟨rfl, hb⟩
  exact ⟨_, rfl, @VR.ofShut { facts := fs, globs := gs, σ := σ, ω := ω, ok := hfs } ρ _ hv, @Stp.left { facts := fs, globs := gs, σ := σ, ω := ω, ok := hfs } ρ w _ _ w' hH hb⟩
/-- one that looks at the memory, or turns it -/
theorem kn_mem {k : Kn} {xs : List AV} {s s' : Nat} (hargs : k.args = .ptr 0 0 :: xs) (ha : AV.shuts xs = true) (hv : k.res.shut = true) (he : k.effs = [(0, 2 * s, 2 * s'), (1, 2 * s + 1, 2 * s' + 1)]) (hf : FnOk P k.f) (hgs : gs = [])
    (hc : (∀ c ∈ k.conds, c.1.ev σ = c.2) → ∀ (W w : World) (m : List (Nat × Obj)) (b0 b1 : Nat), Own W ((b0, ω (2 * s) b0 b1) :: (b1, ω (2 * s + 1) b0 b1) :: m) w →
      Calls P k.f (.pointer (some ⟨b0, 0, none⟩) :: valsOf σ xs).toArray w fun e w' => e = .returned (valOf σ k.res) ∧ Own W ((b0, ω (2 * s') b0 b1) :: (b1, ω (2 * s' + 1) b0 b1) :: m) w') : KnAll P gs σ ω [k] := fun fs hfs x hx hcs => by
  subst hgs
  rw [List.mem_singleton] at hx
  subst hx
  refine ⟨hf, fun ρ h h' w args' heff hH hargs' => ?_⟩
  rw [he] at heff
  rw [hargs] at hargs'
  unfold effDo at heff
  split at heff <;> first | (cases heff; done) | skip
  rename_i q0 hq0
  split at heff <;> first | (cases heff; done) | skip
  rename_i hb0
  have hb0 := Nat.eq_of_beq_eq_true hb0
  subst hb0
  unfold effDo at heff
  split at heff <;> first | (cases heff; done) | skip
  rename_i q1 hq1'
  split at heff <;> first | (cases heff; done) | skip
  rename_i hb1
  have hb1 := Nat.eq_of_beq_eq_true hb1
  subst hb1
  simp only [effDo, Option.some.injEq] at heff
  subst heff
  have hq1 : h.get 1 = some (.opq (2 * s + 1)) := by
    rcases put_spec hq1' with ⟨h1, _⟩ | ⟨_, h1⟩
    · cases h1
    · exact h1
  letI N : Nums := { facts := fs, globs := [], σ := σ, ω := ω, ok := hfs }
  obtain ⟨b0, z0, p0, r0⟩ := hH.obj 0 _ hq0
  obtain ⟨b1, z1, p1, r1⟩ := hH.obj 1 _ hq1
  have hne : b0 ≠ b1 := fun he => by
    have := hH.inj 0 1 b0 z0 z1 (by rw [hq0]; rfl) (by rw [hq1]; rfl) p0 (by rw [he]; exact p1)
    cases this
  obtain ⟨y, ys, hy, hp, hys⟩ := VRs.uncons hargs'
  unfold VR at hp
  obtain ⟨b0', z0', p0', rfl⟩ := hp
  rw [p0] at p0'
  cases p0'
  have hys := @VRs.shut N ρ _ _ hys ha
  obtain ⟨_, _, _, _, k0, k1, r0⟩ := r0
  rw [p0] at k0
  rw [p1] at k1
  cases k0
  cases k1
  obtain ⟨_, _, _, _, k0, k1, r1⟩ := r1
  rw [p0] at k0
  rw [p1] at k1
  cases k0
  cases k1
  have hargs2 : args' = (.pointer (some ⟨b0, 0, none⟩) :: valsOf σ xs).toArray := by
    apply Array.ext'
    rw [hy, hys]
    rfl
  subst hargs2
  refine (two_of (P := P) (Q := fun e => e = .returned (valOf σ x.res)) hne r0 r1 fun W m hO => hc hcs W w m b0 b1 hO).mono ?_
  rintro e w' ⟨rfl, ht⟩
  refine ⟨_, rfl, @VR.ofShut N ρ _ hv, ?_⟩
  -- both blocks change at once
  have hI : ∀ n o', ((h.put 0 (some (.opq (2 * s')))).put 1 (some (.opq (2 * s' + 1)))).get n = some o' → (n = 1 ∧ o' = .opq (2 * s' + 1)) ∨ (n = 0 ∧ o' = .opq (2 * s')) ∨ (n ≠ 0 ∧ n ≠ 1 ∧ h.get n = some o') := by
    intro n o' ho
    rcases put_spec ho with ⟨h1, h2⟩ | ⟨h1, h2⟩
    · exact .inl ⟨h1, by cases h2; rfl⟩
    · rcases put_spec h2 with ⟨h3, h4⟩ | ⟨h3, h4⟩
      · exact .inr (.inl ⟨h3, by cases h4; rfl⟩)
      · exact .inr (.inr ⟨h3, h1, h4⟩)
  have hS : ∀ n, (((h.put 0 (some (.opq (2 * s')))).put 1 (some (.opq (2 * s' + 1)))).get n).isSome = true → (h.get n).isSome = true := by
    intro n hn
    obtain ⟨o', ho'⟩ := Option.isSome_iff_exists.1 hn
    rcases hI n o' ho' with ⟨rfl, _⟩ | ⟨rfl, _⟩ | ⟨_, _, h1⟩
    · rw [hq1]; rfl
    · rw [hq0]; rfl
    · rw [h1]; rfl
  have hblk : ∀ n o' b z, n ≠ 0 → n ≠ 1 → h.get n = some o' → ρ n = some (b, z) → w'.heap[b]? = w.heap[b]? := by
    intro n o' b z n0 n1 ho hp
    obtain ⟨b2, z2, p2, r2⟩ := hH.obj n o' ho
    rw [hp] at p2
    cases p2
    have hlt : b < w.heap.size := by
      rcases Nat.lt_or_ge b w.heap.size with hlt | hge
      · exact hlt
      · rw [Array.getElem?_eq_none hge] at r2
        exact r2.notNone.elim
    refine ht.block b hlt (fun he => n0 ?_) (fun he => n1 ?_)
    · exact hH.inj n 0 b z z0 (by rw [ho]; rfl) (by rw [hq0]; rfl) hp (by rw [he]; exact p0)
    · exact hH.inj n 1 b z z1 (by rw [ho]; rfl) (by rw [hq1]; rfl) hp (by rw [he]; exact p1)
  refine ⟨⟨hH.fresh, fun n o' ho => ?_, fun n q b z z' hn hq => hH.inj n q b z z' (hS n hn) (hS q hq), tabs_nil, fun b l hf => by cases hf⟩, fun _ _ => rfl, Nat.le_refl _, ht.os, ht.tape, ht.output, ht.size, fun b hb hl => ?_, fun n b z hn hp => .inr ⟨n, z, hS n hn, hp⟩, fun n _ hn => hS n hn⟩
  · rcases hI n o' ho with ⟨rfl, rfl⟩ | ⟨rfl, rfl⟩ | ⟨n0, n1, h1⟩
    · exact ⟨b1, z1, p1, b0, z0, b1, z1, p0, p1, ht.at1⟩
    · exact ⟨b0, z0, p0, b0, z0, b1, z1, p0, p1, ht.at0⟩
    · obtain ⟨b, z, hp, hr⟩ := hH.obj n o' h1
      refine ⟨b, z, hp, ?_⟩
      rw [hblk n o' b z n0 n1 h1 hp]
      exact hr
  · exact ht.block b hb (fun he => hl 0 z0 (by rw [hq0]; rfl) (by rw [he]; exact p0)) (fun he => hl 1 z1 (by rw [hq1]; rfl) (by rw [he]; exact p1))
end
end Go.Proofs.Ytigakendeghoaaa.Ex
