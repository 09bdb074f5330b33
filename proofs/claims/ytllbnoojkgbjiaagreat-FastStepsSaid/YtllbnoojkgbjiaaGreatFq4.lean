/-
  Texts of this claim, joined. No condition.
-/
import Derived.Test.YtllbnoojkgbjiaaGreatFq3
import Derived.Orders
/-
  The runner: one operation, of whatever kind. No condition.
-/
namespace Go.Proofs.YtllbnoojkgbjiaaGreat.Ex
open Go
variable [Nums]
section
variable {P : Program} {ρ ρ' : Ren}
theorem mapSet_sound {d : IntKind} : ∀ {es : List (AV × AV)} {xs : List MapEntry} {k : IntKind} {i : Int} {v nv : AV} {y : Value} (idx : Nat), lookAt es k i = some (some v) → MR ρ es xs → VR ρ nv y →
    ∃ (j : Nat) (e : MapEntry), Instr.findNow (.int d) (.int k i) xs idx = some (some (idx + j, e.val)) ∧ xs[j]? = some e ∧ e.key = .int k i ∧ MR ρ (mapSet es i nv) (xs.modify j fun e => { e with key := .int k i, val := y })
  | [], xs, k, i, v, nv, y, idx, h, hm, hv => by simp [lookAt] at h
  | (.int k' j, u) :: es, xs, k, i, v, nv, y, idx, h, hm, hv => by
    obtain ⟨e, xs', rfl, h1, h2, h3⟩ := hm
    have hk := h1.int_inv
    simp only [lookAt] at h
    split at h <;> first | (cases h; done) | skip
    rename_i hkk
    have hkk := of_decide_eq_true hkk
    subst hkk
    split at h
    · rename_i hij
      have hij' : i = j := by simpa using hij
      subst hij'
      refine ⟨0, e, ?_, rfl, hk, ?_⟩
      · simp [Instr.findNow, Instr.sameNow, hk]
      · simp only [mapSet, hij, List.modify_zero_cons]
        exact ⟨_, xs', rfl, by unfold VR; rfl, hv, h3⟩
    · rename_i hij
      obtain ⟨q, e', g1, g2, g3, g4⟩ := mapSet_sound (d := d) (idx + 1) h h3 hv
      refine ⟨q + 1, e', ?_, by simpa using g2, g3, ?_⟩
      · simp [Instr.findNow, Instr.sameNow, hk, hij, g1]
        omega
      · simp only [mapSet, hij, List.modify_succ_cons]
        exact ⟨e, _, rfl, h1, h2, g4⟩
  | (.bool _, _) :: _, _, _, _, _, _, _, _, h, _, _ => by simp [lookAt] at h
  | (.sym _ _, _) :: _, _, _, _, _, _, _, _, h, _, _ => by simp [lookAt] at h
  | (.bsym _ _, _) :: _, _, _, _, _, _, _, _, h, _, _ => by simp [lookAt] at h
  | (.eptr .., _) :: _, _, _, _, _, _, _, _, h, _, _ => by simp [lookAt] at h
  | (.dsl .., _) :: _, _, _, _, _, _, _, _, h, _, _ => by simp [lookAt] at h
  | (.rsl _, _) :: _, _, _, _, _, _, _, _, h, _, _ => by simp [lookAt] at h
  | (.ssl .., _) :: _, _, _, _, _, _, _, _, h, _, _ => by simp [lookAt] at h
  | (.rptr _ _, _) :: _, _, _, _, _, _, _, _, h, _, _ => by simp [lookAt] at h
  | (.gptr _ _, _) :: _, _, _, _, _, _, _, _, h, _, _ => by simp [lookAt] at h
  | (.str _, _) :: _, _, _, _, _, _, _, _, h, _, _ => by simp [lookAt] at h
  | (.nilp, _) :: _, _, _, _, _, _, _, _, h, _, _ => by simp [lookAt] at h
  | (.ptr _ _, _) :: _, _, _, _, _, _, _, _, h, _, _ => by simp [lookAt] at h
  | (.nilsl, _) :: _, _, _, _, _, _, _, _, h, _, _ => by simp [lookAt] at h
  | (.sl .., _) :: _, _, _, _, _, _, _, _, h, _, _ => by simp [lookAt] at h
  | (.esl _, _) :: _, _, _, _, _, _, _, _, h, _, _ => by simp [lookAt] at h
  | (.zsl, _) :: _, _, _, _, _, _, _, _, h, _, _ => by simp [lookAt] at h
  | (.osl _, _) :: _, _, _, _, _, _, _, _, h, _, _ => by simp [lookAt] at h
  | (.nilmap, _) :: _, _, _, _, _, _, _, _, h, _, _ => by simp [lookAt] at h
  | (.map _, _) :: _, _, _, _, _, _, _, _, h, _, _ => by simp [lookAt] at h
  | (.fn .., _) :: _, _, _, _, _, _, _, _, h, _, _ => by simp [lookAt] at h
  | (.nilfn, _) :: _, _, _, _, _, _, _, _, h, _, _ => by simp [lookAt] at h
  | (.nilif, _) :: _, _, _, _, _, _, _, _, h, _, _ => by simp [lookAt] at h
  | (.ifc .., _) :: _, _, _, _, _, _, _, _, h, _, _ => by simp [lookAt] at h
  | (.agg _, _) :: _, _, _, _, _, _, _, _, h, _, _ => by simp [lookAt] at h
  | (.tup _, _) :: _, _, _, _, _, _, _, _, h, _, _ => by simp [lookAt] at h
theorem MR.push : ∀ {es : List (AV × AV)} {xs : List MapEntry} {p : AV × AV} {e : MapEntry}, MR ρ es xs → VR ρ p.1 e.key → VR ρ p.2 e.val → MR ρ (es ++ [p]) (xs ++ [e])
  | [], xs, p, e, h, h1, h2 => by
    have : xs = [] := h
    subst this
    exact ⟨e, [], rfl, h1, h2, rfl⟩
  | q :: es, xs, p, e, h, h1, h2 => by
    obtain ⟨e', xs', rfl, k1, k2, k3⟩ := h
    exact ⟨e', _, rfl, k1, k2, MR.push k3 h1 h2⟩
omit [Nums] in
theorem setObj_map {r : Nat} {w : World} {xs : Array MapEntry} {c : Nat} (h : w.heap[r]? = some (.map xs c)) (o : Obj) : (setObj r o).run P w = .ok () { w with heap := w.heap.setIfInBounds r o } := by
  simp only [setObj, Sem.run, h]
omit [Nums] in
theorem sameBits_int (n : Nat) (k : IntKind) (i : Int) : Instr.sameBits n (.int k i) (.int k i) = true := by
  unfold Instr.sameBits
  simp
theorem mapPut_sound {t : TypeId} {vs : List AV} {h h' : AH} {v : AV} {w : World} {u1 u2 u3 : Value} (ha : aloud.mapPut P t vs h = some (.val v h')) (hr : HR ρ h.get h.next w) (hv : VRs ρ vs [u1, u2, u3]) :
    ∃ w', (Instr.mapUpdate t u1 u2 u3).run P w = .ok () w' ∧ Stp ρ h.get h.next w ρ h'.get h'.next w' ∧ v = und := by
  unfold aloud.mapPut at ha
  split at ha <;> first | (cases ha; done) | skip
  rename_i kt et hu
  split at ha <;> first | (cases ha; done) | skip
  rename_i d hku
  split at ha <;> first | (cases ha; done) | skip
  rename_i n k i nv
  obtain ⟨y1, y2, y3, hy, h1, h2, h3⟩ := hv.three
  simp only [List.cons.injEq, and_true] at hy
  obtain ⟨rfl, rfl, rfl⟩ := hy
  have h2 := h2.int_inv
  subst h2
  unfold VR at h1
  obtain ⟨b, s, hb, rfl⟩ := h1
  split at ha <;> first | (cases ha; done) | skip
  rename_i es hg
  obtain ⟨b', s', hb', hO⟩ := hr.obj _ _ hg
  rw [hb] at hb'
  cases hb'
  obtain ⟨xs, c, hx, hm⟩ := hO
  have hlt : b < w.heap.size := (Array.getElem?_eq_some_iff.1 hx).1
  have hck := checkKey_int (P := P) false 9999 (d := d) (k := k) (i := i) hku w
  split at ha <;> first | (cases ha; done) | skip
  · rename_i hhas
    simp only [Option.some.injEq, AN.val.injEq] at ha
    obtain ⟨rfl, rfl⟩ := ha
    unfold mapHas at hhas
    split at hhas <;> first | (cases hhas; done) | skip
    rename_i u hl
    obtain ⟨j, e, g1, g2, g3, g4⟩ := mapSet_sound (d := d) 0 hl hm h3
    rw [Nat.zero_add] at g1
    have hfk := findKey_run hku g1 w
    have hej : xs[j]? = some e := by simpa using g2
    refine ⟨{ w with heap := w.heap.setIfInBounds b (.map (xs.modify j fun e => { e with key := .int k i, val := u3 }) c) }, ?_, ?_, rfl⟩
    · unfold Instr.mapUpdate
      have hks : (Instr.keyThatStays (.int k i) (.int k i)).run P w = .ok (.int k i) w := by
        unfold Instr.keyThatStays
        rw [sameBits_int, if_pos rfl]
        rfl
      simp only [Sem.run_bind, run_underlying hu w, Result.andThen_ok, getObj_map hx, hck, hfk, hej, Option.map_some, Option.getD_some, g3, hks, setObj_map hx]
    · rw [put_next]
      refine Stp.change hr (n := n) (b := b) (s := s) (by rw [hg]; rfl) hb (o := .map (mapSet es i nv)) ?_ rfl rfl rfl (by simp) (fun q _ hq => by simp [Array.getElem?_setIfInBounds, Ne.symm hq]) ?_
      · refine ⟨xs.modify j fun e => { e with key := .int k i, val := u3 }, c, by simp [hlt], ?_⟩
        simpa using g4
      · intro q o' ho'
        rcases put_spec ho' with ⟨q1, q2⟩ | q1
        · exact .inl ⟨q1, by cases q2; rfl⟩
        · exact .inr q1
  · rename_i hhas
    simp only [Option.some.injEq, AN.val.injEq] at ha
    obtain ⟨rfl, rfl⟩ := ha
    unfold mapHas at hhas
    split at hhas <;> first | (cases hhas; done) | skip
    rename_i hl
    have g1 : Instr.findNow (.int d) (.int k i) xs.toList 0 = some none := by
      rcases lookAt_sound (d := d) 0 hl hm with ⟨_, g⟩ | ⟨_, _, _, g, _⟩
      · exact g
      · cases g
    have hfk := findKey_run hku g1 w
    refine ⟨{ w with heap := w.heap.setIfInBounds b (.map (xs.push { key := .int k i, val := u3, born := c }) (c + 1)) }, ?_, ?_, rfl⟩
    · unfold Instr.mapUpdate
      simp only [Sem.run_bind, run_underlying hu w, Result.andThen_ok, getObj_map hx, hck, hfk, setObj_map hx]
    · rw [put_next]
      refine Stp.change hr (n := n) (b := b) (s := s) (by rw [hg]; rfl) hb (o := .map (es ++ [(.int k i, nv)])) ?_ rfl rfl rfl (by simp) (fun q _ hq => by simp [Array.getElem?_setIfInBounds, Ne.symm hq]) ?_
      · refine ⟨xs.push { key := .int k i, val := u3, born := c }, c + 1, by simp [hlt], ?_⟩
        simp only [Array.toList_push]
        exact hm.push (by unfold VR; rfl) h3
      · intro q o' ho'
        rcases put_spec ho' with ⟨q1, q2⟩ | q1
        · exact .inl ⟨q1, by cases q2; rfl⟩
        · exact .inr q1
/-- what an operation that changes memory comes to -/
def LoudVal (P : Program) (ρ : Ren) (a : Act) (o : Oper) (h : AH) (w : World) (v : AV) (h' : AH) : Prop :=
  ∃ ρ' x w' nx, (execOp a.eval o).run P w = .ok nx w' ∧ (nx = .value x ∨ (nx = .skip ∧ x = undef)) ∧ Stp ρ h.get h.next w ρ' h'.get h'.next w' ∧ VR ρ' v x
def FnOk (P : Program) (f : FuncId) : Prop := ∃ fn c, P.funcs[f]? = some fn ∧ (fn.name == "runtime.NumGoroutine") = false ∧ fn.body = some c
theorem recSet_sound {e : SE} {ks : List CK} : ∀ {vs : List AV} {ys : List Value} {l l' : SE} {j : Nat}, recSet l e ks j vs = some l' → VRs ρ vs ys →
    l'.evN Nums.σ = l.evN Nums.σ ∧ j + ys.length ≤ ks.length ∨ vs = [] ∧ l' = l
  | [], ys, l, l', j, h, hv => by
    simp only [recSet, Option.some.injEq] at h
    exact .inr ⟨rfl, h.symm⟩
  | v :: vs, ys, l, l', j, h, hv => by
    unfold recSet at h
    split at h <;> first | (cases h; done) | skip
    rename_i k hk
    split at h <;> first | (cases h; done) | skip
    rename_i x hx
    obtain ⟨y, ys', rfl, h1, h2⟩ := hv.uncons
    have hj := (List.getElem?_eq_some_iff.1 hk).1
    rcases recSet_sound h h2 with ⟨h3, h4⟩ | ⟨h3, h4⟩
    · refine .inl ⟨by rw [h3]; simp only [SE.evN], ?_⟩
      have : Nat.add j 1 = j + 1 := rfl
      rw [this] at h4
      simp only [List.length_cons]
      omega
    · subst h3; subst h4
      unfold VRs at h2
      subst h2
      refine .inl ⟨by simp only [SE.evN], ?_⟩
      simp only [List.length_cons, List.length_nil]
      omega
theorem recSet_at {e : SE} {ks : List CK} : ∀ {vs : List AV} {ys : List Value} {l l' : SE} {j : Nat}, recSet l e ks j vs = some l' → VRs ρ vs ys → ∀ (q i : Nat) (k : CK), ks[i]? = some k →
    (q = (e.ev Nums.σ).toNat ∧ j ≤ i ∧ i < j + ys.length ∧ ys[i - j]? = some (k.val (l'.evA Nums.σ q i))) ∨ (¬ (q = (e.ev Nums.σ).toNat ∧ j ≤ i ∧ i < j + ys.length) ∧ l'.evA Nums.σ q i = l.evA Nums.σ q i)
  | [], ys, l, l', j, h, hv, q, i, k, hk => by
    simp only [recSet, Option.some.injEq] at h
    subst h
    unfold VRs at hv
    subst hv
    exact .inr ⟨by simp only [List.length_nil]; omega, rfl⟩
  | v :: vs, ys, l, l', j, h, hv, q, i, k, hk => by
    unfold recSet at h
    split at h <;> first | (cases h; done) | skip
    rename_i k0 hk0
    split at h <;> first | (cases h; done) | skip
    rename_i x hx
    obtain ⟨y, ys', rfl, h1, h2⟩ := hv.uncons
    have hj1 : Nat.add j 1 = j + 1 := rfl
    rcases recSet_at h h2 q i k hk with ⟨h3, h4, h5, h6⟩ | ⟨h3, h4⟩
    · rw [hj1] at h4 h5 h6
      refine .inl ⟨h3, by omega, by simp only [List.length_cons]; omega, ?_⟩
      rw [show i - j = (i - (j + 1)) + 1 from by omega, List.getElem?_cons_succ]
      exact h6
    · rw [hj1] at h3
      simp only [SE.evA] at h4
      by_cases hqi : q = (e.ev Nums.σ).toNat ∧ i = j
      · obtain ⟨hq, rfl⟩ := hqi
        rw [if_pos ⟨hq, rfl⟩] at h4
        rw [hk] at hk0
        cases hk0
        refine .inl ⟨hq, Nat.le_refl _, by simp only [List.length_cons]; omega, ?_⟩
        rw [Nat.sub_self, List.getElem?_cons_zero, h4, toCK_rel hx h1]
      · rw [if_neg hqi] at h4
        refine .inr ⟨?_, h4⟩
        simp only [List.length_cons]
        rintro ⟨a, b, c⟩
        apply hqi
        refine ⟨a, ?_⟩
        rcases Nat.lt_or_ge j i with hlt | hge
        · exact absurd ⟨a, by omega, by omega⟩ h3
        · omega
theorem recStore_sound {t : TypeId} {n s : Nat} {l x : SE} {ks : List CK} {e : TypeId} {j off : Nat} {v y : AV} {h h' : AH} {w : World} {b : Nat} {s0 : Nat} {u : Value} (hl : aloud.recStore n l x ks e j y h = some (.val v h')) (hr : HR ρ h.get h.next w)
    (hs : sizeT P t = some s) (hlen : y.cells.length = s) (h1 : allOne y.cells = true) (hg : h.get n = some (.recs l ks e)) (hb : ρ n = some (b, s0)) (hu : VR ρ y u) (hoff : off = (x.ev Nums.σ).toNat * ks.length + j) :
    ∃ w', (storeVar t ⟨b, off, none⟩ u).run P w = .ok () w' ∧ Stp ρ h.get h.next w ρ h'.get h'.next w' ∧ v = und := by
  subst hoff
  unfold aloud.recStore at hl
  split at hl <;> first | (cases hl; done) | skip
  rename_i hw
  obtain ⟨w1, w2⟩ := within_ok hw
  rw [lenE_ev] at w2
  have hrow : (x.ev Nums.σ).toNat < l.evN Nums.σ := by omega
  split at hl <;> first | (cases hl; done) | skip
  rename_i l' hset
  simp only [Option.some.injEq, AN.val.injEq] at hl
  obtain ⟨rfl, rfl⟩ := hl
  obtain ⟨b', s', hb', hO⟩ := hr.obj _ _ hg
  rw [hb] at hb'
  cases hb'
  obtain ⟨cur, hcur, hcs, hk, hat⟩ := hO
  have hc := hu.cells
  have hcl : u.cells.toList.length = s := by rw [← hc.len, hlen]
  have hsz : u.cells.size = s := by simpa using hcl
  have hrows : (x.ev Nums.σ).toNat * ks.length + ks.length ≤ l.evN Nums.σ * ks.length := by
    have := Nat.mul_le_mul_right ks.length (show (x.ev Nums.σ).toNat + 1 ≤ l.evN Nums.σ from hrow)
    rwa [Nat.add_mul, Nat.one_mul] at this
  rcases recSet_sound hset hc with ⟨hN, hfit0⟩ | ⟨he, hll⟩
  · have hfit : (x.ev Nums.σ).toNat * ks.length + j + u.cells.toList.length ≤ cur.size := by omega
    have hst := run_storeCells_at P b ((x.ev Nums.σ).toNat * ks.length + j) e u.cells.toList 0 cur w hcur (by simpa using hfit) (hc.ones h1)
    simp only [Nat.add_zero] at hst
    refine ⟨w.setRow b (cur.toList.take ((x.ev Nums.σ).toNat * ks.length + j) ++ u.cells.toList ++ cur.toList.drop ((x.ev Nums.σ).toNat * ks.length + j + u.cells.toList.length)).toArray, ?_, ?_, rfl⟩
    · simp only [storeVar, Sem.run_bind, Sem.run_pure, Result.andThen_ok, sizeT_run hs w, hsz, ne_eq, not_true_eq_false, if_false, hst]
    · rw [put_next]
      refine Stp.change hr (n := n) (b := b) (s := s0) (by rw [hg]; rfl) hb (o := .recs l' ks e) ?_ rfl rfl rfl (by simp) (fun q _ hq => setRow_other w b q _ hq) ?_
      · rw [setRow_heap w b cur _ e (0, 0) hcur]
        refine ⟨_, rfl, by rw [splice_size hfit]; exact hcs, by rw [hN]; exact hk, fun q i k hq hki => ?_⟩
        rw [hN] at hq
        have hi : i < ks.length := (List.getElem?_eq_some_iff.1 hki).1
        rw [List.getElem?_toArray, splice_get (by simpa using hfit)]
        rcases recSet_at hset hc q i k hki with ⟨h3, h4, h5, h6⟩ | ⟨h3, h4⟩
        · subst h3
          rw [if_pos ⟨by omega, by omega⟩, ← h6]
          congr 1
          omega
        · have hne : ¬ ((x.ev Nums.σ).toNat * ks.length + j ≤ q * ks.length + i ∧ q * ks.length + i < (x.ev Nums.σ).toNat * ks.length + j + u.cells.toList.length) := by
            rintro ⟨a1, a2⟩
            apply h3
            have hq2 : q = (x.ev Nums.σ).toNat := by
              rcases Nat.lt_trichotomy q (x.ev Nums.σ).toNat with c | c | c
              · exfalso
                have := Nat.mul_le_mul_right ks.length (show q + 1 ≤ (x.ev Nums.σ).toNat from c)
                rw [Nat.add_mul, Nat.one_mul] at this
                omega
              · exact c
              · exfalso
                have := Nat.mul_le_mul_right ks.length (show (x.ev Nums.σ).toNat + 1 ≤ q from c)
                rw [Nat.add_mul, Nat.one_mul] at this
                omega
            subst hq2
            exact ⟨rfl, by omega, by omega⟩
          rw [if_neg hne, h4, Array.getElem?_toList]
          exact hat q i k hq hki
      · intro q o' ho'
        rcases put_spec ho' with ⟨q1, q2⟩ | q1
        · exact .inl ⟨q1, by cases q2; rfl⟩
        · exact .inr q1
  · subst hll
    have hs0 : s = 0 := by rw [← hlen, he]; rfl
    have hnil : u.cells.toList = [] := List.eq_nil_of_length_eq_zero (by rw [hcl, hs0])
    have hfit : (0 : Nat) + u.cells.toList.length ≤ cur.size := by rw [hnil]; simp
    refine ⟨w, ?_, ?_, rfl⟩
    · simp only [storeVar, Sem.run_bind, Sem.run_pure, Result.andThen_ok, sizeT_run hs w, hsz, ne_eq, not_true_eq_false, if_false]
      have : u.cells = #[] := by apply Array.ext'; simpa using hnil
      rw [this]
      rfl
    · rw [put_next]
      refine Stp.change hr (n := n) (b := b) (s := s0) (by rw [hg]; rfl) hb (o := .recs l' ks e) ⟨cur, hcur, hcs, hk, hat⟩ rfl rfl rfl (Nat.le_refl _) (fun q _ hq => rfl) ?_
      intro q o' ho'
      rcases put_spec ho' with ⟨q1, q2⟩ | q1
      · exact .inl ⟨q1, by cases q2; rfl⟩
      · exact .inr q1
theorem loud_val {o : Oper} {a : Act} {vs : List AV} {v : AV} {h h' : AH} {w : World} (hl : aloud P o.op vs h = some (.val v h')) (hr : HR ρ h.get h.next w) (hv : VRs ρ vs (o.op.operands.toList.map a.eval)) : LoudVal P ρ a o h w v h' := by
  unfold LoudVal execOp
  generalize o.op = op at hl hv
  have undR : ∀ ρ : Ren, VR ρ und undef := fun ρ => by unfold und VR; exact ⟨#[], rfl, VRs.nil⟩
  cases op with
  | store t p x =>
    simp only [aloud] at hl
    split at hl <;> first | (cases hl; done) | skip
    case h_2 =>
      rename_i n q z j y
      split at hl <;> first | (cases hl; done) | skip
      rename_i s hs
      split at hl <;> first | (cases hl; done) | skip
      rename_i hlen
      have hlen := Nat.eq_of_beq_eq_true hlen
      split at hl <;> first | (cases hl; done) | skip
      rename_i h1
      split at hl <;> first | (cases hl; done) | skip
      rename_i l ks e hg
      split at hl <;> first | (cases hl; done) | skip
      rename_i hz
      have hz := Nat.eq_of_beq_eq_true hz
      subst hz
      obtain ⟨y1, y2, hy, hr1, hr2⟩ := hv.two
      simp [Op.operands] at hy
      obtain ⟨e1, e2⟩ := hy
      unfold VR at hr1
      obtain ⟨b, s0, hb, rfl⟩ := hr1
      obtain ⟨w', hrun, hst, rfl⟩ := recStore_sound hl hr hs hlen h1 hg hb hr2 rfl
      refine ⟨ρ, undef, w', .skip, ?_, .inr ⟨rfl, rfl⟩, hst, undR ρ⟩
      simp only [e1, e2, Instr.storeAt, Instr.sureAddr, Sem.run_bind, Sem.run_pure, Result.andThen_ok, hrun]
    rename_i n off y
    split at hl <;> first | (cases hl; done) | skip
    rename_i s hs
    split at hl <;> first | (cases hl; done) | skip
    rename_i hlen
    have hlen := Nat.eq_of_beq_eq_true hlen
    split at hl <;> first | (cases hl; done) | skip
    rename_i h1
    split at hl <;> first | (cases hl; done) | skip
    rotate_left
    · rename_i l ks e hg
      split at hl <;> first | (cases hl; done) | skip
      obtain ⟨y1, y2, hy, hr1, hr2⟩ := hv.two
      simp [Op.operands] at hy
      obtain ⟨e1, e2⟩ := hy
      obtain ⟨b, s0, hb, rfl⟩ := hr1.ptr_inv
      obtain ⟨w', hrun, hst, rfl⟩ := recStore_sound (off := off) hl hr hs hlen h1 hg hb hr2 (by simp only [SE.ev]; exact recAt_eq off)
      refine ⟨ρ, undef, w', .skip, ?_, .inr ⟨rfl, rfl⟩, hst, undR ρ⟩
      simp only [e1, e2, Instr.storeAt, Instr.sureAddr, Sem.run_bind, Sem.run_pure, Result.andThen_ok, hrun]
    rename_i cs k e hg
    split at hl <;> first | (cases hl; done) | skip
    rename_i hk
    have hk : off + s ≤ k := Nat.le_of_ble_eq_true hk
    simp only [Option.some.injEq, AN.val.injEq] at hl
    obtain ⟨rfl, rfl⟩ := hl
    obtain ⟨y1, y2, hy, hr1, hr2⟩ := hv.two
    simp [Op.operands] at hy
    obtain ⟨e1, e2⟩ := hy
    obtain ⟨b, s0, hb, rfl⟩ := hr1.ptr_inv
    obtain ⟨b', s', hb', hO⟩ := hr.obj _ _ hg
    rw [hb] at hb'
    cases hb'
    obtain ⟨cur, hcur, hcs, hks, hcells⟩ := hO
    have hc := hr2.cells
    have hcl : y2.cells.toList.length = s := by rw [← hc.len, hlen]
    have hfit : off + y2.cells.toList.length ≤ cur.size := by rw [hcl]; omega
    have hst := run_storeCells_at P b off e y2.cells.toList 0 cur w hcur (by simpa using hfit) (hc.ones h1)
    simp only [Nat.add_zero] at hst
    refine ⟨ρ, undef, w.setRow b (cur.toList.take off ++ y2.cells.toList ++ cur.toList.drop (off + y2.cells.toList.length)).toArray, .skip, ?_, .inr ⟨rfl, rfl⟩, ?_, undR ρ⟩
    · have hsz : y2.cells.size = s := by simpa using hcl
      simp only [e1, e2, Instr.storeAt, Instr.sureAddr, storeVar, Sem.run_bind, Sem.run_pure, Result.andThen_ok, sizeT_run hs w, hsz, ne_eq, not_true_eq_false, if_false, hst]
    · rw [put_next]
      refine Stp.change hr (n := n) (b := b) (s := s0) (by rw [hg]; rfl) hb (o := .cells (setN cs off y.cells) k e) ?_ rfl rfl rfl (by simp) (fun q _ hq => setRow_other w b q _ hq) ?_
      · rw [setRow_heap w b cur _ e (0, 0) hcur]
        exact ⟨_, rfl, by rw [splice_size hfit]; exact hcs, hks, splice_ok hcells hc h1 hfit⟩
      · intro q o' ho'
        rcases put_spec ho' with ⟨q1, q2⟩ | q1
        · exact .inl ⟨q1, by cases q2; rfl⟩
        · exact .inr q1
  | mapUpdate t m k x =>
    simp only [aloud] at hl
    obtain ⟨w', hrun, hst, rfl⟩ := mapPut_sound hl hr (u1 := a.eval m) (u2 := a.eval k) (u3 := a.eval x) (by simpa [Op.operands] using hv)
    exact ⟨ρ, undef, w', .skip, by simp [hrun], .inr ⟨rfl, rfl⟩, hst, undR ρ⟩
  | insert t m k x =>
    simp only [aloud] at hl
    obtain ⟨w', hrun, hst, rfl⟩ := mapPut_sound hl hr (u1 := a.eval m) (u2 := a.eval k) (u3 := a.eval x) (by simpa [Op.operands] using hv)
    exact ⟨ρ, undef, w', .skip, by simp [hrun], .inr ⟨rfl, rfl⟩, hst, undR ρ⟩
  | call c =>
    simp only [aloud] at hl
    obtain ⟨callee, args, argTypes⟩ := c
    cases callee with
    | builtin b =>
      have hop : (Op.call ⟨.builtin b, args, argTypes⟩).operands = args := by simp [Op.operands, Call.operands]
      rw [hop] at hv
      cases b <;> first
        | (cases hl; done)
        | skip
      dsimp only at hl
      split at hl <;> first | (cases hl; done) | skip
      rename_i s x t t'
      split at hl <;> first | (cases hl; done) | skip
      rename_i htt
      have htt := Nat.eq_of_beq_eq_true htt
      subst htt
      split at hl <;> first | (cases hl; done) | skip
      rename_i v' h1 ha
      simp only [Option.some.injEq, AN.val.injEq] at hl
      obtain ⟨rfl, rfl⟩ := hl
      obtain ⟨y1, y2, hy, hr1, hr2⟩ := hv.two
      obtain ⟨ρ', y, w', hrun, hst, hvr⟩ := append_sound (ty := o.type) ha hr hr1 hr2
      refine ⟨ρ', y, w', .value y, ?_, .inl rfl, hst, hvr⟩
      have harg : args.map a.eval = #[y1, y2] := by
        apply Array.ext'
        rw [Array.toList_map, hy]
      simp only [resolve, invoke, builtin, Sem.run_bind, Sem.run_pure, Result.andThen_ok, harg]
      rw [show (Builtin.append_ { toList := [t, t] } o.type #[y1, y2]).run P w = .ok y w' from hrun]
      rfl
    | value f =>
      dsimp only at hl
      split at hl <;> cases hl
    | invoke r m => cases hl
  | _ => simp [aloud] at hl
theorem loud_call {o : Oper} {a : Act} {vs : List AV} {f : FuncId} {args : List AV} {h : AH} (hl : aloud P o.op vs h = some (.call f args)) (hv : VRs ρ vs (o.op.operands.toList.map a.eval)) (hf : FnOk P f) :
    ∃ args' : Array Value, VRs ρ args args'.toList ∧ ∀ w, (execOp a.eval o).run P w = .ok (.enter f args') w := by
  unfold execOp
  generalize o.op = op at hl hv
  cases op with
  | store t p x =>
    simp only [aloud] at hl
    have hno : ∀ {n : Nat} {l x : SE} {ks : List CK} {e : TypeId} {j : Nat} {v : AV}, aloud.recStore n l x ks e j v h ≠ some (.call f args) := by
      intro n l x ks e j v hc
      unfold aloud.recStore at hc
      split at hc <;> first | (cases hc; done) | skip
      split at hc <;> cases hc
    split at hl <;> first | (cases hl; done) | skip
    · split at hl <;> first | (cases hl; done) | skip
      split at hl <;> first | (cases hl; done) | skip
      split at hl <;> first | (cases hl; done) | skip
      split at hl <;> first | (cases hl; done) | skip
      · split at hl <;> cases hl
      · split at hl <;> first | (cases hl; done) | skip
        exact absurd hl hno
    · split at hl <;> first | (cases hl; done) | skip
      split at hl <;> first | (cases hl; done) | skip
      split at hl <;> first | (cases hl; done) | skip
      split at hl <;> first | (cases hl; done) | skip
      split at hl <;> first | (cases hl; done) | skip
      exact absurd hl hno
  | mapUpdate t m k x =>
    simp only [aloud, aloud.mapPut] at hl
    split at hl <;> first | (cases hl; done) | skip
    split at hl <;> first | (cases hl; done) | skip
    split at hl <;> first | (cases hl; done) | skip
    split at hl <;> first | (cases hl; done) | skip
    split at hl <;> cases hl
  | insert t m k x =>
    simp only [aloud, aloud.mapPut] at hl
    split at hl <;> first | (cases hl; done) | skip
    split at hl <;> first | (cases hl; done) | skip
    split at hl <;> first | (cases hl; done) | skip
    split at hl <;> first | (cases hl; done) | skip
    split at hl <;> cases hl
  | call c =>
    simp only [aloud] at hl
    obtain ⟨callee, cargs, argTypes⟩ := c
    cases callee with
    | builtin b =>
      cases b <;> first
        | (cases hl; done)
        | skip
      dsimp only at hl
      split at hl <;> first | (cases hl; done) | skip
      split at hl <;> first | (cases hl; done) | skip
      split at hl <;> cases hl
    | value fv =>
      dsimp only at hl
      split at hl <;> first | (cases hl; done) | skip
      rename_i g x y l
      simp only [Option.some.injEq, AN.call.injEq] at hl
      obtain ⟨rfl, rfl⟩ := hl
      have hop : (Op.call ⟨.value fv, cargs, argTypes⟩).operands.toList.map a.eval = a.eval fv :: (cargs.map a.eval).toList := by simp [Op.operands, Call.operands]
      rw [hop] at hv
      obtain ⟨u, us, hy, h1, h2⟩ := hv.uncons
      simp only [List.cons.injEq] at hy
      obtain ⟨rfl, rfl⟩ := hy
      unfold VR at h1
      obtain ⟨fa, ca, hfv, hfa, hca⟩ := h1
      obtain ⟨fn, c, q1, q2, q3⟩ := hf
      refine ⟨fa ++ cargs.map a.eval ++ ca, ?_, fun w => ?_⟩
      · simp only [Array.toList_append, List.append_assoc]
        exact hfa.append (h2.append hca)
      · have q2' : ¬ fn.name = "runtime.NumGoroutine" := by simpa using q2
        simp [resolve, hfv, Deferred.ofValue, invoke, callFunc, q1, q2', q3]
    | invoke r m => cases hl
  | _ => simp [aloud] at hl
/-- what a call gives -/
def CallS (P : Program) (call : FuncId → List AV → AH → Option (AV × AH)) : Prop :=
  ∀ f args h v h', call f args h = some (v, h') → FnOk P f ∧ ∀ (ρ : Ren) (w : World) (args' : Array Value), HR ρ h.get h.next w → VRs ρ args args'.toList →
    Calls P f args' w fun e w' => ∃ ρ' x, e = .returned x ∧ VR ρ' v x ∧ Stp ρ h.get h.next w ρ' h'.get h'.next w'
theorem loudOp_wp {call : FuncId → List AV → AH → Option (AV × AH)} (hc : CallS P call) {o : Oper} {a : Act} {vs : List AV} {v : AV} {h h' : AH} {w : World} {K : Act → World → Prop} {Q : Exit → Act → World → Prop}
    (hk : kd o.op = .loud) (hop : opA P call o.op vs h = some (v, h')) (hr : HR ρ h.get h.next w) (hv : VRs ρ vs (o.op.operands.toList.map a.eval))
    (hK : ∀ ρ' x w', Stp ρ h.get h.next w ρ' h'.get h'.next w' → VR ρ' v x → K (a.put o.dst x) w') : o.wp P a w K Q := by
  unfold opA at hop
  rw [hk] at hop
  dsimp only at hop
  split at hop <;> first | (cases hop; done) | skip
  · rename_i v1 h1 hl
    simp only [Option.some.injEq, Prod.mk.injEq] at hop
    obtain ⟨rfl, rfl⟩ := hop
    obtain ⟨ρ', x, w', nx, hrun, hnx, hst, hvr⟩ := loud_val hl hr hv
    unfold Oper.wp
    rw [hrun]
    rcases hnx with rfl | ⟨rfl, rfl⟩
    · exact hK ρ' x w' hst hvr
    · exact hK ρ' undef w' hst hvr
  · rename_i f args hl
    obtain ⟨hf, hcall⟩ := hc _ _ _ _ _ hop
    obtain ⟨args', hargs, hrun⟩ := loud_call hl hv hf
    unfold Oper.wp
    rw [hrun w]
    refine (hcall ρ w args' hr hargs).mono ?_
    rintro e w' ⟨ρ', x, rfl, hvr, hst⟩
    exact hK ρ' x w' hst hvr
/-- one operation, where the text puts it -/
theorem op_wp {call : FuncId → List AV → AH → Option (AV × AH)} (hc : CallS P call) {o : Oper} {a : Act} {vs : List AV} {v : AV} {h h' : AH} {w : World} {K : Act → World → Prop} {Q : Exit → Act → World → Prop}
    (hop : opA P call o.op vs h = some (v, h')) (hr : HR ρ h.get h.next w) (hv : VRs ρ vs (o.op.operands.toList.map a.eval))
    (hK : ∀ ρ' x w', Stp ρ h.get h.next w ρ' h'.get h'.next w' → VR ρ' v x → K (a.put o.dst x) w') : o.wp P a w K Q := by
  cases hk : kd o.op with
  | pure =>
    unfold opA at hop
    rw [hk] at hop
    dsimp only at hop
    split at hop <;> first | (cases hop; done) | skip
    rename_i u hu
    simp only [Option.some.injEq, Prod.mk.injEq] at hop
    obtain ⟨rfl, rfl⟩ := hop
    obtain ⟨x, hx, hrun⟩ := pure_sound hu hv
    unfold Oper.wp
    rw [hrun w]
    exact hK ρ x w (Stp.refl hr) hx
  | read =>
    unfold opA at hop
    rw [hk] at hop
    dsimp only at hop
    split at hop <;> first | (cases hop; done) | skip
    rename_i u hu
    simp only [Option.some.injEq, Prod.mk.injEq] at hop
    obtain ⟨rfl, rfl⟩ := hop
    obtain ⟨x, hx, hrun⟩ := read_sound hr hu hv
    unfold Oper.wp
    rw [hrun]
    exact hK ρ x w (Stp.refl hr) hx
  | alloc =>
    unfold opA at hop
    rw [hk] at hop
    dsimp only at hop
    split at hop <;> first | (cases hop; done) | skip
    rename_i ao k ha
    split at hop <;> first | (cases hop; done) | skip
    rename_i h1 hfr
    simp only [Option.some.injEq, Prod.mk.injEq] at hop
    obtain ⟨rfl, rfl⟩ := hop
    obtain ⟨obj, s, hO, hrun⟩ := alloc_sound ha hv
    obtain ⟨x, hrx, hx⟩ := hrun w
    obtain ⟨hn, hg⟩ := fresh_spec hfr
    obtain ⟨hst, hup⟩ := Stp.new (w' := w.alloc obj) hr h.get (fun _ _ h => h) hn hg hO rfl rfl rfl rfl
    unfold Oper.wp
    rw [hrx]
    exact hK _ x _ hst (hx _ _ hup)
  | loud => exact loudOp_wp hc hk hop hr hv hK
end
end Go.Proofs.YtllbnoojkgbjiaaGreat.Ex

/-
  The runner: a region that draws its order: what was found in the order of the text. No condition.
-/
namespace Go.Proofs.YtllbnoojkgbjiaaGreat.Ex
open Go
variable [Nums]
/-- slots against named values -/
structure ER (ρ : Ren) (env : T AV) (nt : Nat) (a : Act) : Prop where
  dz : a.defers = []
  size : a.tmps.size = nt
  val : ∀ t v, env.get t = some v → ∃ x, a.tmps[t]? = some x ∧ VR ρ v x
/-- an operation's place in the table -/
def dstAt (ops : Array Oper) (i : Nat) : Option Tmp := (ops[i]?).bind (·.dst)
/-- what a slot holds when the listed operations are done -/
def Val (ops : Array Oper) (env : T AV) (rs : List Rk) (L : Nat → Bool) (t : Nat) (v : AV) : Prop :=
  (∃ i r, L i = true ∧ dstAt ops i = some t ∧ rs[i]? = some r ∧ v = r.res ∧ ∀ j, L j = true → dstAt ops j = some t → j ≤ i) ∨ ((∀ j, L j = true → dstAt ops j ≠ some t) ∧ env.get t = some v)
def below (n : Nat) : Nat → Bool := fun j => decide (j < n)
def isL : Rk → Bool
  | .loud _ _ => true
  | _ => false
def heapOf (h0 : AH) : List Rk → AH
  | [] => h0
  | .loud _ h :: l => heapOf h l
  | _ :: l => heapOf h0 l
/-- which blocks of the region lie in memory by now -/
def ConsP (b : T Nat) (rs : List Rk) (a : Nat) : Prop := ∃ l v h, rs[l]? = some (.loud v h) ∧ ahead b a l = true
omit [Nums] in
theorem heapOf_append (h0 : AH) : ∀ (p q : List Rk), heapOf h0 (p ++ q) = heapOf (heapOf h0 p) q
  | [], _ => rfl
  | .loud _ h :: p, q => heapOf_append h p q
  | .skip :: p, q => heapOf_append h0 p q
  | .val _ :: p, q => heapOf_append h0 p q
  | .alloc _ _ :: p, q => heapOf_append h0 p q
omit [Nums] in
theorem heapOf_none {h0 : AH} : ∀ {q : List Rk}, (∀ r ∈ q, isL r = false) → heapOf h0 q = h0
  | [], _ => rfl
  | .loud _ _ :: _, h => by have := h _ List.mem_cons_self; cases this
  | .skip :: q, h => by simp only [heapOf]; exact heapOf_none fun r hr => h r (List.mem_cons_of_mem _ hr)
  | .val _ :: q, h => by simp only [heapOf]; exact heapOf_none fun r hr => h r (List.mem_cons_of_mem _ hr)
  | .alloc _ _ :: q, h => by simp only [heapOf]; exact heapOf_none fun r hr => h r (List.mem_cons_of_mem _ hr)
omit [Nums] in
theorem overlay_spec {base : Nat} {see : Nat → Bool} : ∀ {al : List (Nat × AO)} {h : AH} {m : Nat} {o : AO}, (overlay base see al h).get m = some o → (∃ a, see a = true ∧ (a, o) ∈ al ∧ m = base + a) ∨ h.get m = some o
  | [], h, m, o, hg => .inr hg
  | (a, o') :: al, h, m, o, hg => by
    unfold overlay at hg
    split at hg
    · rename_i hs
      rcases put_spec hg with ⟨h1, h2⟩ | ⟨_, h2⟩
      · cases h2
        exact .inl ⟨a, hs, List.mem_cons_self, h1⟩
      · rcases overlay_spec h2 with ⟨a', h3, h4, h5⟩ | h3
        · exact .inl ⟨a', h3, List.mem_cons_of_mem _ h4, h5⟩
        · exact .inr h3
    · rcases overlay_spec hg with ⟨a', h3, h4, h5⟩ | h3
      · exact .inl ⟨a', h3, List.mem_cons_of_mem _ h4, h5⟩
      · exact .inr h3
omit [Nums] in
theorem overlay_next {base : Nat} {see : Nat → Bool} : ∀ {al : List (Nat × AO)} {h : AH}, (overlay base see al h).next = h.next
  | [], _ => rfl
  | (a, o') :: al, h => by
    unfold overlay
    split
    · rw [put_next]; exact overlay_next
    · exact overlay_next
/-- where the runner stands behind some operations -/
structure InvR (ops : Array Oper) (b : T Nat) (env0 : T AV) (h0 : AH) (p : List Rk) (env : T AV) (h : AH) (cons : Nat) (al : List (Nat × AO)) : Prop where
  env : ∀ t v, env.get t = some v → Val ops env0 p (below p.length) t v
  heap : h = heapOf h0 p
  cons : ∀ a, cons.testBit a = true ↔ ConsP b p a
  al : ∀ a ao, (a, ao) ∈ al ↔ ∃ v, p[a]? = some (.alloc ao v)
section
variable (P : Program) (call : FuncId → List AV → AH → Option (AV × AH)) (nt : Nat) (ops : Array Oper) (b : T Nat) (base : Nat) (env0 : T AV) (h0 : AH)
def KF (o : Oper) (i : Nat) (vs : List AV) (h : AH) (cons : Nat) (al : List (Nat × AO)) (r : Rk) : Prop := match kd o.op with
  | .pure => ∃ v, apure P o.op vs = some v ∧ r = .val v
  | .read => ∃ v, r = .val v
  | .alloc => ∃ ao k, aalloc P o.op vs = some (ao, k) ∧ r = .alloc ao (k.at (base + i))
  | .loud => ∃ v h', r = .loud v h' ∧ opA P call o.op vs (overlay base (fun a => ahead b a i && !(cons.testBit a)) al h) = some (v, h')
def FactAt (p : List Rk) (o : Oper) (i : Nat) (r : Rk) : Prop :=
  ∃ env h cons al, InvR ops b env0 h0 p env h cons al ∧ (∀ d, o.dst = some d → d < nt) ∧
    ((guardA ops o env = some false ∧ r = .skip) ∨ (guardA ops o env = some true ∧ ∃ vs, evs env o.op.operands.toList = some vs ∧ KF P call b base o i vs h cons al r))
end
section
variable {P : Program} {call : FuncId → List AV → AH → Option (AV × AH)} {nt : Nat} {ops : Array Oper} {b : T Nat} {base : Nat} {env0 : T AV} {h0 : AH}
omit [Nums] in
theorem putA_spec {nt : Nat} {env env' : T AV} {dst : Option Tmp} {v : AV} (h : putA nt env dst v = some env') : (∀ d, dst = some d → d < nt) ∧ ∀ t u, env'.get t = some u → (dst = some t ∧ u = v) ∨ (dst ≠ some t ∧ env.get t = some u) := by
  unfold putA at h
  split at h
  · simp only [Option.some.injEq] at h
    subst h
    exact ⟨fun d hd => (by cases hd), fun t u hu => .inr ⟨(by intro h; cases h), hu⟩⟩
  · rename_i d
    split at h <;> first | (cases h; done) | skip
    rename_i hlt
    simp only [Option.some.injEq] at h
    subst h
    refine ⟨fun d' hd => by cases hd; simpa using hlt, fun t u hu => ?_⟩
    rcases T.get_put hu with ⟨h1, h2⟩ | ⟨h1, h2⟩
    · subst h1
      cases h2
      exact .inl ⟨rfl, rfl⟩
    · exact .inr ⟨fun he => h1 (by cases he; rfl), h2⟩
omit [Nums] in
/-- one more operation -/
theorem val_snoc {p : List Rk} {r : Rk} {o : Oper} {env env' : T AV} (hi : ops[p.length]? = some o) (he : ∀ t v, env.get t = some v → Val ops env0 p (below p.length) t v)
    (hp : ∀ t u, env'.get t = some u → (o.dst = some t ∧ u = r.res) ∨ (o.dst ≠ some t ∧ env.get t = some u)) : ∀ t v, env'.get t = some v → Val ops env0 (p ++ [r]) (below (p ++ [r]).length) t v := by
  intro t v hv
  have hd : dstAt ops p.length = o.dst := by simp [dstAt, hi]
  have hlen : (p ++ [r]).length = p.length + 1 := by simp
  rcases hp t v hv with ⟨h1, h2⟩ | ⟨h1, h2⟩
  · refine .inl ⟨p.length, r, by simp [below], by rw [hd, h1], by simp, h2, fun j hj _ => ?_⟩
    simp [below] at hj
    omega
  · rcases he t v h2 with ⟨i, r', h3, h4, h5, h6, h7⟩ | ⟨h3, h4⟩
    · have hil : i < p.length := by simpa [below] using h3
      refine .inl ⟨i, r', by simp [below]; omega, h4, by rw [List.getElem?_append_left hil]; exact h5, h6, fun j hj hj' => ?_⟩
      simp [below] at hj
      by_cases hjp : j = p.length
      · subst hjp
        rw [hd] at hj'
        exact absurd hj' h1
      · exact h7 j (by simp [below]; omega) hj'
    · refine .inr ⟨fun j hj hj' => ?_, h4⟩
      simp [below] at hj
      by_cases hjp : j = p.length
      · subst hjp
        rw [hd] at hj'
        exact h1 hj'
      · exact h3 j (by simp [below]; omega) hj'
omit [Nums] in
theorem snoc_get {p : List Rk} {r x : Rk} {i : Nat} : (p ++ [r])[i]? = some x ↔ p[i]? = some x ∨ (i = p.length ∧ r = x) := by
  by_cases h : i < p.length
  · rw [List.getElem?_append_left h]
    exact ⟨.inl, fun h' => h'.elim id fun h' => by omega⟩
  · rw [List.getElem?_append_right (by omega), List.getElem?_eq_none (l := p) (by omega)]
    by_cases h2 : i = p.length
    · subst h2; simp
    · have : i - p.length = (i - p.length - 1) + 1 := by omega
      rw [this]
      simp [h2]
theorem regD_facts {rsF : List Rk} {envF : T AV} {hF : AH} {consF : Nat} {alF : List (Nat × AO)} : ∀ (l : List Oper) (env : T AV) (h : AH) (cons : Nat) (al : List (Nat × AO)) (rs : List Rk),
    regD P call nt ops b base rs.length l env h cons al rs = some (rsF, envF, hF, consF, alF) → (∀ k, l[k]? = ops[rs.length + k]?) → InvR ops b env0 h0 rs.reverse env h cons al →
    ∃ tail, rsF = rs.reverse ++ tail ∧ tail.length = l.length ∧ InvR ops b env0 h0 rsF envF hF consF alF ∧
      ∀ (k : Nat) r o, tail[k]? = some r → l[k]? = some o → FactAt P call nt ops b base env0 h0 (rs.reverse ++ tail.take k) o (rs.length + k) r
  | [], env, h, cons, al, rs, hd, _, hI => by
    simp only [regD, Option.some.injEq, Prod.mk.injEq] at hd
    obtain ⟨rfl, rfl, rfl, rfl, rfl⟩ := hd
    exact ⟨[], by simp, rfl, hI, by simp⟩
  | o :: l, env, h, cons, al, rs, hd, hl, hI => by
    have ho : ops[rs.reverse.length]? = some o := by simpa using (hl 0).symm
    have hl' : ∀ r, ∀ k, l[k]? = ops[(r :: rs : List Rk).length + k]? := fun r k => by
      have := hl (k + 1)
      rw [List.getElem?_cons_succ] at this
      rw [this]
      congr 1
      simp only [List.length_cons]
      omega
    -- what the step gives
    have step : ∀ (r : Rk) (env' : T AV) (h' : AH) (cons' : Nat) (al' : List (Nat × AO)), InvR ops b env0 h0 (rs.reverse ++ [r]) env' h' cons' al' → FactAt P call nt ops b base env0 h0 rs.reverse o rs.length r →
        regD P call nt ops b base (Nat.add rs.length 1) l env' h' cons' al' (r :: rs) = some (rsF, envF, hF, consF, alF) →
        ∃ tail, rsF = rs.reverse ++ tail ∧ tail.length = (o :: l).length ∧ InvR ops b env0 h0 rsF envF hF consF alF ∧
          ∀ (k : Nat) r o', tail[k]? = some r → (o :: l)[k]? = some o' → FactAt P call nt ops b base env0 h0 (rs.reverse ++ tail.take k) o' (rs.length + k) r := by
      intro r env' h' cons' al' hI' hF' hd'
      obtain ⟨tail, h1, h2, h3, h4⟩ := regD_facts l env' h' cons' al' (r :: rs) hd' (hl' r) (by simpa using hI')
      refine ⟨r :: tail, by rw [h1]; simp, by simp [h2], h3, fun k r' o' hk ho' => ?_⟩
      cases k with
      | zero =>
        simp at hk ho'
        subst hk; subst ho'
        simpa using hF'
      | succ k =>
        have := h4 k r' o' (by simpa using hk) (by simpa using ho')
        simp only [List.reverse_cons, List.append_assoc, List.singleton_append, List.length_cons] at this
        rw [show rs.length + (k + 1) = rs.length + 1 + k from by omega]
        simpa using this
    unfold regD at hd
    split at hd <;> first | (cases hd; done) | skip
    · rename_i hgd
      split at hd <;> first | (cases hd; done) | skip
      rename_i env' hput
      obtain ⟨hdb, hpv⟩ := putA_spec hput
      refine step .skip env' h cons al ⟨val_snoc ho hI.env hpv, ?_, ?_, ?_⟩ ⟨env, h, cons, al, hI, hdb, .inl ⟨hgd, rfl⟩⟩ hd
      · rw [heapOf_append, hI.heap]; rfl
      · intro a
        rw [hI.cons]
        constructor
        · rintro ⟨q, v, hh, h1, h2⟩
          exact ⟨q, v, hh, snoc_get.2 (.inl h1), h2⟩
        · rintro ⟨q, v, hh, h1, h2⟩
          rcases snoc_get.1 h1 with h1 | ⟨_, h1⟩
          · exact ⟨q, v, hh, h1, h2⟩
          · cases h1
      · intro a ao
        rw [hI.al]
        constructor
        · rintro ⟨v, h1⟩
          exact ⟨v, snoc_get.2 (.inl h1)⟩
        · rintro ⟨v, h1⟩
          rcases snoc_get.1 h1 with h1 | ⟨_, h1⟩
          · exact ⟨v, h1⟩
          · cases h1
    · rename_i hgd
      split at hd <;> first | (cases hd; done) | skip
      rename_i vs hvs
      split at hd <;> first | (cases hd; done) | skip
      rename_i r h' cons' al' hk
      split at hd <;> first | (cases hd; done) | skip
      rename_i env' hput
      obtain ⟨hdb, hpv⟩ := putA_spec hput
      have inv : ∀ (r' : Rk), (∀ t u, env'.get t = some u → (o.dst = some t ∧ u = r'.res) ∨ (o.dst ≠ some t ∧ env.get t = some u)) → isL r' = false → (∀ ao v, r' ≠ .alloc ao v) → InvR ops b env0 h0 (rs.reverse ++ [r']) env' h cons al := by
        intro r' hpv' hnl hna
        refine ⟨val_snoc ho hI.env hpv', ?_, ?_, ?_⟩
        · rw [heapOf_append, ← hI.heap, heapOf_none (by simpa using hnl)]
        · intro a
          rw [hI.cons]
          constructor
          · rintro ⟨q, v, hh, h1, h2⟩
            exact ⟨q, v, hh, snoc_get.2 (.inl h1), h2⟩
          · rintro ⟨q, v, hh, h1, h2⟩
            rcases snoc_get.1 h1 with h1 | ⟨_, h1⟩
            · exact ⟨q, v, hh, h1, h2⟩
            · subst h1; cases hnl
        · intro a ao
          rw [hI.al]
          constructor
          · rintro ⟨v, h1⟩
            exact ⟨v, snoc_get.2 (.inl h1)⟩
          · rintro ⟨v, h1⟩
            rcases snoc_get.1 h1 with h1 | ⟨_, h1⟩
            · exact ⟨v, h1⟩
            · exact absurd h1 (hna _ _)
      cases hkd : kd o.op with
      | pure =>
        rw [hkd] at hk
        dsimp only at hk
        split at hk <;> first | (cases hk; done) | skip
        rename_i v hv
        simp only [Option.some.injEq, Prod.mk.injEq] at hk
        obtain ⟨rfl, rfl, rfl, rfl⟩ := hk
        exact step _ env' h cons al (inv _ hpv rfl (by intro _ _ h; cases h)) ⟨env, h, cons, al, hI, hdb, .inr ⟨hgd, vs, hvs, by unfold KF; rw [hkd]; exact ⟨v, hv, rfl⟩⟩⟩ hd
      | read =>
        rw [hkd] at hk
        dsimp only at hk
        split at hk <;> first | (cases hk; done) | skip
        rename_i v hv
        simp only [Option.some.injEq, Prod.mk.injEq] at hk
        obtain ⟨rfl, rfl, rfl, rfl⟩ := hk
        exact step _ env' h cons al (inv _ hpv rfl (by intro _ _ h; cases h)) ⟨env, h, cons, al, hI, hdb, .inr ⟨hgd, vs, hvs, by unfold KF; rw [hkd]; exact ⟨v, rfl⟩⟩⟩ hd
      | alloc =>
        rw [hkd] at hk
        dsimp only at hk
        split at hk <;> first | (cases hk; done) | skip
        rename_i ao k hv
        simp only [Option.some.injEq, Prod.mk.injEq] at hk
        obtain ⟨rfl, rfl, rfl, rfl⟩ := hk
        refine step _ env' h cons _ ⟨val_snoc ho hI.env hpv, ?_, ?_, ?_⟩ ⟨env, h, cons, al, hI, hdb, .inr ⟨hgd, vs, hvs, by unfold KF; rw [hkd]; exact ⟨ao, k, hv, rfl⟩⟩⟩ hd
        · rw [heapOf_append, ← hI.heap]; rfl
        · intro a
          rw [hI.cons]
          constructor
          · rintro ⟨q, v, hh, h1, h2⟩
            exact ⟨q, v, hh, snoc_get.2 (.inl h1), h2⟩
          · rintro ⟨q, v, hh, h1, h2⟩
            rcases snoc_get.1 h1 with h1 | ⟨_, h1⟩
            · exact ⟨q, v, hh, h1, h2⟩
            · cases h1
        · intro a ao'
          rw [List.mem_cons, hI.al]
          constructor
          · rintro (h1 | ⟨v, h1⟩)
            · cases h1
              exact ⟨_, snoc_get.2 (.inr ⟨by simp, rfl⟩)⟩
            · exact ⟨v, snoc_get.2 (.inl h1)⟩
          · rintro ⟨v, h1⟩
            rcases snoc_get.1 h1 with h1 | ⟨h0, h1⟩
            · exact .inr ⟨v, h1⟩
            · cases h1
              left
              rw [h0]
              simp
      | loud =>
        rw [hkd] at hk
        dsimp only at hk
        split at hk <;> first | (cases hk; done) | skip
        rename_i v h1 hv
        simp only [Option.some.injEq, Prod.mk.injEq] at hk
        obtain ⟨rfl, rfl, rfl, rfl⟩ := hk
        refine step _ env' _ _ al ⟨val_snoc ho hI.env hpv, ?_, ?_, ?_⟩ ⟨env, h, cons, al, hI, hdb, .inr ⟨hgd, vs, hvs, by unfold KF; rw [hkd]; exact ⟨v, _, rfl, hv⟩⟩⟩ hd
        · rw [heapOf_append]; rfl
        · intro a
          rw [Nat.testBit_or, Bool.or_eq_true, hI.cons]
          constructor
          · rintro (⟨q, v, hh, h1, h2⟩ | h1)
            · exact ⟨q, v, hh, snoc_get.2 (.inl h1), h2⟩
            · exact ⟨rs.length, _, _, snoc_get.2 (.inr ⟨by simp, rfl⟩), h1⟩
          · rintro ⟨q, v, hh, h1, h2⟩
            rcases snoc_get.1 h1 with h1 | ⟨h3, h1⟩
            · exact .inl ⟨q, v, hh, h1, h2⟩
            · right
              rw [h3, List.length_reverse] at h2
              exact h2
        · intro a ao
          rw [hI.al]
          constructor
          · rintro ⟨v, h1⟩
            exact ⟨v, snoc_get.2 (.inl h1)⟩
          · rintro ⟨v, h1⟩
            rcases snoc_get.1 h1 with h1 | ⟨_, h1⟩
            · exact ⟨v, h1⟩
            · cases h1
end
end Go.Proofs.YtllbnoojkgbjiaaGreat.Ex

/-
  The runner: a region that draws its order: what was checked of it. No condition.
-/
namespace Go.Proofs.YtllbnoojkgbjiaaGreat.Ex
open Go
mutual
theorem AV.beq_eq : ∀ {a b : AV}, AV.beq a b = true → a = b
  | .bool a, b, h => by cases b <;> simp [AV.beq] at h; rw [h]
  | .int k a, b, h => by cases b <;> simp [AV.beq] at h; rw [h.1, h.2]
  | .sym k e, b, h => by cases b <;> simp [AV.beq] at h; rw [h.1, SE.beq_eq h.2]
  | .bsym c p, b, h => by cases b <;> simp [AV.beq] at h; rw [Cnd.beq_eq h.1, h.2]
  | .eptr n e s j, b, h => by cases b <;> simp [AV.beq] at h; rw [h.1.1, SE.beq_eq h.1.2, h.2.1, h.2.2]
  | .dsl n e s, b, h => by cases b <;> simp [AV.beq] at h; rw [h.1, SE.beq_eq h.2.1, h.2.2]
  | .ssl n e l s, b, h => by cases b <;> simp [AV.beq] at h; rw [h.1.1, SE.beq_eq h.1.2, h.2.1, h.2.2]
  | .rsl i, b, h => by cases b <;> simp [AV.beq] at h; rw [h]
  | .rptr i e, b, h => by cases b <;> simp [AV.beq] at h; rw [h.1, SE.beq_eq h.2]
  | .str _, b, h => by cases b <;> simp [AV.beq] at h
  | .nilp, b, h => by cases b <;> simp [AV.beq] at h; rfl
  | .ptr n o, b, h => by
    cases b <;> simp [AV.beq] at h
    rw [h.1, h.2]
  | .gptr n o, b, h => by
    cases b <;> simp [AV.beq] at h
    rw [h.1, h.2]
  | .nilsl, b, h => by cases b <;> simp [AV.beq] at h; rfl
  | .sl n o l s r, b, h => by
    cases b <;> simp [AV.beq] at h
    obtain ⟨h1, h2, h3, h4, h5⟩ := h
    rename_i n' o' l' s' r'
    have : r = r' := by
      cases r <;> cases r' <;> first | rfl | (cases h5; done) | skip
      simp at h5
      rw [h5]
    rw [h1, h2, h3, h4, this]
  | .esl n, b, h => by cases b <;> simp [AV.beq] at h; rw [h]
  | .zsl, b, h => by cases b <;> simp [AV.beq] at h; rfl
  | .osl e, b, h => by cases b <;> simp [AV.beq] at h; rw [SE.beq_eq h]
  | .nilmap, b, h => by cases b <;> simp [AV.beq] at h; rfl
  | .map n, b, h => by cases b <;> simp [AV.beq] at h; rw [h]
  | .fn f x y, b, h => by
    cases b with
    | fn f' x' y' =>
      cases f <;> cases f' <;> simp [AV.beq] at h
      obtain ⟨h1, h2, h3⟩ := h
      rw [h1, AV.beqs_eq h2, AV.beqs_eq h3]
    | _ => cases f <;> simp [AV.beq] at h
  | .nilfn, b, h => by cases b <;> simp [AV.beq] at h; rfl
  | .nilif, b, h => by cases b <;> simp [AV.beq] at h; rfl
  | .ifc _ _, b, h => by cases b <;> simp [AV.beq] at h
  | .agg l, b, h => by
    cases b <;> simp [AV.beq] at h
    rw [AV.beqs_eq h]
  | .tup l, b, h => by
    cases b <;> simp [AV.beq] at h
    rw [AV.beqs_eq h]
theorem AV.beqs_eq : ∀ {a b : List AV}, AV.beqs a b = true → a = b
  | [], b, h => by cases b <;> simp [AV.beqs] at h; rfl
  | x :: a, b, h => by
    cases b with
    | nil => simp [AV.beqs] at h
    | cons y b =>
      simp [AV.beqs] at h
      rw [AV.beq_eq h.1, AV.beqs_eq h.2]
end
variable [Nums]
section
variable {P : Program} {call : FuncId → List AV → AH → Option (AV × AH)} {nt : Nat} {ops : Array Oper} {b : T Nat} {base : Nat} {env0 : T AV} {h0 : AH}
omit [Nums] in
theorem take_get {α : Type} {l : List α} {n i : Nat} {x : α} : (l.take n)[i]? = some x ↔ i < n ∧ l[i]? = some x := by
  rw [List.getElem?_take]
  by_cases h : i < n <;> simp [h]
omit [Nums] in
theorem Val.ext {p q : List Rk} {n t : Nat} {v : AV} (h : Val ops env0 p (below n) t v) (he : ∀ i, i < n → p[i]? = q[i]?) : Val ops env0 q (below n) t v := by
  rcases h with ⟨i, r, h1, h2, h3, h4, h5⟩ | h
  · refine .inl ⟨i, r, h1, h2, ?_, h4, h5⟩
    rw [← he i (by simpa [below] using h1)]
    exact h3
  · exact .inr h
omit [Nums] in
theorem mayAt_ok {i j : Nat} : ∀ {rs : List Rk} {l : Nat}, (∀ (k : Nat) v h, rs[k]? = some (.loud v h) → (l + k < j → ahead b i (l + k) = false) ∧ (j ≤ l + k → ahead b (l + k) i = false)) → mayAt b i j l rs = true
  | [], _, _ => rfl
  | r :: rs, l, h => by
    have ih : mayAt b i j (Nat.add l 1) rs = true := mayAt_ok fun k v h' hk => by
      have := h (k + 1) v h' (by simpa using hk)
      have e : Nat.add l 1 + k = l + (k + 1) := by show l + 1 + k = _; omega
      rw [e]
      exact this
    cases r with
    | loud v h' =>
      have := h 0 v h' rfl
      rw [Nat.add_zero] at this
      unfold mayAt
      split
      · rename_i hlt
        rw [this.1 (by simpa using hlt)]
        exact ih
      · rename_i hlt
        rw [this.2 (by have := blt_no hlt; omega)]
        exact ih
    | skip => exact ih
    | val _ => exact ih
    | alloc _ _ => exact ih
def ReadAt (P : Program) (b : T Nat) (base : Nat) (h0 : AH) (all : List Rk) (al : List (Nat × AO)) (op : Op) (vs : List AV) (v : AV) (i j : Nat) : Prop :=
  mayAt b i j 0 all = true → ∃ c : Nat, (∀ a, c.testBit a = true ↔ ConsP b (all.take j) a) ∧ aread P op vs (overlay base (fun a => ahead b a i && !(c.testBit a)) al (heapOf h0 (all.take j))) = some v
theorem next_spec {all : List Rk} {al : List (Nat × AO)} {op : Op} {vs : List AV} {v : AV} {i : Nat} : ∀ (rs pre : List Rk) (cons : Nat), all = pre ++ rs → (∀ a, cons.testBit a = true ↔ ConsP b pre a) →
    sameNext P b base all al op vs v i pre.length (heapOf h0 pre) cons rs = true → ∀ (q : Nat) u h, pre.length ≤ q → all[q]? = some (.loud u h) → ReadAt P b base h0 all al op vs v i (q + 1)
  | [], pre, cons, he, hc, hn, q, u, h, hq, ha => by
    rw [he, List.append_nil, List.getElem?_eq_none hq] at ha
    cases ha
  | r :: rs, pre, cons, he, hc, hn, q, u, h, hq, ha => by
    have he' : all = (pre ++ [r]) ++ rs := by rw [he]; simp
    have hlen : (pre ++ [r]).length = pre.length + 1 := by simp
    have htake : all.take (pre.length + 1) = pre ++ [r] := by rw [he', List.take_left' hlen]
    have other : isL r = false → sameNext P b base all al op vs v i (pre.length + 1) (heapOf h0 pre) cons rs = true → ReadAt P b base h0 all al op vs v i (q + 1) := by
      intro hnl hn'
      have hc' : ∀ a, cons.testBit a = true ↔ ConsP b (pre ++ [r]) a := by
        intro a
        rw [hc]
        constructor
        · rintro ⟨l, v, h, h1, h2⟩
          exact ⟨l, v, h, snoc_get.2 (.inl h1), h2⟩
        · rintro ⟨l, v, h, h1, h2⟩
          rcases snoc_get.1 h1 with h1 | ⟨_, h1⟩
          · exact ⟨l, v, h, h1, h2⟩
          · subst h1; cases hnl
      refine next_spec rs (pre ++ [r]) cons he' hc' ?_ q u h ?_ ha
      · rw [hlen, heapOf_append, heapOf_none (q := [r]) (by simpa using hnl)]
        exact hn'
      · rw [hlen]
        rcases Nat.lt_or_ge pre.length q with h1 | h1
        · omega
        · have : q = pre.length := by omega
          rw [this, he, List.getElem?_append_right (Nat.le_refl _)] at ha
          simp at ha
          subst ha
          cases hnl
    cases r with
    | loud u' h' =>
      unfold sameNext at hn
      dsimp only at hn
      split at hn <;> first | (cases hn; done) | skip
      rename_i hcheck
      have hc' : ∀ a, (cons ||| bitsAt b pre.length).testBit a = true ↔ ConsP b (pre ++ [.loud u' h']) a := by
        intro a
        rw [Nat.testBit_or, Bool.or_eq_true, hc]
        constructor
        · rintro (⟨l, v, h, h1, h2⟩ | h1)
          · exact ⟨l, v, h, snoc_get.2 (.inl h1), h2⟩
          · exact ⟨pre.length, _, _, snoc_get.2 (.inr ⟨rfl, rfl⟩), h1⟩
        · rintro ⟨l, v, h, h1, h2⟩
          rcases snoc_get.1 h1 with h1 | ⟨h3, h1⟩
          · exact .inl ⟨l, v, h, h1, h2⟩
          · right
            rw [h3] at h2
            exact h2
      rcases Nat.lt_or_ge pre.length q with h1 | h1
      · refine next_spec rs (pre ++ [.loud u' h']) _ he' hc' ?_ q u h (by rw [hlen]; omega) ha
        rw [hlen, heapOf_append]
        exact hn
      · have hqe : q = pre.length := by omega
        subst hqe
        intro hmay
        refine ⟨cons ||| bitsAt b pre.length, ?_, ?_⟩
        · rw [htake]; exact hc'
        · rw [htake, heapOf_append]
          have hmay' : mayAt b i (Nat.add pre.length 1) 0 all = true := hmay
          unfold okAt at hcheck
          rw [hmay'] at hcheck
          dsimp only at hcheck
          split at hcheck <;> first | (cases hcheck; done) | skip
          rename_i u2 hu2
          have := AV.beq_eq hcheck
          subst this
          exact hu2
    | skip => exact other rfl hn
    | val _ => exact other rfl hn
    | alloc _ _ => exact other rfl hn
theorem sameAll_spec {all : List Rk} {al : List (Nat × AO)} {op : Op} {vs : List AV} {v : AV} {i : Nat} (h : sameAll P b base all al op vs v i h0 = true) (j : Nat) (hj : j = 0 ∨ ∃ q u g, j = q + 1 ∧ all[q]? = some (.loud u g)) :
    ReadAt P b base h0 all al op vs v i j := by
  unfold sameAll at h
  split at h <;> first | (cases h; done) | skip
  rename_i hcheck
  have h0c : ∀ a, (0 : Nat).testBit a = true ↔ ConsP b [] a := by
    intro a
    simp [ConsP]
  rcases hj with rfl | ⟨q, u, g, rfl, hq⟩
  · intro hmay
    refine ⟨0, by simpa using h0c, ?_⟩
    unfold okAt at hcheck
    rw [hmay] at hcheck
    dsimp only at hcheck
    split at hcheck <;> first | (cases hcheck; done) | skip
    rename_i u2 hu2
    have := AV.beq_eq hcheck
    subst this
    exact hu2
  · exact next_spec all [] 0 (by simp) h0c h q u g (Nat.zero_le _) hq
theorem reads_facts {all : List Rk} {al : List (Nat × AO)} : ∀ (l : List Oper) (p tail : List Rk) (env : T AV), reads P nt ops b base h0 all al p.length l tail env = true → (∀ k, l[k]? = ops[p.length + k]?) →
    (∀ t v, env.get t = some v → Val ops env0 p (below p.length) t v) → ∀ (k : Nat) v o, tail[k]? = some (.val v) → l[k]? = some o → kd o.op = .read →
    ∃ env vs, (∀ t v, env.get t = some v → Val ops env0 (p ++ tail.take k) (below (p.length + k)) t v) ∧ evs env o.op.operands.toList = some vs ∧ sameAll P b base all al o.op vs v (p.length + k) h0 = true
  | [], p, tail, env, h, hl, he, k, v, o, hk, ho, hkd => by simp at ho
  | o :: l, p, [], env, h, hl, he, k, v, o', hk, ho, hkd => by simp at hk
  | o :: l, p, r :: rs, env, h, hl, he, k, v, o', hk, ho, hkd => by
    unfold reads at h
    split at h <;> first | (cases h; done) | skip
    rename_i hcheck
    split at h <;> first | (cases h; done) | skip
    rename_i env' hput
    have hop : ops[p.length]? = some o := by simpa using (hl 0).symm
    cases k with
    | zero =>
      simp at hk ho
      subst hk; subst ho
      rw [hkd] at hcheck
      dsimp only at hcheck
      split at hcheck <;> first | (cases hcheck; done) | skip
      rename_i vs hvs
      exact ⟨env, vs, by simpa using he, hvs, hcheck⟩
    | succ k =>
      obtain ⟨_, hpv⟩ := putA_spec hput
      have hlen : (p ++ [r]).length = p.length + 1 := by simp
      obtain ⟨e1, vs, h1, h2, h3⟩ := reads_facts l (p ++ [r]) rs env' (by rw [hlen]; exact h) (fun k => by
        have := hl (k + 1)
        rw [List.getElem?_cons_succ] at this
        rw [this, hlen]
        congr 1
        omega) (val_snoc hop he hpv) k v o' (by simpa using hk) (by simpa using ho) hkd
      refine ⟨e1, vs, fun t u hu => ?_, h2, ?_⟩
      · have := h1 t u hu
        rw [hlen] at this
        rw [show p.length + (k + 1) = p.length + 1 + k from by omega]
        simpa using this
      · rw [hlen] at h3
        rw [show p.length + (k + 1) = p.length + 1 + k from by omega]
        exact h3
/-! what is ahead -/
def Closed (ops : Array Oper) (L : Nat → Bool) : Prop := ∀ i o, ops[i]? = some o → L i = true → ∀ e ∈ o.after.toList, Region.binds .any e = true → L e.on = true
omit [Nums] in
theorem bfOf_spec {t : T Nat} {j : Nat} : ∀ {l : List Edge}, (bfOf t l).testBit j = true → ∃ e ∈ l, Region.binds .any e = true ∧ (j = e.on ∨ ∃ y, t.get e.on = some y ∧ y.testBit j = true)
  | [], h => by simp [bfOf] at h
  | e :: l, h => by
    unfold bfOf at h
    split at h
    · rename_i hb
      rw [Nat.testBit_or, Nat.testBit_or, Bool.or_eq_true, Bool.or_eq_true] at h
      rcases h with (h | h) | h
      · refine ⟨e, List.mem_cons_self, hb, .inl ?_⟩
        rw [Nat.testBit_two_pow] at h
        simpa using (of_decide_eq_true h).symm
      · refine ⟨e, List.mem_cons_self, hb, .inr ?_⟩
        split at h
        · rename_i y hy
          exact ⟨y, hy, h⟩
        · simp at h
      · obtain ⟨e', h1, h2⟩ := bfOf_spec h
        exact ⟨e', List.mem_cons_of_mem _ h1, h2⟩
    · obtain ⟨e', h1, h2⟩ := bfOf_spec h
      exact ⟨e', List.mem_cons_of_mem _ h1, h2⟩
def DepOk (ops : Array Oper) (t : T Nat) : Prop := ∀ (i x : Nat), t.get i = some x → ∀ j, x.testBit j = true → ∀ L, Closed ops L → L i = true → L j = true
omit [Nums] in
theorem bfs_ok : ∀ (l : List Oper) (i : Nat) (t : T Nat), (∀ k, l[k]? = ops[i + k]?) → DepOk ops t → DepOk ops (bfs i l t)
  | [], i, t, _, h => h
  | o :: l, i, t, hl, h => by
    unfold bfs
    refine bfs_ok l (i + 1) _ (fun k => ?_) ?_
    · have := hl (k + 1)
      rw [List.getElem?_cons_succ] at this
      rw [this]
      congr 1
      omega
    · intro q x hq j hj L hL hi
      rcases T.get_put hq with ⟨h1, h2⟩ | ⟨_, h2⟩
      · cases h2
        subst h1
        obtain ⟨e, he, hb, h3⟩ := bfOf_spec hj
        have hLe : L e.on = true := hL _ o (by simpa using (hl 0).symm) hi e he hb
        rcases h3 with rfl | ⟨y, hy, hyj⟩
        · exact hLe
        · exact h _ _ hy _ hyj L hL hLe
      · exact h _ _ h2 _ hj L hL hi
omit [Nums] in
theorem ahead_dep {i j : Nat} (h : ahead (bf ops) j i = true) {L : Nat → Bool} (hL : Closed ops L) (hi : L i = true) : L j = true := by
  have hd : DepOk ops (bf ops) := bfs_ok ops.toList 0 .e (by simp) (fun i x h => by rw [T.get_e] at h; cases h)
  unfold ahead bitsAt at h
  split at h
  · rename_i x hx
    exact hd _ _ hx _ h L hL hi
  · simp at h
omit [Nums] in
theorem memB_spec {t : Nat} : ∀ {l : List Nat}, t ∈ l → memB t l = true
  | [], h => by cases h
  | x :: l, h => by
    unfold memB
    split
    · rfl
    · rename_i hx
      rcases List.mem_cons.1 h with h1 | h1
      · subst h1
        simp at hx
      · exact memB_spec h1
omit [Nums] in
theorem chk2_spec {o : Oper} {i : Nat} : ∀ {l : List Oper} {j : Nat}, chk2 ops b o i j l = true → ∀ (k : Nat) q, l[k]? = some q → i ≠ j + k → ((∃ d, q.dst = some d ∧ d ∈ looks ops o) ∨ (isLoud o = true ∧ isLoud q = true)) →
    (j + k < i → ahead b (j + k) i = true) ∧ (i < j + k → ahead b i (j + k) = true)
  | [], j, h, k, q, hk, _, _ => by simp at hk
  | p :: l, j, h, k, q, hk, hne, hc => by
    have tail : chk2 ops b o i (Nat.add j 1) l = true := by
      unfold chk2 at h
      split at h
      · exact h
      · split at h
        · exact h
        · split at h
          · exact h
          · cases h
    cases k with
    | succ k =>
      have := chk2_spec tail k q (by simpa using hk) (by show i ≠ j + 1 + k; omega) hc
      have e : Nat.add j 1 + k = j + (k + 1) := by show j + 1 + k = _; omega
      rw [e] at this
      exact this
    | zero =>
      simp at hk
      subst hk
      rw [Nat.add_zero] at hne ⊢
      unfold chk2 at h
      split at h
      · rename_i hb
        exact absurd (Nat.eq_of_beq_eq_true hb) hne
      · have hcond : touch ops o p = true := by
          unfold touch
          rcases hc with ⟨d, h1, h2⟩ | ⟨h1, h2⟩
          · rw [h1]
            simp [memB_spec h2]
          · simp [h1, h2]
        rw [hcond] at h
        dsimp only at h
        split at h <;> first | (cases h; done) | skip
        rename_i hord
        split at hord
        · rename_i hlt
          have : j < i := by simpa using hlt
          exact ⟨fun _ => hord, fun h => by omega⟩
        · rename_i hlt
          have := blt_no hlt
          exact ⟨fun h => by omega, fun _ => hord⟩
omit [Nums] in
theorem chk1_spec : ∀ {l : List Oper} {i : Nat}, chk1 ops b i l = true → ∀ (k : Nat) o, l[k]? = some o → chk2 ops b o (i + k) 0 ops.toList = true
  | [], i, h, k, o, hk => by simp at hk
  | p :: l, i, h, k, o, hk => by
    unfold chk1 at h
    split at h <;> first | (cases h; done) | skip
    rename_i h2
    cases k with
    | zero =>
      simp at hk
      subst hk
      exact h2
    | succ k =>
      have := chk1_spec h k o (by simpa using hk)
      have e : Nat.add i 1 + k = i + (k + 1) := by show i + 1 + k = _; omega
      rw [e] at this
      exact this
omit [Nums] in
theorem edgesLt_spec : ∀ {l : List Oper} {i : Nat}, edgesLt i l = true → ∀ (k : Nat) o, l[k]? = some o → ∀ e ∈ o.after.toList, Region.binds .any e = true → e.on < i + k
  | [], i, h, k, o, hk => by simp at hk
  | p :: l, i, h, k, o, hk => by
    unfold edgesLt at h
    split at h <;> first | (cases h; done) | skip
    rename_i h2
    cases k with
    | zero =>
      simp at hk
      subst hk
      intro e he hb
      have := List.all_eq_true.1 h2 e he
      simpa [hb] using this
    | succ k =>
      have := edgesLt_spec h k o (by simpa using hk)
      intro e he hb
      have h3 := this e he hb
      have e' : Nat.add i 1 + k = i + (k + 1) := by show i + 1 + k = _; omega
      omega
omit [Nums] in
/-- two operations that touch one slot, or are both loud, are ordered -/
theorem chk_ord (h : chk ops = true) {i j : Nat} {o q : Oper} (hi : ops[i]? = some o) (hj : ops[j]? = some q) (hne : i ≠ j) (hc : (∃ d, q.dst = some d ∧ d ∈ looks ops o) ∨ (isLoud o = true ∧ isLoud q = true)) :
    (j < i → ahead (bf ops) j i = true) ∧ (i < j → ahead (bf ops) i j = true) := by
  unfold chk at h
  rw [Bool.and_eq_true] at h
  have h1 := chk1_spec h.1 i o (by simpa using hi)
  rw [Nat.zero_add] at h1
  have := chk2_spec h1 j q (by simpa using hj) (by omega) hc
  rw [Nat.zero_add] at this
  exact this
omit [Nums] in
theorem chk_lt (h : chk ops = true) {i : Nat} {o : Oper} (hi : ops[i]? = some o) : ∀ e ∈ o.after.toList, Region.binds .any e = true → e.on < i := by
  unfold chk at h
  rw [Bool.and_eq_true] at h
  intro e he hb
  have := edgesLt_spec h.2 i o (by simpa using hi) e he hb
  omega
end
end Go.Proofs.YtllbnoojkgbjiaaGreat.Ex

/-
  The runner: a region that draws its order gives, in whatever order, what it gives in the order of the text. No condition.
-/
namespace Go.Proofs.YtllbnoojkgbjiaaGreat.Ex
open Go
noncomputable section
variable [Nums]
def consB (b : T Nat) (a : Nat) : Nat → List Rk → Bool
  | _, [] => false
  | l, .loud _ _ :: rs => ahead b a l || consB b a (l + 1) rs
  | l, _ :: rs => consB b a (l + 1) rs
omit [Nums] in
theorem consB_iff {b : T Nat} {a : Nat} : ∀ {rs : List Rk} {k : Nat}, consB b a k rs = true ↔ ∃ l u g, rs[l]? = some (.loud u g) ∧ ahead b a (k + l) = true
  | [], k => by simp [consB]
  | r :: rs, k => by
    have ih := consB_iff (b := b) (a := a) (rs := rs) (k := k + 1)
    have sh : (∃ l u g, rs[l]? = some (.loud u g) ∧ ahead b a (k + 1 + l) = true) ↔ ∃ l u g, 0 < l ∧ (r :: rs)[l]? = some (.loud u g) ∧ ahead b a (k + l) = true := by
      constructor
      · rintro ⟨l, u, g, h1, h2⟩
        exact ⟨l + 1, u, g, by omega, by simpa using h1, by rw [show k + (l + 1) = k + 1 + l from by omega]; exact h2⟩
      · rintro ⟨l, u, g, h0, h1, h2⟩
        obtain ⟨l, rfl⟩ : ∃ q, l = q + 1 := ⟨l - 1, by omega⟩
        exact ⟨l, u, g, by simpa using h1, by rw [show k + 1 + l = k + (l + 1) from by omega]; exact h2⟩
    have other : isL r = false → ((consB b a (k + 1) rs = true) ↔ ∃ l u g, (r :: rs)[l]? = some (.loud u g) ∧ ahead b a (k + l) = true) := by
      intro hn
      rw [ih, sh]
      constructor
      · rintro ⟨l, u, g, _, h⟩
        exact ⟨l, u, g, h⟩
      · rintro ⟨l, u, g, h1, h2⟩
        refine ⟨l, u, g, ?_, h1, h2⟩
        rcases Nat.eq_zero_or_pos l with rfl | h0
        · simp at h1
          subst h1
          cases hn
        · exact h0
    cases r with
    | loud u h =>
      simp only [consB, Bool.or_eq_true]
      rw [ih, sh]
      constructor
      · rintro (h1 | ⟨l, u, g, _, h⟩)
        · exact ⟨0, _, _, rfl, h1⟩
        · exact ⟨l, u, g, h⟩
      · rintro ⟨l, u', g, h1, h2⟩
        rcases Nat.eq_zero_or_pos l with rfl | h0
        · exact .inl h2
        · exact .inr ⟨l, u', g, h0, h1, h2⟩
    | skip => exact other rfl
    | val _ => exact other rfl
    | alloc _ _ => exact other rfl
omit [Nums] in
theorem consB_P {b : T Nat} {a : Nat} {rs : List Rk} : consB b a 0 rs = true ↔ ConsP b rs a := by
  rw [consB_iff]
  simp only [Nat.zero_add, ConsP]
/-- memory when some operations are done: the main one, and the blocks of the region that lie beside it -/
def gF (base : Nat) (rs : List Rk) (L C : Nat → Bool) (H : AH) (m : Nat) : Option AO :=
  match (if base ≤ m then rs[m - base]? else none) with
  | some (.alloc ao _) => if L (m - base) && !C (m - base) then some ao else H.get m
  | _ => H.get m
section
variable {base : Nat} {rs : List Rk} {L L' C C' : Nat → Bool} {H : AH}
omit [Nums] in
theorem gF_alloc {a : Nat} {ao : AO} {v : AV} (h : rs[a]? = some (.alloc ao v)) (hL : L a = true) (hC : C a = false) : gF base rs L C H (base + a) = some ao := by
  unfold gF
  rw [if_pos (by omega), show base + a - base = a from by omega, h]
  simp [hL, hC]
omit [Nums] in
theorem gF_cases {m : Nat} {o : AO} (h : gF base rs L C H m = some o) : (∃ a v, m = base + a ∧ rs[a]? = some (.alloc o v) ∧ L a = true ∧ C a = false) ∨
    (H.get m = some o ∧ ∀ a ao v, m = base + a → rs[a]? = some (.alloc ao v) → L a = true → C a = true) := by
  unfold gF at h
  by_cases hb : base ≤ m
  · rw [if_pos hb] at h
    have hm : m = base + (m - base) := by omega
    have key : ∀ a, m = base + a → a = m - base := fun a ha => by omega
    split at h
    · rename_i ao v hr
      split at h
      · rename_i hc
        rw [Bool.and_eq_true] at hc
        cases h
        exact .inl ⟨m - base, v, hm, hr, hc.1, by simpa using hc.2⟩
      · rename_i hc
        refine .inr ⟨h, fun a ao' v' ha hra hL => ?_⟩
        have := key a ha
        subst this
        simp [hL] at hc
        exact hc
    · rename_i hno
      refine .inr ⟨h, fun a ao' v' ha hra hL => ?_⟩
      have := key a ha
      subst this
      exact absurd hra (hno _ _)
  · rw [if_neg hb] at h
    exact .inr ⟨h, fun a ao' v' ha => by omega⟩
omit [Nums] in
theorem gF_main {m : Nat} {o : AO} (h : H.get m = some o) (hno : ∀ a ao v, m = base + a → rs[a]? = some (.alloc ao v) → L a = true → C a = true) : gF base rs L C H m = some o := by
  unfold gF
  by_cases hb : base ≤ m
  · rw [if_pos hb]
    split
    · rename_i ao v hr
      split
      · rename_i hc
        rw [Bool.and_eq_true] at hc
        have := hno (m - base) ao v (by omega) hr hc.1
        rw [this] at hc
        simp at hc
      · exact h
    · exact h
  · rw [if_neg hb]
    exact h
omit [Nums] in
theorem gF_congr (h : ∀ a ao v, rs[a]? = some (.alloc ao v) → L' a = L a) (hC : ∀ a, C' a = C a) : gF base rs L' C' H = gF base rs L C H := by
  funext m
  unfold gF
  split
  · rename_i ao v hr
    split at hr
    · rw [h _ _ _ hr, hC]
    · cases hr
  · rfl
end
section
variable {P : Program} {call : FuncId → List AV → AH → Option (AV × AH)} {nt : Nat} {ops : Array Oper} {env0 : T AV} {h : AH} {rs : List Rk} {al : List (Nat × AO)}
/-- all that is known of a region -/
structure Reg (P : Program) (call : FuncId → List AV → AH → Option (AV × AH)) (nt : Nat) (ops : Array Oper) (env0 : T AV) (h : AH) (rs : List Rk) (al : List (Nat × AO)) : Prop where
  chk : chk ops = true
  len : rs.length = ops.size
  fact : ∀ (i : Nat) r o, rs[i]? = some r → ops[i]? = some o → FactAt P call nt ops (bf ops) h.next env0 (h.skip ops.size) (rs.take i) o i r
  read : ∀ (i : Nat) v o, rs[i]? = some (.val v) → ops[i]? = some o → kd o.op = .read → ∃ env vs, (∀ t v, env.get t = some v → Val ops env0 rs (below i) t v) ∧ evs env o.op.operands.toList = some vs ∧ sameAll P (bf ops) h.next rs al o.op vs v i (h.skip ops.size) = true
  al : ∀ a ao, (a, ao) ∈ al ↔ ∃ v, rs[a]? = some (.alloc ao v)
/-- memory behind the loud operations below a place -/
def mainAt (ops : Array Oper) (h : AH) (rs : List Rk) (lam : Nat) : AH := heapOf (h.skip ops.size) (rs.take lam)
def consAt (ops : Array Oper) (rs : List Rk) (lam : Nat) (a : Nat) : Bool := consB (bf ops) a 0 (rs.take lam)
structure AI (nt : Nat) (ops : Array Oper) (env0 : T AV) (h : AH) (rs : List Rk) (ρ0 : Ren) (w0 : World) (L : Nat → Bool) (lam : Nat) (ρ : Ren) (w : World) (a : Act) : Prop where
  cl : Closed ops L
  lt : ∀ i, L i = true → i < ops.size
  lam0 : lam = 0 ∨ ∃ q u g, lam = q + 1 ∧ rs[q]? = some (.loud u g)
  loud : ∀ (q : Nat) u g, rs[q]? = some (.loud u g) → (L q = true ↔ q < lam)
  st : Stp ρ0 h.get h.next w0 ρ (gF h.next rs L (consAt ops rs lam) (mainAt ops h rs lam)) (mainAt ops h rs lam).next w
  nx : h.next + ops.size ≤ (mainAt ops h rs lam).next
  nm : ∀ i, i < ops.size → L i = false → ρ (h.next + i) = none
  mask : ∀ i, i < ops.size → ((mainAt ops h rs lam).get (h.next + i)).isSome = true → consAt ops rs lam i = true
  dz : a.defers = []
  size : a.tmps.size = nt
  val : ∀ t v, Val ops env0 rs L t v → ∃ x, a.tmps[t]? = some x ∧ VR ρ v x
variable {ρ0 ρ : Ren} {w0 w : World} {L L' : Nat → Bool} {lam : Nat} {a : Act}
omit [Nums] in
theorem consAt_iff {lam x : Nat} : consAt ops rs lam x = true ↔ ∃ l u g, l < lam ∧ rs[l]? = some (.loud u g) ∧ ahead (bf ops) x l = true := by
  unfold consAt
  rw [consB_P]
  unfold ConsP
  constructor
  · rintro ⟨l, u, g, h1, h2⟩
    obtain ⟨h3, h4⟩ := take_get.1 h1
    exact ⟨l, u, g, h3, h4, h2⟩
  · rintro ⟨l, u, g, h3, h4, h2⟩
    exact ⟨l, u, g, take_get.2 ⟨h3, h4⟩, h2⟩
/-- a place that may come next -/
structure Rdy (ops : Array Oper) (L : Nat → Bool) (i : Nat) (o : Oper) : Prop where
  op : ops[i]? = some o
  no : L i = false
  pre : ∀ e ∈ o.after.toList, Region.binds .any e = true → L e.on = true
omit [Nums] in
theorem Rdy.ahead {i : Nat} {o : Oper} (hc : Closed ops L) {j : Nat} (h : ahead (bf ops) j i = true) (hr : Rdy ops L i o) (hne : j ≠ i) : L j = true := by
  have hcl : Closed ops (fun k => L k || decide (k = i)) := by
    intro k q hq hk e he hb
    simp only [Bool.or_eq_true, decide_eq_true_eq] at hk ⊢
    rcases hk with hk | rfl
    · exact .inl (hc k q hq hk e he hb)
    · rw [hr.op] at hq
      cases hq
      exact .inl (hr.pre e he hb)
  have := ahead_dep h hcl (by simp)
  simpa [hne] using this
omit [Nums] in
/-- writers of a slot that an operation touches: done just if they stand ahead of it -/
theorem Rdy.writer {i : Nat} {o : Oper} (hk : chk ops = true) (hc : Closed ops L) (hr : Rdy ops L i o) {j t : Nat} (hj : dstAt ops j = some t) (ht : t ∈ looks ops o) : L j = true ↔ j < i := by
  obtain ⟨q, hq, hqd⟩ : ∃ q, ops[j]? = some q ∧ q.dst = some t := by
    unfold dstAt at hj
    cases hq : ops[j]? with
    | none => rw [hq] at hj; cases hj
    | some q => rw [hq] at hj; exact ⟨q, rfl, hj⟩
  rcases Nat.lt_trichotomy j i with h | h | h
  · refine ⟨fun _ => h, fun _ => ?_⟩
    have := (chk_ord hk hr.op hq (by omega) (.inl ⟨t, hqd, ht⟩)).1 h
    exact Rdy.ahead hc this hr (by omega)
  · subst h
    rw [hr.no]
    simp
  · refine ⟨fun hL => ?_, fun h' => by omega⟩
    have := (chk_ord hk hr.op hq (by omega) (.inl ⟨t, hqd, ht⟩)).2 h
    have := ahead_dep this hc hL
    rw [hr.no] at this
    cases this
omit [Nums] in
theorem Rdy.val {i : Nat} {o : Oper} (hk : chk ops = true) (hc : Closed ops L) (hr : Rdy ops L i o) {t : Nat} {v : AV} (ht : t ∈ looks ops o) (h : Val ops env0 rs (below i) t v) : Val ops env0 rs L t v := by
  have hw := fun j (hj : dstAt ops j = some t) => Rdy.writer hk hc hr hj ht
  rcases h with ⟨q, r, h1, h2, h3, h4, h5⟩ | ⟨h1, h2⟩
  · refine .inl ⟨q, r, (hw q h2).2 (by simpa [below] using h1), h2, h3, h4, fun j hj hj' => h5 j ?_ hj'⟩
    simp [below]
    exact (hw j hj').1 hj
  · refine .inr ⟨fun j hj hj' => h1 j ?_ hj', h2⟩
    simp [below]
    exact (hw j hj').1 hj
/-- what the slots hold that an operation looks at -/
theorem evs_rel {ρ : Ren} {env : T AV} {a : Act} : ∀ {l : List Operand} {vs : List AV}, (∀ t v, .tmp t ∈ l → env.get t = some v → ∃ x, a.tmps[t]? = some x ∧ VR ρ v x) → evs env l = some vs → VRs ρ vs (l.map a.eval)
  | [], vs, _, h => by simp only [evs, Option.some.injEq] at h; subst h; exact VRs.nil
  | o :: l, vs, hv, h => by
    unfold evs at h
    split at h <;> first | (cases h; done) | skip
    rename_i v hvo
    split at h <;> first | (cases h; done) | skip
    rename_i us hus
    simp only [Option.some.injEq] at h
    subst h
    refine VRs.cons ?_ (evs_rel (fun t v ht => hv t v (List.mem_cons_of_mem _ ht)) hus)
    cases o with
    | tmp t =>
      obtain ⟨x, hx, hr⟩ := hv t v List.mem_cons_self hvo
      have : a.eval (.tmp t) = x := by simp [Act.eval, hx]
      rw [this]
      exact hr
    | const c => exact ofV_sound ρ hvo
    | func f =>
      simp only [ev, Option.some.injEq] at hvo
      subst hvo
      unfold VR
      exact ⟨#[], #[], rfl, VRs.nil, VRs.nil⟩
    | global g =>
      simp only [ev, Option.some.injEq] at hvo
      subst hvo
      unfold VR
      rfl
theorem guard_rel {ρ : Ren} {env : T AV} {a : Act} {o : Oper} {g : Bool} (hv : ∀ t v, t ∈ o.looksAt ops → env.get t = some v → ∃ x, a.tmps[t]? = some x ∧ VR ρ v x) (h : guardA ops o env = some g) : Region.wanted o (yielded ops a.tmps) = g := by
  unfold guardA at h
  unfold Region.wanted
  split at h
  · rename_i hg
    rw [hg]
    simpa using h
  · rename_i j want hg
    rw [hg]
    dsimp only
    split at h
    · rename_i hj
      simp only [Option.some.injEq] at h
      subst h
      simp [yielded, hj]
    · rename_i q hj
      split at h
      · rename_i hd
        simp only [Option.some.injEq] at h
        subst h
        simp [yielded, hj, hd]
      · rename_i d hd
        have hmem : d ∈ o.looksAt ops := by
          unfold Oper.looksAt
          rw [hg]
          simp [hj, hd]
        split at h <;> first | (cases h; done) | skip
        · rename_i b hb
          simp only [Option.some.injEq] at h
          subst h
          obtain ⟨x, hx, hr⟩ := hv d _ hmem hb
          unfold VR at hr
          subst hr
          simp only [yielded, hj, Option.bind_some, hd, hx]
          simp
        · rename_i c p hb
          split at h <;> first | (cases h; done) | skip
          rename_i q hq
          simp only [Option.some.injEq] at h
          subst h
          obtain ⟨x, hx, hr⟩ := hv d _ hmem hb
          unfold VR at hr
          rw [askC_ok hq] at hr
          subst hr
          simp only [yielded, hj, Option.bind_some, hd, hx]
          simp
        · rename_i v hno hno2 hb
          simp only [Option.some.injEq] at h
          subst h
          obtain ⟨x, hx, hr⟩ := hv d _ hmem hb
          simp only [yielded, hj, Option.bind_some, hd, hx]
          cases x with
          | bool b =>
            cases v <;> simp [VR] at hr
            · subst hr
              exact absurd rfl (hno _)
            · exact absurd rfl (hno2 _ _)
          | _ => rfl
omit [Nums] in
theorem tmp_looks {o : Oper} {t : Nat} (h : .tmp t ∈ o.op.operands.toList) : t ∈ o.looksAt ops := by
  unfold Oper.looksAt
  refine List.mem_append_left _ ?_
  rw [List.mem_filterMap]
  exact ⟨_, h, rfl⟩
omit [Nums] in
theorem looks_of {o : Oper} {t : Nat} (h : t ∈ o.looksAt ops) : t ∈ looks ops o := List.mem_append_right _ h
omit [Nums] in
/-- what the slots hold behind one more operation -/
theorem val_step {i : Nat} {o : Oper} {r : Rk} (hk : chk ops = true) (hc : Closed ops L) (hr : Rdy ops L i o) (hri : rs[i]? = some r) (hL : ∀ j, L' j = true ↔ L j = true ∨ j = i) {t : Nat} {v : AV} (h : Val ops env0 rs L' t v) :
    (o.dst = some t ∧ v = r.res) ∨ (o.dst ≠ some t ∧ Val ops env0 rs L t v) := by
  have hd : dstAt ops i = o.dst := by simp [dstAt, hr.op]
  by_cases hdt : o.dst = some t
  · left
    refine ⟨hdt, ?_⟩
    have htl : t ∈ looks ops o := by unfold looks; rw [hdt]; simp
    rcases h with ⟨q, r', h1, h2, h3, h4, h5⟩ | ⟨h1, _⟩
    · have hiq := h5 i ((hL i).2 (.inr rfl)) (by rw [hd, hdt])
      rcases (hL q).1 h1 with h6 | h6
      · have := (Rdy.writer hk hc hr h2 htl).1 h6
        omega
      · subst h6
        rw [hri] at h3
        cases h3
        exact h4
    · exact absurd (by rw [hd, hdt]) (h1 i ((hL i).2 (.inr rfl)))
  · right
    refine ⟨hdt, ?_⟩
    rcases h with ⟨q, r', h1, h2, h3, h4, h5⟩ | ⟨h1, h2⟩
    · rcases (hL q).1 h1 with h6 | h6
      · exact .inl ⟨q, r', h6, h2, h3, h4, fun j hj hj' => h5 j ((hL j).2 (.inl hj)) hj'⟩
      · subst h6
        rw [hd] at h2
        exact absurd h2 hdt
    · exact .inr ⟨fun j hj hj' => h1 j ((hL j).2 (.inl hj)) hj', h2⟩
theorem put_vals {i : Nat} {o : Oper} {r : Rk} {ρ' : Ren} {x : Value} (hk : chk ops = true) (hc : Closed ops L) (hr : Rdy ops L i o) (hri : rs[i]? = some r) (hL : ∀ j, L' j = true ↔ L j = true ∨ j = i)
    (hd : ∀ d, o.dst = some d → d < nt) (hs : a.tmps.size = nt) (hv : ∀ t v, Val ops env0 rs L t v → ∃ x, a.tmps[t]? = some x ∧ VR ρ v x) (hm : ∀ n p, ρ n = some p → ρ' n = some p) (hx : VR ρ' r.res x) :
    ∀ t v, Val ops env0 rs L' t v → ∃ y, (a.put o.dst x).tmps[t]? = some y ∧ VR ρ' v y := by
  intro t v h
  rcases val_step hk hc hr hri hL h with ⟨h1, rfl⟩ | ⟨h1, h2⟩
  · have hlt := hd t h1
    refine ⟨x, ?_, hx⟩
    rw [h1]
    simp [Act.put, hs, hlt]
  · obtain ⟨y, hy, hyr⟩ := hv t v h2
    refine ⟨y, ?_, hyr.mono hm⟩
    cases hod : o.dst with
    | none => exact hy
    | some d =>
      have : d ≠ t := fun he => h1 (by rw [hod, he])
      simp [Act.put, Array.getElem?_setIfInBounds, this, hy]
omit [Nums] in
theorem put_size {o : Option Tmp} {x : Value} : (a.put o x).tmps.size = a.tmps.size := by
  cases o <;> simp [Act.put]
omit [Nums] in
theorem put_defers {o : Option Tmp} {x : Value} : (a.put o x).defers = a.defers := by
  cases o <;> rfl
omit [Nums] in
theorem closed_more {i : Nat} {o : Oper} (hc : Closed ops L) (hr : Rdy ops L i o) (hL : ∀ j, L' j = true ↔ L j = true ∨ j = i) : Closed ops L' := by
  intro k q hq hk e he hb
  rw [hL] at hk ⊢
  rcases hk with hk | rfl
  · exact .inl (hc k q hq hk e he hb)
  · rw [hr.op] at hq
    cases hq
    exact .inl (hr.pre e he hb)
/-- an operation that leaves memory as it is -/
theorem AI.still (hI : AI nt ops env0 h rs ρ0 w0 L lam ρ w a) {i : Nat} {o : Oper} {r : Rk} {x : Value} (hk : Ex.chk ops = true) (hr : Rdy ops L i o) (hri : rs[i]? = some r) (hL : ∀ j, L' j = true ↔ L j = true ∨ j = i) (hd : ∀ d, o.dst = some d → d < nt)
    (hnl : isL r = false) (hna : ∀ ao v, r ≠ .alloc ao v) (hx : VR ρ r.res x) : AI nt ops env0 h rs ρ0 w0 L' lam ρ w (a.put o.dst x) := by
  have hne : ∀ {q : Nat} {r' : Rk}, rs[q]? = some r' → r' ≠ r → q ≠ i := fun h1 h2 he => by
    subst he
    rw [hri] at h1
    cases h1
    exact h2 rfl
  refine ⟨closed_more hI.cl hr hL, fun j hj => ?_, hI.lam0, fun q u g hq => ?_, ?_, hI.nx, fun j hj hn => hI.nm j hj ?_, hI.mask, by rw [put_defers]; exact hI.dz, by rw [put_size]; exact hI.size, put_vals hk hI.cl hr hri hL hd hI.size hI.val (fun _ _ h => h) hx⟩
  · rcases (hL j).1 hj with h1 | rfl
    · exact hI.lt j h1
    · exact (Array.getElem?_eq_some_iff.1 hr.op).1
  · rw [← hI.loud q u g hq, hL]
    have : q ≠ i := hne hq (fun he => by subst he; cases hnl)
    simp [this]
  · rw [gF_congr (L := L) (C := consAt ops rs lam) (fun q ao v hq => ?_) (fun _ => rfl)]
    · exact hI.st
    · have : q ≠ i := hne hq (fun he => hna ao v he.symm)
      have := hL q
      cases h1 : L q <;> cases h2 : L' q <;> simp_all
  · cases h1 : L j with
    | false => rfl
    | true => rw [(hL j).2 (.inl h1)] at hn; cases hn
theorem AI.view (hI : AI nt ops env0 h rs ρ0 w0 L lam ρ w a) {i : Nat} {o : Oper} (hr : Rdy ops L i o) (hal : ∀ a ao, (a, ao) ∈ al → ∃ v, rs[a]? = some (.alloc ao v)) {r : Rk} (hri : rs[i]? = some r) (hna : ∀ ao v, r ≠ .alloc ao v)
    {see : Nat → Bool} (hsee : ∀ a, see a = true → ahead (bf ops) a i = true ∧ consAt ops rs lam a = false) {m : Nat} {x : AO} (hm : (overlay h.next see al (mainAt ops h rs lam)).get m = some x) :
    gF h.next rs L (consAt ops rs lam) (mainAt ops h rs lam) m = some x := by
  rcases overlay_spec hm with ⟨q, h1, h2, rfl⟩ | h1
  · obtain ⟨v, hq⟩ := hal _ _ h2
    obtain ⟨h3, h4⟩ := hsee q h1
    have hne : q ≠ i := fun he => by subst he; rw [hri] at hq; cases hq; exact hna _ _ rfl
    exact gF_alloc hq (Rdy.ahead hI.cl h3 hr hne) h4
  · refine gF_main h1 fun q ao v he hq hLq => ?_
    subst he
    exact hI.mask q (hI.lt q hLq) (by rw [h1]; rfl)
end
end
end Go.Proofs.YtllbnoojkgbjiaaGreat.Ex
