/-
  Texts of this claim, joined. No condition.
-/
import Derived.Test.YtfgomgodfcdijaaGreatDoorKn6
/-
  The runner: one operation, of whatever kind. No condition.
-/
namespace Go.Proofs.YtfgomgodfcdijaaGreatDoor.Ex
open Go
variable [Nums]
section
variable {P : Program} {ρ ρ' : Ren}
theorem MR.modify {nv : AV} {key y : Value} : ∀ {es : List (AV × AV)} {xs : List MapEntry} (j : Nat), MR ρ es xs → (∀ x, xs[j]? = some x → x.key = key) → VR ρ nv y → MR ρ (es.modify j fun p => (p.1, nv)) (xs.modify j fun e => { e with key := key, val := y })
  | [], xs, j, h, _, _ => by
    have : xs = [] := h
    subst this
    simpa using h
  | p :: es, xs, 0, h, hk, hv => by
    obtain ⟨x, xs', rfl, h1, h2, h3⟩ := h
    have := hk x rfl
    exact ⟨_, xs', rfl, by rw [← this]; exact h1, hv, h3⟩
  | p :: es, xs, j + 1, h, hk, hv => by
    obtain ⟨x, xs', rfl, h1, h2, h3⟩ := h
    simp only [List.modify_succ_cons]
    exact ⟨x, _, rfl, h1, h2, MR.modify j h3 (fun z hz => hk z (by simpa using hz)) hv⟩
theorem MR.erase : ∀ {es : List (AV × AV)} {xs : List MapEntry} (j : Nat), MR ρ es xs → MR ρ (es.eraseIdx j) (xs.eraseIdx j)
  | [], xs, j, h => by
    have : xs = [] := h
    subst this
    simpa using h
  | p :: es, xs, 0, h => by
    obtain ⟨x, xs', rfl, h1, h2, h3⟩ := h
    simpa using h3
  | p :: es, xs, j + 1, h => by
    obtain ⟨x, xs', rfl, h1, h2, h3⟩ := h
    simp only [List.eraseIdx_cons_succ]
    exact ⟨x, _, rfl, h1, h2, MR.erase j h3⟩
theorem MR.push : ∀ {es : List (AV × AV)} {xs : List MapEntry} {p : AV × AV} {e : MapEntry}, MR ρ es xs → VR ρ p.1 e.key → VR ρ p.2 e.val → MR ρ (es ++ [p]) (xs ++ [e])
  | [], xs, p, e, h, h1, h2 => by
    have : xs = [] := h
    subst this
    exact ⟨e, [], rfl, h1, h2, rfl⟩
  | q :: es, xs, p, e, h, h1, h2 => by
    obtain ⟨e', xs', rfl, k1, k2, k3⟩ := h
    exact ⟨e', _, rfl, k1, k2, MR.push k3 h1 h2⟩
omit [Nums] in
theorem setObj_map {r : Nat} {w : World} {xs : Array MapEntry} {c : Nat} (h : w.heap[r]? = some (.map xs c)) (o : Obj) : (setObj r o).run P w = .ok () { w with heap := w.heap.setIfInBounds r o } := by
  simp only [setObj, Sem.run, h]
omit [Nums] in
theorem born_modify (f : MapEntry → MapEntry) (hf : ∀ e, (f e).born = e.born) : ∀ (l : List MapEntry) (j : Nat), (l.modify j f).map (·.born) = l.map (·.born)
  | [], j => by simp
  | e :: l, 0 => by simp [hf]
  | e :: l, j + 1 => by simp [born_modify f hf l j]
theorem mapPut_sound {t : TypeId} {vs : List AV} {h h' : AH} {v : AV} {w : World} {u1 u2 u3 : Value} (ha : aloud.mapPut P t vs h = some (.val v h')) (hr : HR ρ h.get h.next w) (hv : VRs ρ vs [u1, u2, u3]) :
    ∃ w', (Instr.mapUpdate t u1 u2 u3).run P w = .ok () w' ∧ Stp ρ h.get h.next w ρ h'.get h'.next w' ∧ v = und := by
  unfold aloud.mapPut at ha
  split at ha <;> first | (cases ha; done) | skip
  rename_i kt et hu
  split at ha <;> first | (cases ha; done) | skip
  rename_i n ky nv
  obtain ⟨y1, y2, y3, hy, h1, h2, h3⟩ := hv.three
  simp only [List.cons.injEq, and_true] at hy
  obtain ⟨rfl, rfl, rfl⟩ := hy
  unfold VR at h1
  obtain ⟨b, s, hb, rfl⟩ := h1
  split at ha <;> first | (cases ha; done) | skip
  rename_i es bs ck hg
  obtain ⟨b', s', hb', hO⟩ := hr.obj _ _ hg
  rw [hb] at hb'
  cases hb'
  obtain ⟨xs, hx, hm, hbs⟩ := hO
  have hlt : b < w.heap.size := (Array.getElem?_eq_some_iff.1 hx).1
  obtain ⟨r0, hl0⟩ : ∃ r0, lookM P kt es ky = some r0 := by
    cases hl : lookM P kt es ky with
    | none => rw [hl] at ha; cases ha
    | some r => exact ⟨r, rfl⟩
  obtain ⟨hck0, hks0, hfound⟩ := lookM_sound hl0 hm h2
  have hck := hck0 false w
  have hks := hks0 w
  rw [hl0] at ha
  split at ha <;> first | (cases ha; done) | skip
  · rename_i j u heq
    cases heq
    simp only [Option.some.injEq, AN.val.injEq] at ha
    obtain ⟨rfl, rfl⟩ := ha
    obtain ⟨e, g1, g2, g3⟩ : ∃ e : MapEntry, (∀ w, (Instr.findKey kt u2 xs.toList).run P w = .ok (some (j, e.val)) w) ∧ xs.toList[j]? = some e ∧ e.key = u2 := by
      rcases hfound with ⟨g, _⟩ | ⟨j', v', x', g, g1, g2, g3, g4⟩
      · cases g
      · cases g
        exact ⟨x', g1, g2, g3⟩
    have hfk := g1 w
    have hej : xs[j]? = some e := by simpa using g2
    refine ⟨{ w with heap := w.heap.setIfInBounds b (.map (xs.modify j fun e => { e with key := u2, val := u3 }) ck) }, ?_, ?_, rfl⟩
    · unfold Instr.mapUpdate
      simp only [Sem.run_bind, run_underlying hu w, Result.andThen_ok, getObj_map hx, hck, hfk, hej, Option.map_some, Option.getD_some, g3, hks, setObj_map hx]
    · rw [put_next]
      refine Stp.change hr (n := n) (b := b) (s := s) (by rw [hg]; rfl) hb (o := .map (es.modify j fun p => (p.1, nv)) bs ck) ?_ rfl rfl rfl (by simp) (fun q _ hq => by simp [Ne.symm hq]) ?_
      · refine ⟨xs.modify j fun e => { e with key := u2, val := u3 }, by simp [hlt], ?_, ?_⟩
        · have := MR.modify (ρ := ρ) (nv := nv) (key := u2) (y := u3) j hm (fun z hz => by rw [g2] at hz; cases hz; exact g3) h3
          simpa using this
        · rw [← hbs]
          simpa using born_modify (fun e => { e with key := u2, val := u3 }) (fun _ => rfl) xs.toList j
      · intro q o' ho'
        rcases put_spec ho' with ⟨q1, q2⟩ | q1
        · exact .inl ⟨q1, by cases q2; rfl⟩
        · exact .inr q1
  · rename_i heq
    cases heq
    simp only [Option.some.injEq, AN.val.injEq] at ha
    obtain ⟨rfl, rfl⟩ := ha
    have g1 : ∀ w, (Instr.findKey kt u2 xs.toList).run P w = .ok none w := by
      rcases hfound with ⟨_, g⟩ | ⟨_, _, _, g, _⟩
      · exact g
      · cases g
    have hfk := g1 w
    refine ⟨{ w with heap := w.heap.setIfInBounds b (.map (xs.push { key := u2, val := u3, born := ck }) (ck + 1)) }, ?_, ?_, rfl⟩
    · unfold Instr.mapUpdate
      simp only [Sem.run_bind, run_underlying hu w, Result.andThen_ok, getObj_map hx, hck, hfk, setObj_map hx]
    · rw [put_next]
      refine Stp.change hr (n := n) (b := b) (s := s) (by rw [hg]; rfl) hb (o := .map (es ++ [(ky, nv)]) (bs ++ [ck]) (Nat.add ck 1)) ?_ rfl rfl rfl (by simp) (fun q _ hq => by simp [Ne.symm hq]) ?_
      · refine ⟨xs.push { key := u2, val := u3, born := ck }, by simp [hlt], ?_, ?_⟩
        · simp only [Array.toList_push]
          exact hm.push h2 h3
        · simp [← hbs]
      · intro q o' ho'
        rcases put_spec ho' with ⟨q1, q2⟩ | q1
        · exact .inl ⟨q1, by cases q2; rfl⟩
        · exact .inr q1
omit [Nums] in
theorem map_erase {α β : Type} (f : α → β) : ∀ (l : List α) (j : Nat), (l.eraseIdx j).map f = (l.map f).eraseIdx j
  | [], j => by simp
  | a :: l, 0 => by simp
  | a :: l, j + 1 => by simp [map_erase f l j]
theorem mapDel_sound {t : TypeId} {vs : List AV} {h h' : AH} {v : AV} {w : World} {u1 u2 : Value} {argTypes : Array TypeId} {ty : TypeId} (hat : argTypes[0]? = some t) (ha : aloud.mapDel P t vs h = some (.val v h')) (hr : HR ρ h.get h.next w) (hv : VRs ρ vs [u1, u2]) :
    ∃ w', (Builtin.delete_ argTypes ty #[u1, u2]).run P w = .ok (.tuple #[]) w' ∧ Stp ρ h.get h.next w ρ h'.get h'.next w' ∧ v = und := by
  unfold aloud.mapDel at ha
  split at ha <;> first | (cases ha; done) | skip
  rename_i kt et hu
  split at ha <;> first | (cases ha; done) | skip
  rename_i n ky
  obtain ⟨y1, y2, hy, h1, h2⟩ := hv.two
  simp only [List.cons.injEq, and_true] at hy
  obtain ⟨rfl, rfl⟩ := hy
  unfold VR at h1
  obtain ⟨b, s, hb, rfl⟩ := h1
  split at ha <;> first | (cases ha; done) | skip
  rename_i es bs ck hg
  obtain ⟨b', s', hb', hO⟩ := hr.obj _ _ hg
  rw [hb] at hb'
  cases hb'
  obtain ⟨xs, hx, hm, hbs⟩ := hO
  have hlt : b < w.heap.size := (Array.getElem?_eq_some_iff.1 hx).1
  obtain ⟨r0, hl0⟩ : ∃ r0, lookM P kt es ky = some r0 := by
    cases hl : lookM P kt es ky with
    | none => rw [hl] at ha; cases ha
    | some r => exact ⟨r, rfl⟩
  obtain ⟨hck0, -, hfound⟩ := lookM_sound hl0 hm h2
  have hck := hck0 xs.isEmpty w
  rw [hl0] at ha
  split at ha <;> first | (cases ha; done) | skip
  · rename_i heq
    cases heq
    simp only [Option.some.injEq, AN.val.injEq] at ha
    obtain ⟨rfl, rfl⟩ := ha
    have g1 : ∀ w, (Instr.findKey kt u2 xs.toList).run P w = .ok none w := by
      rcases hfound with ⟨_, g⟩ | ⟨_, _, _, g, _⟩
      · exact g
      · cases g
    have hfk := g1 w
    refine ⟨{ w with heap := w.heap.setIfInBounds b (.map xs ck) }, ?_, ?_, rfl⟩
    · unfold Builtin.delete_
      simp only [hat, List.getElem?_toArray, List.getElem?_cons_zero, List.getElem?_cons_succ, Sem.run_bind, run_underlying hu w, Result.andThen_ok, getObj_map hx, hck, hfk, setObj_map hx]
      rfl
    · rw [put_next]
      refine Stp.change hr (n := n) (b := b) (s := s) (by rw [hg]; rfl) hb (o := .map es bs ck) ?_ rfl rfl rfl (by simp) (fun q _ hq => by simp [Ne.symm hq]) ?_
      · exact ⟨xs, by simp [hlt], hm, hbs⟩
      · intro q o' ho'
        rcases put_spec ho' with ⟨q1, q2⟩ | q1
        · exact .inl ⟨q1, by cases q2; rfl⟩
        · exact .inr q1
  · rename_i j u heq
    cases heq
    simp only [Option.some.injEq, AN.val.injEq] at ha
    obtain ⟨rfl, rfl⟩ := ha
    obtain ⟨x, g1, g2⟩ : ∃ x, (∀ w, (Instr.findKey kt u2 xs.toList).run P w = .ok (some (j, x)) w) ∧ j < xs.toList.length := by
      rcases hfound with ⟨g, _⟩ | ⟨j', v', x', g, g1, g2, g3, g4⟩
      · cases g
      · cases g
        exact ⟨_, g1, (List.getElem?_eq_some_iff.1 g2).1⟩
    have g3 := MR.erase j hm
    have hfk := g1 w
    refine ⟨{ w with heap := w.heap.setIfInBounds b (.map (xs.eraseIdxIfInBounds j) ck) }, ?_, ?_, rfl⟩
    · unfold Builtin.delete_
      simp only [hat, List.getElem?_toArray, List.getElem?_cons_zero, List.getElem?_cons_succ, Sem.run_bind, run_underlying hu w, Result.andThen_ok, getObj_map hx, hck, hfk, setObj_map hx]
      rfl
    · rw [put_next]
      have hj : j < xs.size := by simpa using g2
      have he : (xs.eraseIdxIfInBounds j).toList = xs.toList.eraseIdx j := by simp [Array.eraseIdxIfInBounds, hj]
      refine Stp.change hr (n := n) (b := b) (s := s) (by rw [hg]; rfl) hb (o := .map (es.eraseIdx j) (bs.eraseIdx j) ck) ?_ rfl rfl rfl (by simp) (fun q _ hq => by simp [Ne.symm hq]) ?_
      · refine ⟨xs.eraseIdxIfInBounds j, by simp [hlt], by rw [he]; exact g3, ?_⟩
        rw [he, ← hbs, map_erase]
      · intro q o' ho'
        rcases put_spec ho' with ⟨q1, q2⟩ | q1
        · exact .inl ⟨q1, by cases q2; rfl⟩
        · exact .inr q1
/-! the entry of a map, to be written -/
theorem MR.at : ∀ {es : List (AV × AV)} {xs : List MapEntry} {j : Nat} {e : MapEntry}, MR ρ es xs → xs[j]? = some e → ∃ p, es[j]? = some p ∧ VR ρ p.1 e.key ∧ VR ρ p.2 e.val
  | [], xs, j, e, h, hj => by
    have : xs = [] := h
    subst this
    simp at hj
  | p :: es, xs, 0, e, h, hj => by
    obtain ⟨x, xs', rfl, h1, h2, h3⟩ := h
    simp at hj
    subst hj
    exact ⟨p, by simp, h1, h2⟩
  | p :: es, xs, j + 1, e, h, hj => by
    obtain ⟨x, xs', rfl, h1, h2, h3⟩ := h
    have := MR.at (j := j) h3 (by simpa using hj)
    simpa using this
omit [Nums] in
theorem modify_self {xs : Array MapEntry} {j : Nat} {e : MapEntry} (h : xs[j]? = some e) : xs.modify j (fun x => { x with key := e.key }) = xs := by
  apply Array.ext'
  rw [Array.toList_modify]
  apply List.ext_getElem?
  intro i
  rw [List.getElem?_modify]
  have h' : xs.toList[j]? = some e := by simpa using h
  by_cases hi : j = i
  · subst hi
    rw [h']
    simp
  · simp [hi]
theorem mapEnt_sound {t : TypeId} {vs : List AV} {h h' : AH} {v : AV} {w : World} {u1 u2 : Value} (ha : aloud.mapEnt P t vs h = some (.val v h')) (hr : HR ρ h.get h.next w) (hv : VRs ρ vs [u1, u2]) :
    ∃ y w', (Instr.mapEntry t u1 u2).run P w = .ok y w' ∧ Stp ρ h.get h.next w ρ h'.get h'.next w' ∧ VR ρ v y := by
  unfold aloud.mapEnt at ha
  split at ha <;> first | (cases ha; done) | skip
  rename_i kt et hu
  split at ha <;> first | (cases ha; done) | skip
  rename_i n ky
  obtain ⟨y1, y2, hy, h1, h2⟩ := hv.two
  simp only [List.cons.injEq, and_true] at hy
  obtain ⟨rfl, rfl⟩ := hy
  unfold VR at h1
  obtain ⟨b, s, hb, rfl⟩ := h1
  split at ha <;> first | (cases ha; done) | skip
  rename_i es bs ck hg
  obtain ⟨b', s', hb', hO⟩ := hr.obj _ _ hg
  rw [hb] at hb'
  cases hb'
  obtain ⟨xs, hx, hm, hbs⟩ := hO
  have hlt : b < w.heap.size := (Array.getElem?_eq_some_iff.1 hx).1
  obtain ⟨r0, hl0⟩ : ∃ r0, lookM P kt es ky = some r0 := by
    cases hl : lookM P kt es ky with
    | none => rw [hl] at ha; cases ha
    | some r => exact ⟨r, rfl⟩
  obtain ⟨hck0, hks0, hfound⟩ := lookM_sound hl0 hm h2
  have hck := hck0 false w
  have hks := hks0 w
  rw [hl0] at ha
  split at ha <;> first | (cases ha; done) | skip
  · rename_i j u heq
    cases heq
    split at ha <;> first | (cases ha; done) | skip
    rename_i stamp hst
    simp only [Option.some.injEq, AN.val.injEq] at ha
    obtain ⟨rfl, rfl⟩ := ha
    obtain ⟨e, g1, g2, g3, g4⟩ : ∃ e : MapEntry, (∀ w, (Instr.findKey kt u2 xs.toList).run P w = .ok (some (j, e.val)) w) ∧ xs.toList[j]? = some e ∧ e.key = u2 ∧ VR ρ u e.val := by
      rcases hfound with ⟨g, _⟩ | ⟨j', v', x', g, g1, g2, g3, g4⟩
      · cases g
      · cases g
        exact ⟨x', g1, g2, g3, g4⟩
    have hfk := g1 w
    have hej : xs[j]? = some e := by simpa using g2
    have hborn : e.born = stamp := by
      have : (xs.toList.map (·.born))[j]? = some e.born := by rw [List.getElem?_map, g2]; rfl
      rw [hbs, hst] at this
      exact (Option.some.inj this).symm
    refine ⟨.tuple #[e.val, goInt e.born], { w with heap := w.heap.setIfInBounds b (.map xs ck) }, ?_, ?_, ?_⟩
    · unfold Instr.mapEntry
      have hmod := modify_self hej
      rw [g3] at hmod
      simp only [Sem.run_bind, run_underlying hu w, Result.andThen_ok, getObj_map hx, hck, hfk, hej, Option.map_some, Option.getD_some, g3, hks, setObj_map hx, hmod, Sem.run_pure]
    · rw [put_next]
      refine Stp.change hr (n := n) (b := b) (s := s) (by rw [hg]; rfl) hb (o := .map es bs ck) ?_ rfl rfl rfl (by simp) (fun q _ hq => by simp [Ne.symm hq]) ?_
      · exact ⟨xs, by simp [hlt], hm, hbs⟩
      · intro q o' ho'
        rcases put_spec ho' with ⟨q1, q2⟩ | q1
        · exact .inl ⟨q1, by cases q2; rfl⟩
        · exact .inr q1
    · unfold VR
      exact ⟨_, rfl, VRs.cons g4 (VRs.cons (by unfold VR; rw [hborn]; rfl) VRs.nil)⟩
  · rename_i heq
    cases heq
    split at ha <;> first | (cases ha; done) | skip
    rename_i z hz
    simp only [Option.some.injEq, AN.val.injEq] at ha
    obtain ⟨rfl, rfl⟩ := ha
    obtain ⟨_, zv, _, _, hof, hzr⟩ := zeroT_run hz
    have hzv := ofV_sound ρ hof
    have g1 : ∀ w, (Instr.findKey kt u2 xs.toList).run P w = .ok none w := by
      rcases hfound with ⟨_, g⟩ | ⟨_, _, _, g, _⟩
      · exact g
      · cases g
    have hfk := g1 w
    refine ⟨.tuple #[zv, goInt ck], { w with heap := w.heap.setIfInBounds b (.map (xs.push { key := u2, val := zv, born := ck }) (ck + 1)) }, ?_, ?_, ?_⟩
    · unfold Instr.mapEntry
      simp only [Sem.run_bind, run_underlying hu w, Result.andThen_ok, getObj_map hx, hck, hfk, hzr w, setObj_map hx, Sem.run_pure]
    · rw [put_next]
      refine Stp.change hr (n := n) (b := b) (s := s) (by rw [hg]; rfl) hb (o := .map (es ++ [(ky, z)]) (bs ++ [ck]) (Nat.add ck 1)) ?_ rfl rfl rfl (by simp) (fun q _ hq => by simp [Ne.symm hq]) ?_
      · refine ⟨xs.push { key := u2, val := zv, born := ck }, by simp [hlt], ?_, ?_⟩
        · simp only [Array.toList_push]
          exact hm.push h2 hzv
        · simp [← hbs]
      · intro q o' ho'
        rcases put_spec ho' with ⟨q1, q2⟩ | q1
        · exact .inl ⟨q1, by cases q2; rfl⟩
        · exact .inr q1
    · unfold VR
      exact ⟨_, rfl, VRs.cons hzv (VRs.cons (by unfold VR; rfl) VRs.nil)⟩
omit [Nums] in
theorem idxOf_find {b : Nat} : ∀ {bs : List Nat} {xs : List MapEntry} {j : Nat}, idxOf b bs = some j → xs.map (·.born) = bs → xs.findIdx? (fun e => ((e.born : Nat) : Int) == (b : Int)) = some j ∧ j < xs.length
  | [], xs, j, h, _ => by unfold idxOf at h; cases h
  | c :: bs, [], j, _, hb => by cases hb
  | c :: bs, x :: xs, j, h, hb => by
    simp only [List.map_cons, List.cons.injEq] at hb
    unfold idxOf at h
    split at h
    · rename_i hc
      have hc : c = b := Nat.eq_of_beq_eq_true hc
      cases h
      have hxb : x.born = b := by rw [hb.1, hc]
      rw [List.findIdx?_cons, hxb]
      simp
    · rename_i hc
      have hc : c ≠ b := Nat.ne_of_beq_eq_false hc
      split at h <;> first | (cases h; done) | skip
      rename_i k hk
      cases h
      obtain ⟨h1, h2⟩ := idxOf_find hk hb.2
      have : ((x.born : Int) == (b : Int)) = false := by
        rw [beq_eq_false_iff_ne, hb.1]
        omega
      rw [List.findIdx?_cons, this]
      simp only [Bool.false_eq_true, if_false, h1, List.length_cons]
      exact ⟨rfl, by show k + 1 < _; omega⟩
theorem entSto_sound {t : TypeId} {vs : List AV} {h h' : AH} {v : AV} {w : World} {u1 u2 u3 : Value} (ha : aloud.entSto vs h = some (.val v h')) (hr : HR ρ h.get h.next w) (hv : VRs ρ vs [u1, u2, u3]) :
    ∃ w', (Instr.entryStore t u1 u2 u3).run P w = .ok () w' ∧ Stp ρ h.get h.next w ρ h'.get h'.next w' ∧ v = und := by
  unfold aloud.entSto at ha
  split at ha <;> first | (cases ha; done) | skip
  rename_i n kk st nv
  obtain ⟨y1, y2, y3, hy, h1, h2, h3⟩ := hv.three
  simp only [List.cons.injEq, and_true] at hy
  obtain ⟨rfl, rfl, rfl⟩ := hy
  unfold VR at h1 h2
  obtain ⟨b, s, hb, rfl⟩ := h1
  subst h2
  split at ha <;> first | (cases ha; done) | skip
  rename_i es bs ck hg
  obtain ⟨b', s', hb', hO⟩ := hr.obj _ _ hg
  rw [hb] at hb'
  cases hb'
  obtain ⟨xs, hx, hm, hbs⟩ := hO
  have hlt : b < w.heap.size := (Array.getElem?_eq_some_iff.1 hx).1
  split at ha <;> first | (cases ha; done) | skip
  rename_i j hj
  simp only [Option.some.injEq, AN.val.injEq] at ha
  obtain ⟨rfl, rfl⟩ := ha
  obtain ⟨hfi, hjl⟩ := idxOf_find hj hbs
  obtain ⟨e, he⟩ : ∃ e, xs.toList[j]? = some e := ⟨_, List.getElem?_eq_getElem hjl⟩
  refine ⟨{ w with heap := w.heap.setIfInBounds b (.map (xs.modify j fun e => { e with val := u3 }) ck) }, ?_, ?_, rfl⟩
  · unfold Instr.entryStore
    have hfa : xs.findIdx? (fun e => ((e.born : Nat) : Int) == (Int.ofNat st)) = some j := by
      rw [show xs = xs.toList.toArray from Array.toArray_toList.symm, List.findIdx?_toArray]
      simpa using hfi
    have hai : (asInt (.int kk (Int.ofNat st))).run P w = .ok (Int.ofNat st) w := rfl
    simp only [Sem.run_bind, Result.andThen_ok, getObj_map hx, hai, hfa, setObj_map hx]
  · rw [put_next]
    refine Stp.change hr (n := n) (b := b) (s := s) (by rw [hg]; rfl) hb (o := .map (es.modify j fun p => (p.1, nv)) bs ck) ?_ rfl rfl rfl (by simp) (fun q _ hq => by simp [Ne.symm hq]) ?_
    · refine ⟨xs.modify j fun e => { e with val := u3 }, by simp [hlt], ?_, ?_⟩
      · have := MR.modify (ρ := ρ) (nv := nv) (key := e.key) (y := u3) j hm (fun z hz => by rw [he] at hz; cases hz; rfl) h3
        have e2 : xs.toList.modify j (fun x => { x with key := e.key, val := u3 }) = xs.toList.modify j (fun x => { x with val := u3 }) := by
          apply List.ext_getElem?
          intro i
          rw [List.getElem?_modify, List.getElem?_modify]
          by_cases hi : j = i
          · subst hi
            rw [he]
            simp
          · simp [hi]
        rw [e2] at this
        simpa using this
      · rw [← hbs]
        simpa using born_modify (fun e => { e with val := u3 }) (fun _ => rfl) xs.toList j
    · intro q o' ho'
      rcases put_spec ho' with ⟨q1, q2⟩ | q1
      · exact .inl ⟨q1, by cases q2; rfl⟩
      · exact .inr q1
/-! iterators over maps -/
omit [Nums] in
theorem getObj_iter {r : Nat} {w : World} {m : Option Nat} {since last : Nat} {seen : Array Nat} (h : w.heap[r]? = some (.mapIter m since seen last)) : (getObj r).run P w = .ok (.mapIter m since seen last) w := by
  simp only [getObj, Sem.run, h]
omit [Nums] in
theorem setObj_iter {r : Nat} {w : World} {m : Option Nat} {since last : Nat} {seen : Array Nat} (h : w.heap[r]? = some (.mapIter m since seen last)) (o : Obj) : (setObj r o).run P w = .ok () { w with heap := w.heap.setIfInBounds r o } := by
  simp only [setObj, Sem.run, h]
theorem arange_sound {t kt et : TypeId} (hu : P.underlying t = some (.map kt et)) {vs : List AV} {h h' : AH} {v : AV} {w : World} {u1 : Value} (ha : aloud.arange vs h = some (.val v h')) (hr : HR ρ h.get h.next w) (hv : VRs ρ vs [u1]) :
    ∃ ρ' y w', (Instr.range t u1).run P w = .ok y w' ∧ Stp ρ h.get h.next w ρ' h'.get h'.next w' ∧ VR ρ' v y := by
  unfold aloud.arange at ha
  split at ha <;> first | (cases ha; done) | skip
  · obtain ⟨y, hy, h1⟩ := hv.one
    simp only [List.cons.injEq, and_true] at hy
    subst hy
    unfold VR at h1
    subst h1
    split at ha <;> first | (cases ha; done) | skip
    rename_i h1 hfr
    simp only [Option.some.injEq, AN.val.injEq] at ha
    obtain ⟨rfl, rfl⟩ := ha
    obtain ⟨hn, hg⟩ := fresh_spec hfr
    obtain ⟨hst, hup⟩ := Stp.new (s := 0) (obj := .mapIter none 0 #[] 0) (w' := w.alloc (.mapIter none 0 #[] 0)) hr h.get (fun _ _ h => h) hn hg (show OR ρ (.mit none 0 [] 0) 0 _ from rfl) rfl rfl rfl rfl
    refine ⟨_, .pointer (some ⟨w.heap.size, 0, none⟩), _, ?_, hst, ?_⟩
    · unfold Instr.range
      simp only [Sem.run_bind, run_underlying hu w, Result.andThen_ok, Sem.run_pure, newObj, Sem.run]
      rfl
    · unfold VR
      exact ⟨_, _, hup, rfl⟩
  · rename_i n
    obtain ⟨y, hy, h1⟩ := hv.one
    simp only [List.cons.injEq, and_true] at hy
    subst hy
    unfold VR at h1
    obtain ⟨b, s, hb, rfl⟩ := h1
    split at ha <;> first | (cases ha; done) | skip
    rename_i es bs ck hg0
    split at ha <;> first | (cases ha; done) | skip
    rename_i h1 hfr
    simp only [Option.some.injEq, AN.val.injEq] at ha
    obtain ⟨rfl, rfl⟩ := ha
    obtain ⟨b', s', hb', hO⟩ := hr.obj _ _ hg0
    rw [hb] at hb'
    cases hb'
    obtain ⟨xs, hx, hm, hbs⟩ := hO
    obtain ⟨hn, hg⟩ := fresh_spec hfr
    obtain ⟨hst, hup⟩ := Stp.new (s := 0) (obj := .mapIter (some b) ck #[] ck) (w' := w.alloc (.mapIter (some b) ck #[] ck)) hr h.get (fun _ _ h => h) hn hg (show OR ρ (.mit (some n) ck [] ck) 0 _ from ⟨b, s, hb, rfl⟩) rfl rfl rfl rfl
    refine ⟨_, .pointer (some ⟨w.heap.size, 0, none⟩), _, ?_, hst, ?_⟩
    · unfold Instr.range
      simp only [Sem.run_bind, run_underlying hu w, Result.andThen_ok, Sem.run_pure, getObj_map hx, newObj, Sem.run]
      rfl
    · unfold VR
      exact ⟨_, _, hup, rfl⟩
omit [Nums] in
theorem choose_one (w : World) : (choose (Question.mapNext 1)).run P w = .ok 0 w := by
  simp [choose, Sem.run, Question.forced]
def LR (ρ : Ren) : List (AV × AV × Nat) → List MapEntry → Prop
  | [], l => l = []
  | (k, v, b) :: r, l => ∃ e es, l = e :: es ∧ VR ρ k e.key ∧ VR ρ v e.val ∧ e.born = b ∧ LR ρ r es
theorem leftOf_sound {seen : List Nat} : ∀ {es : List (AV × AV)} {bs : List Nat} {xs : List MapEntry}, MR ρ es xs → xs.map (·.born) = bs → LR ρ (leftOf es bs seen) (xs.filter fun e => !seen.contains e.born)
  | [], bs, xs, hm, hb => by
    have : xs = [] := hm
    subst this
    subst hb
    rfl
  | (k, v) :: es, bs, xs, hm, hb => by
    obtain ⟨e, xs', rfl, h1, h2, h3⟩ := hm
    subst hb
    have ih := leftOf_sound (seen := seen) h3 rfl
    rw [List.map_cons]
    unfold leftOf
    cases hc : seen.contains e.born with
    | true =>
      rw [List.filter_cons_of_neg (by rw [hc]; simp)]
      exact ih
    | false =>
      rw [List.filter_cons_of_pos (by rw [hc]; rfl)]
      exact ⟨e, _, rfl, h1, h2, rfl, ih⟩
omit [Nums] in
theorem okNext_sound {bs seen : List Nat} {last : Nat} {xs : Array MapEntry} (h : okNext bs seen last = true) (hb : xs.toList.map (·.born) = bs) : (!seen.toArray.isEmpty && !xs.isEmpty && xs.all fun e => decide (e.born ≥ last)) = false := by
  unfold okNext at h
  rw [Bool.or_eq_true, Bool.or_eq_true] at h
  rcases h with h | h | h
  · have : seen = [] := by simpa using h
    subst this
    rfl
  · have : bs = [] := by simpa using h
    subst this
    have hx : xs.toList = [] := by simpa using hb
    have : xs = #[] := Array.toList_eq_nil_iff.1 hx
    subst this
    simp
  · obtain ⟨b, hbm, hbl⟩ := List.any_eq_true.1 h
    rw [← hb] at hbm
    obtain ⟨e, he, rfl⟩ := List.mem_map.1 hbm
    have hbl : e.born < last := by simpa using hbl
    have : (xs.all fun e => decide (e.born ≥ last)) = false := by
      rw [← Array.all_toList]
      rw [List.all_eq_false]
      exact ⟨e, he, by simp; omega⟩
    rw [this, Bool.and_false]
theorem anext_sound {vs : List AV} {h h' : AH} {v : AV} {w : World} {u1 : Value} {ty : TypeId} (ha : aloud.anext vs h = some (.val v h')) (hr : HR ρ h.get h.next w) (hv : VRs ρ vs [u1]) :
    ∃ y w', (Instr.next u1 false ty).run P w = .ok y w' ∧ Stp ρ h.get h.next w ρ h'.get h'.next w' ∧ VR ρ v y := by
  unfold aloud.anext at ha
  split at ha <;> first | (cases ha; done) | skip
  rename_i n
  obtain ⟨y, hy, h1⟩ := hv.one
  simp only [List.cons.injEq, and_true] at hy
  subst hy
  obtain ⟨b, s, hb, rfl⟩ := h1.ptr_inv
  have hover : VR ρ (.tup [.bool false]) (.tuple #[.bool false]) := by
    unfold VR
    exact ⟨_, rfl, VRs.cons (by unfold VR; rfl) VRs.nil⟩
  split at ha <;> first | (cases ha; done) | skip
  · rename_i hg
    simp only [Option.some.injEq, AN.val.injEq] at ha
    obtain ⟨rfl, rfl⟩ := ha
    obtain ⟨b', s', hb', hO⟩ := hr.obj _ _ hg
    rw [hb] at hb'
    cases hb'
    have hx : w.heap[b]? = some (.mapIter none 0 #[] 0) := hO
    refine ⟨.tuple #[.bool false], w, ?_, Stp.refl hr, hover⟩
    unfold Instr.next
    simp only [Sem.run_bind, getObj_iter hx, Result.andThen_ok, Sem.run_pure]
  · rename_i m since seen last hg
    split at ha <;> first | (cases ha; done) | skip
    rename_i es bs ck hgm
    obtain ⟨b', s', hb', hO⟩ := hr.obj _ _ hg
    rw [hb] at hb'
    cases hb'
    obtain ⟨bm, sm, hbm, hx⟩ := hO
    obtain ⟨b', s', hb', hOm⟩ := hr.obj _ _ hgm
    rw [hbm] at hb'
    cases hb'
    obtain ⟨xs, hxm, hm, hbs⟩ := hOm
    split at ha <;> first | (cases ha; done) | skip
    rename_i hok
    have hok := okNext_sound hok hbs
    have hL := leftOf_sound (seen := seen) hm hbs
    have hfilter : (xs.filter fun e => !seen.toArray.contains e.born).toList = xs.toList.filter fun e => !seen.contains e.born := by
      rw [Array.toList_filter]
      simp
    split at ha <;> first | (cases ha; done) | skip
    · rename_i hl
      simp only [Option.some.injEq, AN.val.injEq] at ha
      obtain ⟨rfl, rfl⟩ := ha
      rw [hl] at hL
      have hL : xs.toList.filter (fun e => !seen.contains e.born) = [] := hL
      have hleft : (xs.filter fun e => !seen.toArray.contains e.born) = #[] := by
        apply Array.ext'
        rw [hfilter, hL]
      refine ⟨.tuple #[.bool false], w, ?_, Stp.refl hr, hover⟩
      unfold Instr.next
      simp only [Sem.run_bind, getObj_iter hx, getObj_map hxm, Result.andThen_ok, hok, hleft]
      have hcand : ((if (Array.filter (fun x : MapEntry => decide (x.born < since)) #[]).isEmpty = true then #[none] else #[]) ++ Array.map some (Array.filter (fun x : MapEntry => decide (x.born < since)) #[] ++ Array.filter (fun x : MapEntry => decide (x.born ≥ since)) #[])) = #[none] := by simp
      rw [if_neg Bool.false_ne_true]
      simp only [hcand, Sem.run_bind, choose_one, Result.andThen_ok, show (#[(none : Option MapEntry)]).size = 1 from rfl, show (#[(none : Option MapEntry)])[0]? = some none from rfl, Sem.run_pure]
    · rename_i k nv bo hl
      split at ha <;> first | (cases ha; done) | skip
      rename_i hlt
      have hlt : bo < since := by simpa using hlt
      simp only [Option.some.injEq, AN.val.injEq] at ha
      obtain ⟨rfl, rfl⟩ := ha
      rw [hl] at hL
      obtain ⟨e, es', he, hk, hv', hbo, hnil⟩ := hL
      have hnil : es' = [] := hnil
      subst hnil
      have hleft : (xs.filter fun e => !seen.toArray.contains e.born) = #[e] := by
        apply Array.ext'
        rw [hfilter, he]
      have f1 : Array.filter (fun x => decide (x.born < since)) #[e] = #[e] := by simp [hbo, hlt]
      have f2 : Array.filter (fun x => decide (x.born ≥ since)) #[e] = #[] := by simp [hbo, hlt]
      have hblt : b < w.heap.size := (Array.getElem?_eq_some_iff.1 hx).1
      refine ⟨.tuple #[.bool true, e.key, e.val], { w with heap := w.heap.setIfInBounds b (.mapIter (some bm) since (seen.toArray.push e.born) ck) }, ?_, ?_, ?_⟩
      · unfold Instr.next
        simp only [Sem.run_bind, getObj_iter hx, getObj_map hxm, Result.andThen_ok, hok, hleft, f1, f2]
        have hcand : ((if (#[e] : Array MapEntry).isEmpty = true then #[none] else #[]) ++ Array.map some (#[e] ++ #[])) = #[some e] := by simp
        rw [if_neg Bool.false_ne_true]
        have hset := setObj_iter (P := P) hx (.mapIter (some bm) since (seen.toArray.push e.born) ck)
        simp only [hcand, Sem.run_bind, choose_one, Result.andThen_ok, show (#[some e]).size = 1 from rfl, show (#[some e])[0]? = some (some e) from rfl, hset, Sem.run_pure]
      · rw [put_next]
        refine Stp.change hr (n := n) (b := b) (s := s) (by rw [hg]; rfl) hb (o := .mit (some m) since (seen ++ [bo]) ck) ?_ rfl rfl rfl (by simp) (fun q _ hq => by simp [Ne.symm hq]) ?_
        · exact ⟨bm, sm, hbm, by simp [hblt, hbo]⟩
        · intro q o' ho'
          rcases put_spec ho' with ⟨q1, q2⟩ | q1
          · exact .inl ⟨q1, by cases q2; rfl⟩
          · exact .inr q1
      · unfold VR
        exact ⟨_, rfl, VRs.cons (by unfold VR; rfl) (VRs.cons hk (VRs.cons hv' VRs.nil))⟩
/-- what an operation that changes memory comes to -/
def LoudVal (P : Program) (ρ : Ren) (a : Act) (o : Oper) (h : AH) (w : World) (v : AV) (h' : AH) : Prop :=
  ∃ ρ' x w' nx, (execOp a.eval o).run P w = .ok nx w' ∧ (nx = .value x ∨ (nx = .skip ∧ x = undef)) ∧ Stp ρ h.get h.next w ρ' h'.get h'.next w' ∧ VR ρ' v x
def FnOk (P : Program) (f : FuncId) : Prop := ∃ fn c, P.funcs[f]? = some fn ∧ (fn.name == "runtime.NumGoroutine") = false ∧ fn.body = some c
theorem recSet_sound {e : SE} {ks : List CK} : ∀ {vs : List AV} {ys : List Value} {l l' : SE} {j : Nat}, recSet l e ks j vs = some l' → VRs ρ vs ys →
    l'.evN Nums.σ = l.evN Nums.σ ∧ j + ys.length ≤ ks.length ∨ vs = [] ∧ l' = l
  | [], ys, l, l', j, h, hv => by
    simp only [recSet, Option.some.injEq] at h
    exact .inr ⟨rfl, h.symm⟩
  | v :: vs, ys, l, l', j, h, hv => by
    unfold recSet at h
    split at h <;> first | (cases h; done) | skip
    rename_i k hk
    split at h <;> first | (cases h; done) | skip
    rename_i x hx
    obtain ⟨y, ys', rfl, h1, h2⟩ := hv.uncons
    have hj := (List.getElem?_eq_some_iff.1 hk).1
    rcases recSet_sound h h2 with ⟨h3, h4⟩ | ⟨h3, h4⟩
    · refine .inl ⟨by rw [h3]; simp only [SE.evN], ?_⟩
      have : Nat.add j 1 = j + 1 := rfl
      rw [this] at h4
      simp only [List.length_cons]
      omega
    · subst h3; subst h4
      unfold VRs at h2
      subst h2
      refine .inl ⟨by simp only [SE.evN], ?_⟩
      simp only [List.length_cons, List.length_nil]
      omega
theorem recSet_at {e : SE} {ks : List CK} : ∀ {vs : List AV} {ys : List Value} {l l' : SE} {j : Nat}, recSet l e ks j vs = some l' → VRs ρ vs ys → ∀ (q i : Nat) (k : CK), ks[i]? = some k →
    (q = (e.ev Nums.σ).toNat ∧ j ≤ i ∧ i < j + ys.length ∧ ys[i - j]? = some (k.val (l'.evA Nums.σ q i))) ∨ (¬ (q = (e.ev Nums.σ).toNat ∧ j ≤ i ∧ i < j + ys.length) ∧ l'.evA Nums.σ q i = l.evA Nums.σ q i)
  | [], ys, l, l', j, h, hv, q, i, k, hk => by
    simp only [recSet, Option.some.injEq] at h
    subst h
    unfold VRs at hv
    subst hv
    exact .inr ⟨by simp only [List.length_nil]; omega, rfl⟩
  | v :: vs, ys, l, l', j, h, hv, q, i, k, hk => by
    unfold recSet at h
    split at h <;> first | (cases h; done) | skip
    rename_i k0 hk0
    split at h <;> first | (cases h; done) | skip
    rename_i x hx
    obtain ⟨y, ys', rfl, h1, h2⟩ := hv.uncons
    have hj1 : Nat.add j 1 = j + 1 := rfl
    rcases recSet_at h h2 q i k hk with ⟨h3, h4, h5, h6⟩ | ⟨h3, h4⟩
    · rw [hj1] at h4 h5 h6
      refine .inl ⟨h3, by omega, by simp only [List.length_cons]; omega, ?_⟩
      rw [show i - j = (i - (j + 1)) + 1 from by omega, List.getElem?_cons_succ]
      exact h6
    · rw [hj1] at h3
      simp only [SE.evA] at h4
      by_cases hqi : q = (e.ev Nums.σ).toNat ∧ i = j
      · obtain ⟨hq, rfl⟩ := hqi
        rw [if_pos ⟨hq, rfl⟩] at h4
        rw [hk] at hk0
        cases hk0
        refine .inl ⟨hq, Nat.le_refl _, by simp only [List.length_cons]; omega, ?_⟩
        rw [Nat.sub_self, List.getElem?_cons_zero, h4, toCK_rel hx h1]
      · rw [if_neg hqi] at h4
        refine .inr ⟨?_, h4⟩
        simp only [List.length_cons]
        rintro ⟨a, b, c⟩
        apply hqi
        refine ⟨a, ?_⟩
        rcases Nat.lt_or_ge j i with hlt | hge
        · exact absurd ⟨a, by omega, by omega⟩ h3
        · omega
theorem recStore_sound {t : TypeId} {n s : Nat} {l x : SE} {ks : List CK} {e : TypeId} {j off : Nat} {v y : AV} {h h' : AH} {w : World} {b : Nat} {s0 : Nat} {u : Value} (hl : aloud.recStore n l x ks e j y h = some (.val v h')) (hr : HR ρ h.get h.next w)
    (hs : sizeT P t = some s) (hlen : y.cells.length = s) (h1 : allOne y.cells = true) (hg : h.get n = some (.recs l ks e)) (hb : ρ n = some (b, s0)) (hu : VR ρ y u) (hoff : off = (x.ev Nums.σ).toNat * ks.length + j) :
    ∃ w', (storeVar t ⟨b, off, none⟩ u).run P w = .ok () w' ∧ Stp ρ h.get h.next w ρ h'.get h'.next w' ∧ v = und := by
  subst hoff
  unfold aloud.recStore at hl
  split at hl <;> first | (cases hl; done) | skip
  rename_i hw
  obtain ⟨w1, w2⟩ := within_ok hw
  rw [lenE_ev] at w2
  have hrow : (x.ev Nums.σ).toNat < l.evN Nums.σ := by omega
  split at hl <;> first | (cases hl; done) | skip
  rename_i l' hset
  simp only [Option.some.injEq, AN.val.injEq] at hl
  obtain ⟨rfl, rfl⟩ := hl
  obtain ⟨b', s', hb', hO⟩ := hr.obj _ _ hg
  rw [hb] at hb'
  cases hb'
  obtain ⟨cur, hcur, hcs, hk, hat⟩ := hO
  have hc := hu.cells
  have hcl : u.cells.toList.length = s := by rw [← hc.len, hlen]
  have hsz : u.cells.size = s := by simpa using hcl
  have hrows : (x.ev Nums.σ).toNat * ks.length + ks.length ≤ l.evN Nums.σ * ks.length := by
    have := Nat.mul_le_mul_right ks.length (show (x.ev Nums.σ).toNat + 1 ≤ l.evN Nums.σ from hrow)
    rwa [Nat.add_mul, Nat.one_mul] at this
  rcases recSet_sound hset hc with ⟨hN, hfit0⟩ | ⟨he, hll⟩
  · have hfit : (x.ev Nums.σ).toNat * ks.length + j + u.cells.toList.length ≤ cur.size := by omega
    have hst := run_storeCells_at P b ((x.ev Nums.σ).toNat * ks.length + j) e u.cells.toList 0 cur w hcur (by simpa using hfit) (hc.ones h1)
    simp only [Nat.add_zero] at hst
    refine ⟨w.setRow b (cur.toList.take ((x.ev Nums.σ).toNat * ks.length + j) ++ u.cells.toList ++ cur.toList.drop ((x.ev Nums.σ).toNat * ks.length + j + u.cells.toList.length)).toArray, ?_, ?_, rfl⟩
    · simp only [storeVar, Sem.run_bind, Result.andThen_ok, sizeT_run hs w, hsz, ne_eq, not_true_eq_false, if_false, hst]
    · rw [put_next]
      refine Stp.change hr (n := n) (b := b) (s := s0) (by rw [hg]; rfl) hb (o := .recs l' ks e) ?_ rfl rfl rfl (by simp) (fun q _ hq => setRow_other w b q _ hq) ?_
      · rw [setRow_heap w b cur _ e (0, 0) hcur]
        refine ⟨_, rfl, by rw [splice_size hfit]; exact hcs, by rw [hN]; exact hk, fun q i k hq hki => ?_⟩
        rw [hN] at hq
        have hi : i < ks.length := (List.getElem?_eq_some_iff.1 hki).1
        rw [List.getElem?_toArray, splice_get (by simpa using hfit)]
        rcases recSet_at hset hc q i k hki with ⟨h3, h4, h5, h6⟩ | ⟨h3, h4⟩
        · subst h3
          rw [if_pos ⟨by omega, by omega⟩, ← h6]
          congr 1
          omega
        · have hne : ¬ ((x.ev Nums.σ).toNat * ks.length + j ≤ q * ks.length + i ∧ q * ks.length + i < (x.ev Nums.σ).toNat * ks.length + j + u.cells.toList.length) := by
            rintro ⟨a1, a2⟩
            apply h3
            have hq2 : q = (x.ev Nums.σ).toNat := by
              rcases Nat.lt_trichotomy q (x.ev Nums.σ).toNat with c | c | c
              · exfalso
                have := Nat.mul_le_mul_right ks.length (show q + 1 ≤ (x.ev Nums.σ).toNat from c)
                rw [Nat.add_mul, Nat.one_mul] at this
                omega
              · exact c
              · exfalso
                have := Nat.mul_le_mul_right ks.length (show (x.ev Nums.σ).toNat + 1 ≤ q from c)
                rw [Nat.add_mul, Nat.one_mul] at this
                omega
            subst hq2
            exact ⟨rfl, by omega, by omega⟩
          rw [if_neg hne, h4, Array.getElem?_toList]
          exact hat q i k hq hki
      · intro q o' ho'
        rcases put_spec ho' with ⟨q1, q2⟩ | q1
        · exact .inl ⟨q1, by cases q2; rfl⟩
        · exact .inr q1
  · subst hll
    have hs0 : s = 0 := by rw [← hlen, he]; rfl
    have hnil : u.cells.toList = [] := List.eq_nil_of_length_eq_zero (by rw [hcl, hs0])
    have hfit : (0 : Nat) + u.cells.toList.length ≤ cur.size := by rw [hnil]; simp
    refine ⟨w, ?_, ?_, rfl⟩
    · simp only [storeVar, Sem.run_bind, Result.andThen_ok, sizeT_run hs w, hsz, ne_eq, not_true_eq_false, if_false]
      have : u.cells = #[] := by apply Array.ext'; simpa using hnil
      rw [this]
      rfl
    · rw [put_next]
      refine Stp.change hr (n := n) (b := b) (s := s0) (by rw [hg]; rfl) hb (o := .recs l' ks e) ⟨cur, hcur, hcs, hk, hat⟩ rfl rfl rfl (Nat.le_refl _) (fun q _ hq => rfl) ?_
      intro q o' ho'
      rcases put_spec ho' with ⟨q1, q2⟩ | q1
      · exact .inl ⟨q1, by cases q2; rfl⟩
      · exact .inr q1
theorem loud_val {o : Oper} {a : Act} {vs : List AV} {v : AV} {h h' : AH} {w : World} (hl : aloud P o.op vs h = some (.val v h')) (hr : HR ρ h.get h.next w) (hv : VRs ρ vs (o.op.operands.toList.map a.eval)) : LoudVal P ρ a o h w v h' := by
  unfold LoudVal execOp
  generalize o.op = op at hl hv
  have undR : ∀ ρ : Ren, VR ρ und undef := fun ρ => by unfold und VR; exact ⟨#[], rfl, VRs.nil⟩
  cases op with
  | store t p x =>
    simp only [aloud] at hl
    split at hl <;> first | (cases hl; done) | skip
    case h_2 =>
      rename_i n q z j y
      split at hl <;> first | (cases hl; done) | skip
      rename_i s hs
      split at hl <;> first | (cases hl; done) | skip
      rename_i hlen
      have hlen := Nat.eq_of_beq_eq_true hlen
      split at hl <;> first | (cases hl; done) | skip
      rename_i h1
      split at hl <;> first | (cases hl; done) | skip
      rename_i l ks e hg
      split at hl <;> first | (cases hl; done) | skip
      rename_i hz
      have hz := Nat.eq_of_beq_eq_true hz
      subst hz
      obtain ⟨y1, y2, hy, hr1, hr2⟩ := hv.two
      simp [Op.operands] at hy
      obtain ⟨e1, e2⟩ := hy
      unfold VR at hr1
      obtain ⟨b, s0, hb, rfl⟩ := hr1
      obtain ⟨w', hrun, hst, rfl⟩ := recStore_sound hl hr hs hlen h1 hg hb hr2 rfl
      refine ⟨ρ, undef, w', .skip, ?_, .inr ⟨rfl, rfl⟩, hst, undR ρ⟩
      simp only [e1, e2, Instr.storeAt, Instr.sureAddr, Sem.run_bind, Sem.run_pure, Result.andThen_ok, hrun]
    rename_i n off y
    split at hl <;> first | (cases hl; done) | skip
    rename_i s hs
    split at hl <;> first | (cases hl; done) | skip
    rename_i hlen
    have hlen := Nat.eq_of_beq_eq_true hlen
    split at hl <;> first | (cases hl; done) | skip
    rename_i h1
    split at hl <;> first | (cases hl; done) | skip
    rotate_left
    · rename_i l ks e hg
      split at hl <;> first | (cases hl; done) | skip
      obtain ⟨y1, y2, hy, hr1, hr2⟩ := hv.two
      simp [Op.operands] at hy
      obtain ⟨e1, e2⟩ := hy
      obtain ⟨b, s0, hb, rfl⟩ := hr1.ptr_inv
      obtain ⟨w', hrun, hst, rfl⟩ := recStore_sound (off := off) hl hr hs hlen h1 hg hb hr2 (by simp only [SE.ev]; exact recAt_eq off)
      refine ⟨ρ, undef, w', .skip, ?_, .inr ⟨rfl, rfl⟩, hst, undR ρ⟩
      simp only [e1, e2, Instr.storeAt, Instr.sureAddr, Sem.run_bind, Sem.run_pure, Result.andThen_ok, hrun]
    rename_i cs k e hg
    split at hl <;> first | (cases hl; done) | skip
    rename_i hk
    have hk : off + s ≤ k := Nat.le_of_ble_eq_true hk
    simp only [Option.some.injEq, AN.val.injEq] at hl
    obtain ⟨rfl, rfl⟩ := hl
    obtain ⟨y1, y2, hy, hr1, hr2⟩ := hv.two
    simp [Op.operands] at hy
    obtain ⟨e1, e2⟩ := hy
    obtain ⟨b, s0, hb, rfl⟩ := hr1.ptr_inv
    obtain ⟨b', s', hb', hO⟩ := hr.obj _ _ hg
    rw [hb] at hb'
    cases hb'
    obtain ⟨cur, hcur, hcs, hks, hcells⟩ := hO
    have hc := hr2.cells
    have hcl : y2.cells.toList.length = s := by rw [← hc.len, hlen]
    have hfit : off + y2.cells.toList.length ≤ cur.size := by rw [hcl]; omega
    have hst := run_storeCells_at P b off e y2.cells.toList 0 cur w hcur (by simpa using hfit) (hc.ones h1)
    simp only [Nat.add_zero] at hst
    refine ⟨ρ, undef, w.setRow b (cur.toList.take off ++ y2.cells.toList ++ cur.toList.drop (off + y2.cells.toList.length)).toArray, .skip, ?_, .inr ⟨rfl, rfl⟩, ?_, undR ρ⟩
    · have hsz : y2.cells.size = s := by simpa using hcl
      simp only [e1, e2, Instr.storeAt, Instr.sureAddr, storeVar, Sem.run_bind, Sem.run_pure, Result.andThen_ok, sizeT_run hs w, hsz, ne_eq, not_true_eq_false, if_false, hst]
    · rw [put_next]
      refine Stp.change hr (n := n) (b := b) (s := s0) (by rw [hg]; rfl) hb (o := .cells (setN cs off y.cells) k e) ?_ rfl rfl rfl (by simp) (fun q _ hq => setRow_other w b q _ hq) ?_
      · rw [setRow_heap w b cur _ e (0, 0) hcur]
        exact ⟨_, rfl, by rw [splice_size hfit]; exact hcs, hks, splice_ok hcells hc h1 hfit⟩
      · intro q o' ho'
        rcases put_spec ho' with ⟨q1, q2⟩ | q1
        · exact .inl ⟨q1, by cases q2; rfl⟩
        · exact .inr q1
  | mapUpdate t m k x =>
    simp only [aloud] at hl
    obtain ⟨w', hrun, hst, rfl⟩ := mapPut_sound hl hr (u1 := a.eval m) (u2 := a.eval k) (u3 := a.eval x) (by simpa [Op.operands] using hv)
    exact ⟨ρ, undef, w', .skip, by simp [hrun], .inr ⟨rfl, rfl⟩, hst, undR ρ⟩
  | insert t m k x =>
    simp only [aloud] at hl
    obtain ⟨w', hrun, hst, rfl⟩ := mapPut_sound hl hr (u1 := a.eval m) (u2 := a.eval k) (u3 := a.eval x) (by simpa [Op.operands] using hv)
    exact ⟨ρ, undef, w', .skip, by simp [hrun], .inr ⟨rfl, rfl⟩, hst, undR ρ⟩
  | mapEntry t m k =>
    simp only [aloud] at hl
    obtain ⟨y, w', hrun, hst, hvr⟩ := mapEnt_sound hl hr (u1 := a.eval m) (u2 := a.eval k) (by simpa [Op.operands] using hv)
    exact ⟨ρ, y, w', .value y, by simp [hrun], .inl rfl, hst, hvr⟩
  | entryStore t m k x =>
    simp only [aloud] at hl
    obtain ⟨w', hrun, hst, rfl⟩ := entSto_sound (P := P) (t := t) hl hr (u1 := a.eval m) (u2 := a.eval k) (u3 := a.eval x) (by simpa [Op.operands] using hv)
    exact ⟨ρ, undef, w', .skip, by simp [hrun], .inr ⟨rfl, rfl⟩, hst, undR ρ⟩
  | range t x =>
    simp only [aloud] at hl
    split at hl <;> first | (cases hl; done) | skip
    rename_i kt et hu
    obtain ⟨ρ', y, w', hrun, hst, hvr⟩ := arange_sound hu hl hr (u1 := a.eval x) (by simpa [Op.operands] using hv)
    exact ⟨ρ', y, w', .value y, by simp [hrun], .inl rfl, hst, hvr⟩
  | next x st =>
    simp only [aloud] at hl
    split at hl <;> first | (cases hl; done) | skip
    obtain ⟨y, w', hrun, hst, hvr⟩ := anext_sound (P := P) (ty := o.type) hl hr (u1 := a.eval x) (by simpa [Op.operands] using hv)
    exact ⟨ρ, y, w', .value y, by simp [hrun], .inl rfl, hst, hvr⟩
  | call c =>
    simp only [aloud] at hl
    obtain ⟨callee, args, argTypes⟩ := c
    cases callee with
    | builtin b =>
      have hop : (Op.call ⟨.builtin b, args, argTypes⟩).operands = args := by simp [Op.operands, Call.operands]
      rw [hop] at hv
      cases b <;> first
        | (cases hl; done)
        | skip
      rotate_left
      · dsimp only at hl
        split at hl <;> first | (cases hl; done) | skip
        rename_i s x t t'
        obtain ⟨y1, y2, hy, hr1, hr2⟩ := hv.two
        obtain ⟨y, w', hrun, hst, hvr⟩ := acopy_sound (ty := o.type) (t' := t') hl hr hr1 hr2
        refine ⟨ρ, y, w', .value y, ?_, .inl rfl, hst, hvr⟩
        have harg : args.map a.eval = #[y1, y2] := by
          apply Array.ext'
          rw [Array.toList_map, hy]
        simp only [resolve, invoke, builtin, Sem.run_bind, Sem.run_pure, Result.andThen_ok, harg]
        rw [show (Builtin.copy_ { toList := [t, t'] } o.type #[y1, y2]).run P w = .ok y w' from hrun]
        rfl
      · dsimp only at hl
        split at hl <;> first | (cases hl; done) | skip
        rename_i t hat
        have h2 : ∃ u1 u2, args.toList.map a.eval = [u1, u2] := by
          unfold aloud.mapDel at hl
          split at hl <;> first | (cases hl; done) | skip
          split at hl <;> first | (cases hl; done) | skip
          split at hl <;> first | (cases hl; done) | skip
          obtain ⟨y1, y2, hy, _, _⟩ := hv.two
          exact ⟨y1, y2, hy⟩
        obtain ⟨u1, u2, hy⟩ := h2
        rw [hy] at hv
        obtain ⟨w', hrun, hst, rfl⟩ := mapDel_sound (ty := o.type) hat hl hr hv
        refine ⟨ρ, .tuple #[], w', .value (.tuple #[]), ?_, .inl rfl, hst, by unfold und VR; exact ⟨_, rfl, VRs.nil⟩⟩
        have harg : args.map a.eval = #[u1, u2] := by
          apply Array.ext'
          rw [Array.toList_map, hy]
        simp only [resolve, invoke, builtin, Sem.run_bind, Sem.run_pure, Result.andThen_ok, harg]
        rw [hrun]
        rfl
      dsimp only at hl
      split at hl <;> first | (cases hl; done) | skip
      rename_i s x t t'
      split at hl
      · obtain ⟨y1, y2, hy, hr1, hr2⟩ := hv.two
        obtain ⟨ρ', y, w', hrun, hst, hvr⟩ := azeros_sound (ty := o.type) hl hr hr1 hr2
        refine ⟨ρ', y, w', .value y, ?_, .inl rfl, hst, hvr⟩
        have harg : args.map a.eval = #[y1, y2] := by
          apply Array.ext'
          rw [Array.toList_map, hy]
        simp only [resolve, invoke, builtin, Sem.run_bind, Sem.run_pure, Result.andThen_ok, harg]
        rw [show (Builtin.append_ { toList := [t, t'] } o.type #[y1, y2]).run P w = .ok y w' from hrun]
        rfl
      rename_i htt
      have htt := Nat.eq_of_beq_eq_true htt
      subst htt
      split at hl <;> first | (cases hl; done) | skip
      rename_i v' h1 ha
      simp only [Option.some.injEq, AN.val.injEq] at hl
      obtain ⟨rfl, rfl⟩ := hl
      obtain ⟨y1, y2, hy, hr1, hr2⟩ := hv.two
      obtain ⟨ρ', y, w', hrun, hst, hvr⟩ := append_sound (ty := o.type) ha hr hr1 hr2
      refine ⟨ρ', y, w', .value y, ?_, .inl rfl, hst, hvr⟩
      have harg : args.map a.eval = #[y1, y2] := by
        apply Array.ext'
        rw [Array.toList_map, hy]
      simp only [resolve, invoke, builtin, Sem.run_bind, Sem.run_pure, Result.andThen_ok, harg]
      rw [show (Builtin.append_ { toList := [t, t] } o.type #[y1, y2]).run P w = .ok y w' from hrun]
      rfl
    | value f =>
      dsimp only at hl
      split at hl <;> cases hl
    | invoke r m => cases hl
  | _ => simp [aloud] at hl
theorem loud_call {o : Oper} {a : Act} {vs : List AV} {f : FuncId} {args : List AV} {h : AH} (hl : aloud P o.op vs h = some (.call f args)) (hv : VRs ρ vs (o.op.operands.toList.map a.eval)) (hf : FnOk P f) :
    ∃ args' : Array Value, VRs ρ args args'.toList ∧ ∀ w, (execOp a.eval o).run P w = .ok (.enter f args') w := by
  unfold execOp
  generalize o.op = op at hl hv
  cases op with
  | store t p x =>
    simp only [aloud] at hl
    have hno : ∀ {n : Nat} {l x : SE} {ks : List CK} {e : TypeId} {j : Nat} {v : AV}, aloud.recStore n l x ks e j v h ≠ some (.call f args) := by
      intro n l x ks e j v hc
      unfold aloud.recStore at hc
      split at hc <;> first | (cases hc; done) | skip
      split at hc <;> cases hc
    split at hl <;> first | (cases hl; done) | skip
    · split at hl <;> first | (cases hl; done) | skip
      split at hl <;> first | (cases hl; done) | skip
      split at hl <;> first | (cases hl; done) | skip
      split at hl <;> first | (cases hl; done) | skip
      · split at hl <;> cases hl
      · split at hl <;> first | (cases hl; done) | skip
        exact absurd hl hno
    · split at hl <;> first | (cases hl; done) | skip
      split at hl <;> first | (cases hl; done) | skip
      split at hl <;> first | (cases hl; done) | skip
      split at hl <;> first | (cases hl; done) | skip
      split at hl <;> first | (cases hl; done) | skip
      exact absurd hl hno
  | mapUpdate t m k x =>
    simp only [aloud, aloud.mapPut] at hl
    split at hl <;> first | (cases hl; done) | skip
    split at hl <;> first | (cases hl; done) | skip
    split at hl <;> first | (cases hl; done) | skip
    split at hl <;> cases hl
  | insert t m k x =>
    simp only [aloud, aloud.mapPut] at hl
    split at hl <;> first | (cases hl; done) | skip
    split at hl <;> first | (cases hl; done) | skip
    split at hl <;> first | (cases hl; done) | skip
    split at hl <;> cases hl
  | mapEntry t m k =>
    simp only [aloud, aloud.mapEnt] at hl
    split at hl <;> first | (cases hl; done) | skip
    split at hl <;> first | (cases hl; done) | skip
    split at hl <;> first | (cases hl; done) | skip
    split at hl <;> first | (cases hl; done) | skip
    · split at hl <;> cases hl
    · split at hl <;> cases hl
  | entryStore t m k x =>
    simp only [aloud, aloud.entSto] at hl
    split at hl <;> first | (cases hl; done) | skip
    split at hl <;> first | (cases hl; done) | skip
    split at hl <;> cases hl
  | range t x =>
    simp only [aloud, aloud.arange] at hl
    split at hl <;> first | (cases hl; done) | skip
    split at hl <;> first | (cases hl; done) | skip
    · split at hl <;> cases hl
    · split at hl <;> first | (cases hl; done) | skip
      split at hl <;> cases hl
  | next x st =>
    simp only [aloud, aloud.anext] at hl
    split at hl <;> first | (cases hl; done) | skip
    split at hl <;> first | (cases hl; done) | skip
    split at hl <;> first | (cases hl; done) | skip
    split at hl <;> first | (cases hl; done) | skip
    split at hl <;> first | (cases hl; done) | skip
    split at hl <;> first | (cases hl; done) | skip
    split at hl <;> cases hl
  | call c =>
    simp only [aloud] at hl
    obtain ⟨callee, cargs, argTypes⟩ := c
    cases callee with
    | builtin b =>
      cases b <;> first
        | (cases hl; done)
        | skip
      rotate_left
      · dsimp only at hl
        split at hl <;> first | (cases hl; done) | skip
        unfold aloud.acopy at hl
        split at hl <;> first | (cases hl; done) | skip
        split at hl <;> first | (cases hl; done) | skip
        split at hl <;> first | (cases hl; done) | skip
        split at hl <;> first | (cases hl; done) | skip
        split at hl <;> first | (cases hl; done) | skip
        split at hl <;> first | (cases hl; done) | skip
        split at hl <;> first | (cases hl; done) | skip
        split at hl <;> cases hl
      · simp only [aloud.mapDel] at hl
        split at hl <;> first | (cases hl; done) | skip
        split at hl <;> first | (cases hl; done) | skip
        split at hl <;> first | (cases hl; done) | skip
        split at hl <;> first | (cases hl; done) | skip
        split at hl <;> cases hl
      dsimp only at hl
      split at hl <;> first | (cases hl; done) | skip
      split at hl
      · unfold aloud.azeros at hl
        split at hl <;> first | (cases hl; done) | skip
        split at hl <;> first | (cases hl; done) | skip
        split at hl <;> first | (cases hl; done) | skip
        split at hl <;> first | (cases hl; done) | skip
        split at hl <;> first | (cases hl; done) | skip
        split at hl <;> first | (cases hl; done) | skip
        split at hl <;> first | (cases hl; done) | skip
        split at hl <;> first | (cases hl; done) | skip
        split at hl <;> cases hl
      split at hl <;> cases hl
    | value fv =>
      dsimp only at hl
      split at hl <;> first | (cases hl; done) | skip
      rename_i g x y l
      simp only [Option.some.injEq, AN.call.injEq] at hl
      obtain ⟨rfl, rfl⟩ := hl
      have hop : (Op.call ⟨.value fv, cargs, argTypes⟩).operands.toList.map a.eval = a.eval fv :: (cargs.map a.eval).toList := by simp [Op.operands, Call.operands]
      rw [hop] at hv
      obtain ⟨u, us, hy, h1, h2⟩ := hv.uncons
      simp only [List.cons.injEq] at hy
      obtain ⟨rfl, rfl⟩ := hy
      unfold VR at h1
      obtain ⟨fa, ca, hfv, hfa, hca⟩ := h1
      obtain ⟨fn, c, q1, q2, q3⟩ := hf
      refine ⟨fa ++ cargs.map a.eval ++ ca, ?_, fun w => ?_⟩
      · simp only [Array.toList_append, List.append_assoc]
        exact hfa.append (h2.append hca)
      · have q2' : ¬ fn.name = "runtime.NumGoroutine" := by simpa using q2
        simp [resolve, hfv, Deferred.ofValue, invoke, callFunc, q1, q2', q3]
    | invoke r m => cases hl
  | _ => simp [aloud] at hl
/-- what a call gives -/
def CallS (P : Program) (call : FuncId → List AV → AH → Option (AV × AH)) : Prop :=
  ∀ f args h v h', call f args h = some (v, h') → FnOk P f ∧ ∀ (ρ : Ren) (w : World) (args' : Array Value), HR ρ h.get h.next w → VRs ρ args args'.toList →
    Calls P f args' w fun e w' => ∃ ρ' x, e = .returned x ∧ VR ρ' v x ∧ Stp ρ h.get h.next w ρ' h'.get h'.next w'
theorem loudOp_wp {call : FuncId → List AV → AH → Option (AV × AH)} (hc : CallS P call) {o : Oper} {a : Act} {vs : List AV} {v : AV} {h h' : AH} {w : World} {K : Act → World → Prop} {Q : Exit → Act → World → Prop}
    (hk : kd o.op = .loud) (hop : opA P call o.op vs h = some (v, h')) (hr : HR ρ h.get h.next w) (hv : VRs ρ vs (o.op.operands.toList.map a.eval))
    (hK : ∀ ρ' x w', Stp ρ h.get h.next w ρ' h'.get h'.next w' → VR ρ' v x → K (a.put o.dst x) w') : o.wp P a w K Q := by
  unfold opA at hop
  rw [hk] at hop
  dsimp only at hop
  split at hop <;> first | (cases hop; done) | skip
  · rename_i v1 h1 hl
    simp only [Option.some.injEq, Prod.mk.injEq] at hop
    obtain ⟨rfl, rfl⟩ := hop
    obtain ⟨ρ', x, w', nx, hrun, hnx, hst, hvr⟩ := loud_val hl hr hv
    unfold Oper.wp
    rw [hrun]
    rcases hnx with rfl | ⟨rfl, rfl⟩
    · exact hK ρ' x w' hst hvr
    · exact hK ρ' undef w' hst hvr
  · rename_i f args hl
    obtain ⟨hf, hcall⟩ := hc _ _ _ _ _ hop
    obtain ⟨args', hargs, hrun⟩ := loud_call hl hv hf
    unfold Oper.wp
    rw [hrun w]
    refine (hcall ρ w args' hr hargs).mono ?_
    rintro e w' ⟨ρ', x, rfl, hvr, hst⟩
    exact hK ρ' x w' hst hvr
/-- one operation, where the text puts it -/
theorem op_wp {call : FuncId → List AV → AH → Option (AV × AH)} (hc : CallS P call) {o : Oper} {a : Act} {vs : List AV} {v : AV} {h h' : AH} {w : World} {K : Act → World → Prop} {Q : Exit → Act → World → Prop}
    (hop : opA P call o.op vs h = some (v, h')) (hr : HR ρ h.get h.next w) (hv : VRs ρ vs (o.op.operands.toList.map a.eval))
    (hK : ∀ ρ' x w', Stp ρ h.get h.next w ρ' h'.get h'.next w' → VR ρ' v x → K (a.put o.dst x) w') : o.wp P a w K Q := by
  cases hk : kd o.op with
  | pure =>
    unfold opA at hop
    rw [hk] at hop
    dsimp only at hop
    split at hop <;> first | (cases hop; done) | skip
    rename_i u hu
    simp only [Option.some.injEq, Prod.mk.injEq] at hop
    obtain ⟨rfl, rfl⟩ := hop
    obtain ⟨x, hx, hrun⟩ := pure_sound hu hv
    unfold Oper.wp
    rw [hrun w]
    exact hK ρ x w (Stp.refl hr) hx
  | read =>
    unfold opA at hop
    rw [hk] at hop
    dsimp only at hop
    split at hop <;> first | (cases hop; done) | skip
    rename_i u hu
    simp only [Option.some.injEq, Prod.mk.injEq] at hop
    obtain ⟨rfl, rfl⟩ := hop
    obtain ⟨x, hx, hrun⟩ := read_sound hr hu hv
    unfold Oper.wp
    rw [hrun]
    exact hK ρ x w (Stp.refl hr) hx
  | alloc =>
    unfold opA at hop
    rw [hk] at hop
    dsimp only at hop
    split at hop <;> first | (cases hop; done) | skip
    rename_i ao k ha
    split at hop <;> first | (cases hop; done) | skip
    rename_i h1 hfr
    simp only [Option.some.injEq, Prod.mk.injEq] at hop
    obtain ⟨rfl, rfl⟩ := hop
    obtain ⟨obj, s, hO, hrun⟩ := alloc_sound ha hv
    obtain ⟨x, hrx, hx⟩ := hrun w
    obtain ⟨hn, hg⟩ := fresh_spec hfr
    obtain ⟨hst, hup⟩ := Stp.new (w' := w.alloc obj) hr h.get (fun _ _ h => h) hn hg hO rfl rfl rfl rfl
    unfold Oper.wp
    rw [hrx]
    exact hK _ x _ hst (hx _ _ hup)
  | loud => exact loudOp_wp hc hk hop hr hv hK
end
end Go.Proofs.YtfgomgodfcdijaaGreatDoor.Ex
