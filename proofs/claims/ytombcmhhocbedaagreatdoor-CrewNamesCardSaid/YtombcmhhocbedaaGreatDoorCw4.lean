/-
  Texts of this claim, joined. No condition.
-/
import Derived.Test.YtombcmhhocbedaaGreatDoorCw3
import Derived.Orders
/-
  The runner: one operation, of whatever kind. No condition.
-/
namespace Go.Proofs.YtombcmhhocbedaaGreatDoor.Ex
open Go
variable [Nums]
section
variable {P : Program} {ρ ρ' : Ren}
theorem MR.modify {nv : AV} {key y : Value} : ∀ {es : List (AV × AV)} {xs : List MapEntry} (j : Nat), MR ρ es xs → (∀ x, xs[j]? = some x → x.key = key) → VR ρ nv y → MR ρ (es.modify j fun p => (p.1, nv)) (xs.modify j fun e => { e with key := key, val := y })
  | [], xs, j, h, _, _ => by
    have : xs = [] := h
    subst this
    simpa using h
  | p :: es, xs, 0, h, hk, hv => by
    obtain ⟨x, xs', rfl, h1, h2, h3⟩ := h
    have := hk x rfl
    exact ⟨_, xs', rfl, by rw [← this]; exact h1, hv, h3⟩
  | p :: es, xs, j + 1, h, hk, hv => by
    obtain ⟨x, xs', rfl, h1, h2, h3⟩ := h
    simp only [List.modify_succ_cons]
    exact ⟨x, _, rfl, h1, h2, MR.modify j h3 (fun z hz => hk z (by simpa using hz)) hv⟩
theorem MR.erase : ∀ {es : List (AV × AV)} {xs : List MapEntry} (j : Nat), MR ρ es xs → MR ρ (es.eraseIdx j) (xs.eraseIdx j)
  | [], xs, j, h => by
    have : xs = [] := h
    subst this
    simpa using h
  | p :: es, xs, 0, h => by
    obtain ⟨x, xs', rfl, h1, h2, h3⟩ := h
    simpa using h3
  | p :: es, xs, j + 1, h => by
    obtain ⟨x, xs', rfl, h1, h2, h3⟩ := h
    simp only [List.eraseIdx_cons_succ]
    exact ⟨x, _, rfl, h1, h2, MR.erase j h3⟩
theorem MR.push : ∀ {es : List (AV × AV)} {xs : List MapEntry} {p : AV × AV} {e : MapEntry}, MR ρ es xs → VR ρ p.1 e.key → VR ρ p.2 e.val → MR ρ (es ++ [p]) (xs ++ [e])
  | [], xs, p, e, h, h1, h2 => by
    have : xs = [] := h
    subst this
    exact ⟨e, [], rfl, h1, h2, rfl⟩
  | q :: es, xs, p, e, h, h1, h2 => by
    obtain ⟨e', xs', rfl, k1, k2, k3⟩ := h
    exact ⟨e', _, rfl, k1, k2, MR.push k3 h1 h2⟩
omit [Nums] in
theorem setObj_map {r : Nat} {w : World} {xs : Array MapEntry} {c : Nat} (h : w.heap[r]? = some (.map xs c)) (o : Obj) : (setObj r o).run P w = .ok () { w with heap := w.heap.setIfInBounds r o } := by
  simp only [setObj, Sem.run, h]
omit [Nums] in
theorem sameBits_int (n : Nat) (k : IntKind) (i : Int) : Instr.sameBits n (.int k i) (.int k i) = true := by
  unfold Instr.sameBits
  simp
omit [Nums] in
theorem born_modify (f : MapEntry → MapEntry) (hf : ∀ e, (f e).born = e.born) : ∀ (l : List MapEntry) (j : Nat), (l.modify j f).map (·.born) = l.map (·.born)
  | [], j => by simp
  | e :: l, 0 => by simp [hf]
  | e :: l, j + 1 => by simp [born_modify f hf l j]
theorem mapPut_sound {t : TypeId} {vs : List AV} {h h' : AH} {v : AV} {w : World} {u1 u2 u3 : Value} (ha : aloud.mapPut P t vs h = some (.val v h')) (hr : HR ρ h.get h.next w) (hv : VRs ρ vs [u1, u2, u3]) :
    ∃ w', (Instr.mapUpdate t u1 u2 u3).run P w = .ok () w' ∧ Stp ρ h.get h.next w ρ h'.get h'.next w' ∧ v = und := by
  unfold aloud.mapPut at ha
  split at ha <;> first | (cases ha; done) | skip
  rename_i kt et hu
  split at ha <;> first | (cases ha; done) | skip
  rename_i d hku
  split at ha <;> first | (cases ha; done) | skip
  rename_i n ky nv
  obtain ⟨y1, y2, y3, hy, h1, h2, h3⟩ := hv.three
  simp only [List.cons.injEq, and_true] at hy
  obtain ⟨rfl, rfl, rfl⟩ := hy
  unfold VR at h1
  obtain ⟨b, s, hb, rfl⟩ := h1
  split at ha <;> first | (cases ha; done) | skip
  rename_i es bs ck hg
  obtain ⟨b', s', hb', hO⟩ := hr.obj _ _ hg
  rw [hb] at hb'
  cases hb'
  obtain ⟨xs, hx, hm, hbs⟩ := hO
  have hlt : b < w.heap.size := (Array.getElem?_eq_some_iff.1 hx).1
  obtain ⟨r0, hl0⟩ : ∃ r0, lookAV es ky = some r0 := by
    cases hl : lookAV es ky with
    | none => rw [hl] at ha; cases ha
    | some r => exact ⟨r, rfl⟩
  obtain ⟨k, i, rfl, hfound⟩ := lookAV_sound (d := d) hl0 hm h2
  have hck := checkKey_int (P := P) false 9999 (d := d) (k := k) (i := i) hku w
  rw [hl0] at ha
  split at ha <;> first | (cases ha; done) | skip
  · rename_i j u heq
    cases heq
    simp only [Option.some.injEq, AN.val.injEq] at ha
    obtain ⟨rfl, rfl⟩ := ha
    obtain ⟨e, g1, g2, g3⟩ : ∃ e : MapEntry, Instr.findNow (.int d) (.int k i) xs.toList 0 = some (some (j, e.val)) ∧ xs.toList[j]? = some e ∧ e.key = .int k i := by
      rcases hfound with ⟨g, _⟩ | ⟨j', v', x', g, g1, g2, g3, g4⟩
      · cases g
      · cases g
        exact ⟨x', g1, g2, g3⟩
    have hfk := findKey_run hku g1 w
    have hej : xs[j]? = some e := by simpa using g2
    refine ⟨{ w with heap := w.heap.setIfInBounds b (.map (xs.modify j fun e => { e with key := .int k i, val := u3 }) ck) }, ?_, ?_, rfl⟩
    · unfold Instr.mapUpdate
      have hks : (Instr.keyThatStays (.int k i) (.int k i)).run P w = .ok (.int k i) w := by
        unfold Instr.keyThatStays
        rw [sameBits_int, if_pos rfl]
        rfl
      simp only [Sem.run_bind, run_underlying hu w, Result.andThen_ok, getObj_map hx, hck, hfk, hej, Option.map_some, Option.getD_some, g3, hks, setObj_map hx]
    · rw [put_next]
      refine Stp.change hr (n := n) (b := b) (s := s) (by rw [hg]; rfl) hb (o := .map (es.modify j fun p => (p.1, nv)) bs ck) ?_ rfl rfl rfl (by simp) (fun q _ hq => by simp [Array.getElem?_setIfInBounds, Ne.symm hq]) ?_
      · refine ⟨xs.modify j fun e => { e with key := .int k i, val := u3 }, by simp [hlt], ?_, ?_⟩
        · have := MR.modify (ρ := ρ) (nv := nv) (key := .int k i) (y := u3) j hm (fun z hz => by rw [g2] at hz; cases hz; exact g3) h3
          simpa using this
        · rw [← hbs]
          simpa using born_modify (fun e => { e with key := .int k i, val := u3 }) (fun _ => rfl) xs.toList j
      · intro q o' ho'
        rcases put_spec ho' with ⟨q1, q2⟩ | q1
        · exact .inl ⟨q1, by cases q2; rfl⟩
        · exact .inr q1
  · rename_i heq
    cases heq
    simp only [Option.some.injEq, AN.val.injEq] at ha
    obtain ⟨rfl, rfl⟩ := ha
    have g1 : Instr.findNow (.int d) (.int k i) xs.toList 0 = some none := by
      rcases hfound with ⟨_, g⟩ | ⟨_, _, _, g, _⟩
      · exact g
      · cases g
    have hfk := findKey_run hku g1 w
    refine ⟨{ w with heap := w.heap.setIfInBounds b (.map (xs.push { key := .int k i, val := u3, born := ck }) (ck + 1)) }, ?_, ?_, rfl⟩
    · unfold Instr.mapUpdate
      simp only [Sem.run_bind, run_underlying hu w, Result.andThen_ok, getObj_map hx, hck, hfk, setObj_map hx]
    · rw [put_next]
      refine Stp.change hr (n := n) (b := b) (s := s) (by rw [hg]; rfl) hb (o := .map (es ++ [(ky, nv)]) (bs ++ [ck]) (Nat.add ck 1)) ?_ rfl rfl rfl (by simp) (fun q _ hq => by simp [Array.getElem?_setIfInBounds, Ne.symm hq]) ?_
      · refine ⟨xs.push { key := .int k i, val := u3, born := ck }, by simp [hlt], ?_, ?_⟩
        · simp only [Array.toList_push]
          exact hm.push h2 h3
        · simp [← hbs]
      · intro q o' ho'
        rcases put_spec ho' with ⟨q1, q2⟩ | q1
        · exact .inl ⟨q1, by cases q2; rfl⟩
        · exact .inr q1
omit [Nums] in
theorem map_erase {α β : Type} (f : α → β) : ∀ (l : List α) (j : Nat), (l.eraseIdx j).map f = (l.map f).eraseIdx j
  | [], j => by simp
  | a :: l, 0 => by simp
  | a :: l, j + 1 => by simp [map_erase f l j]
theorem mapDel_sound {t : TypeId} {vs : List AV} {h h' : AH} {v : AV} {w : World} {u1 u2 : Value} {argTypes : Array TypeId} {ty : TypeId} (hat : argTypes[0]? = some t) (ha : aloud.mapDel P t vs h = some (.val v h')) (hr : HR ρ h.get h.next w) (hv : VRs ρ vs [u1, u2]) :
    ∃ w', (Builtin.delete_ argTypes ty #[u1, u2]).run P w = .ok (.tuple #[]) w' ∧ Stp ρ h.get h.next w ρ h'.get h'.next w' ∧ v = und := by
  unfold aloud.mapDel at ha
  split at ha <;> first | (cases ha; done) | skip
  rename_i kt et hu
  split at ha <;> first | (cases ha; done) | skip
  rename_i d hku
  split at ha <;> first | (cases ha; done) | skip
  rename_i n ky
  obtain ⟨y1, y2, hy, h1, h2⟩ := hv.two
  simp only [List.cons.injEq, and_true] at hy
  obtain ⟨rfl, rfl⟩ := hy
  unfold VR at h1
  obtain ⟨b, s, hb, rfl⟩ := h1
  split at ha <;> first | (cases ha; done) | skip
  rename_i es bs ck hg
  obtain ⟨b', s', hb', hO⟩ := hr.obj _ _ hg
  rw [hb] at hb'
  cases hb'
  obtain ⟨xs, hx, hm, hbs⟩ := hO
  have hlt : b < w.heap.size := (Array.getElem?_eq_some_iff.1 hx).1
  obtain ⟨r0, hl0⟩ : ∃ r0, lookAV es ky = some r0 := by
    cases hl : lookAV es ky with
    | none => rw [hl] at ha; cases ha
    | some r => exact ⟨r, rfl⟩
  obtain ⟨k, i, rfl, hfound⟩ := lookAV_sound (d := d) hl0 hm h2
  have hck := checkKey_int (P := P) xs.isEmpty 9999 (d := d) (k := k) (i := i) hku w
  rw [hl0] at ha
  split at ha <;> first | (cases ha; done) | skip
  · rename_i heq
    cases heq
    simp only [Option.some.injEq, AN.val.injEq] at ha
    obtain ⟨rfl, rfl⟩ := ha
    have g1 : Instr.findNow (.int d) (.int k i) xs.toList 0 = some none := by
      rcases hfound with ⟨_, g⟩ | ⟨_, _, _, g, _⟩
      · exact g
      · cases g
    have hfk := findKey_run hku g1 w
    refine ⟨{ w with heap := w.heap.setIfInBounds b (.map xs ck) }, ?_, ?_, rfl⟩
    · unfold Builtin.delete_
      simp only [hat, List.getElem?_toArray, List.getElem?_cons_zero, List.getElem?_cons_succ, Sem.run_bind, run_underlying hu w, Result.andThen_ok, getObj_map hx, hck, hfk, setObj_map hx]
      rfl
    · rw [put_next]
      refine Stp.change hr (n := n) (b := b) (s := s) (by rw [hg]; rfl) hb (o := .map es bs ck) ?_ rfl rfl rfl (by simp) (fun q _ hq => by simp [Array.getElem?_setIfInBounds, Ne.symm hq]) ?_
      · exact ⟨xs, by simp [hlt], hm, hbs⟩
      · intro q o' ho'
        rcases put_spec ho' with ⟨q1, q2⟩ | q1
        · exact .inl ⟨q1, by cases q2; rfl⟩
        · exact .inr q1
  · rename_i j u heq
    cases heq
    simp only [Option.some.injEq, AN.val.injEq] at ha
    obtain ⟨rfl, rfl⟩ := ha
    obtain ⟨x, g1, g2⟩ : ∃ x, Instr.findNow (.int d) (.int k i) xs.toList 0 = some (some (j, x)) ∧ j < xs.toList.length := by
      rcases hfound with ⟨g, _⟩ | ⟨j', v', x', g, g1, g2, g3, g4⟩
      · cases g
      · cases g
        exact ⟨_, g1, (List.getElem?_eq_some_iff.1 g2).1⟩
    have g3 := MR.erase j hm
    have hfk := findKey_run hku g1 w
    refine ⟨{ w with heap := w.heap.setIfInBounds b (.map (xs.eraseIdxIfInBounds j) ck) }, ?_, ?_, rfl⟩
    · unfold Builtin.delete_
      simp only [hat, List.getElem?_toArray, List.getElem?_cons_zero, List.getElem?_cons_succ, Sem.run_bind, run_underlying hu w, Result.andThen_ok, getObj_map hx, hck, hfk, setObj_map hx]
      rfl
    · rw [put_next]
      have hj : j < xs.size := by simpa using g2
      have he : (xs.eraseIdxIfInBounds j).toList = xs.toList.eraseIdx j := by simp [Array.eraseIdxIfInBounds, hj]
      refine Stp.change hr (n := n) (b := b) (s := s) (by rw [hg]; rfl) hb (o := .map (es.eraseIdx j) (bs.eraseIdx j) ck) ?_ rfl rfl rfl (by simp) (fun q _ hq => by simp [Array.getElem?_setIfInBounds, Ne.symm hq]) ?_
      · refine ⟨xs.eraseIdxIfInBounds j, by simp [hlt], by rw [he]; exact g3, ?_⟩
        rw [he, ← hbs, map_erase]
      · intro q o' ho'
        rcases put_spec ho' with ⟨q1, q2⟩ | q1
        · exact .inl ⟨q1, by cases q2; rfl⟩
        · exact .inr q1
/-! iterators over maps -/
omit [Nums] in
theorem getObj_iter {r : Nat} {w : World} {m : Option Nat} {since last : Nat} {seen : Array Nat} (h : w.heap[r]? = some (.mapIter m since seen last)) : (getObj r).run P w = .ok (.mapIter m since seen last) w := by
  simp only [getObj, Sem.run, h]
omit [Nums] in
theorem setObj_iter {r : Nat} {w : World} {m : Option Nat} {since last : Nat} {seen : Array Nat} (h : w.heap[r]? = some (.mapIter m since seen last)) (o : Obj) : (setObj r o).run P w = .ok () { w with heap := w.heap.setIfInBounds r o } := by
  simp only [setObj, Sem.run, h]
theorem arange_sound {t kt et : TypeId} (hu : P.underlying t = some (.map kt et)) {vs : List AV} {h h' : AH} {v : AV} {w : World} {u1 : Value} (ha : aloud.arange vs h = some (.val v h')) (hr : HR ρ h.get h.next w) (hv : VRs ρ vs [u1]) :
    ∃ ρ' y w', (Instr.range t u1).run P w = .ok y w' ∧ Stp ρ h.get h.next w ρ' h'.get h'.next w' ∧ VR ρ' v y := by
  unfold aloud.arange at ha
  split at ha <;> first | (cases ha; done) | skip
  · obtain ⟨y, hy, h1⟩ := hv.one
    simp only [List.cons.injEq, and_true] at hy
    subst hy
    unfold VR at h1
    subst h1
    split at ha <;> first | (cases ha; done) | skip
    rename_i h1 hfr
    simp only [Option.some.injEq, AN.val.injEq] at ha
    obtain ⟨rfl, rfl⟩ := ha
    obtain ⟨hn, hg⟩ := fresh_spec hfr
    obtain ⟨hst, hup⟩ := Stp.new (s := 0) (obj := .mapIter none 0 #[] 0) (w' := w.alloc (.mapIter none 0 #[] 0)) hr h.get (fun _ _ h => h) hn hg (show OR ρ (.mit none 0 [] 0) 0 _ from rfl) rfl rfl rfl rfl
    refine ⟨_, .pointer (some ⟨w.heap.size, 0, none⟩), _, ?_, hst, ?_⟩
    · unfold Instr.range
      simp only [Sem.run_bind, run_underlying hu w, Result.andThen_ok, Sem.run_pure, newObj, Sem.run]
      rfl
    · unfold VR
      exact ⟨_, _, hup, rfl⟩
  · rename_i n
    obtain ⟨y, hy, h1⟩ := hv.one
    simp only [List.cons.injEq, and_true] at hy
    subst hy
    unfold VR at h1
    obtain ⟨b, s, hb, rfl⟩ := h1
    split at ha <;> first | (cases ha; done) | skip
    rename_i es bs ck hg0
    split at ha <;> first | (cases ha; done) | skip
    rename_i h1 hfr
    simp only [Option.some.injEq, AN.val.injEq] at ha
    obtain ⟨rfl, rfl⟩ := ha
    obtain ⟨b', s', hb', hO⟩ := hr.obj _ _ hg0
    rw [hb] at hb'
    cases hb'
    obtain ⟨xs, hx, hm, hbs⟩ := hO
    obtain ⟨hn, hg⟩ := fresh_spec hfr
    obtain ⟨hst, hup⟩ := Stp.new (s := 0) (obj := .mapIter (some b) ck #[] ck) (w' := w.alloc (.mapIter (some b) ck #[] ck)) hr h.get (fun _ _ h => h) hn hg (show OR ρ (.mit (some n) ck [] ck) 0 _ from ⟨b, s, hb, rfl⟩) rfl rfl rfl rfl
    refine ⟨_, .pointer (some ⟨w.heap.size, 0, none⟩), _, ?_, hst, ?_⟩
    · unfold Instr.range
      simp only [Sem.run_bind, run_underlying hu w, Result.andThen_ok, Sem.run_pure, getObj_map hx, newObj, Sem.run]
      rfl
    · unfold VR
      exact ⟨_, _, hup, rfl⟩
omit [Nums] in
theorem choose_one (w : World) : (choose (Question.mapNext 1)).run P w = .ok 0 w := by
  simp [choose, Sem.run, Question.forced]
def LR (ρ : Ren) : List (AV × AV × Nat) → List MapEntry → Prop
  | [], l => l = []
  | (k, v, b) :: r, l => ∃ e es, l = e :: es ∧ VR ρ k e.key ∧ VR ρ v e.val ∧ e.born = b ∧ LR ρ r es
theorem leftOf_sound {seen : List Nat} : ∀ {es : List (AV × AV)} {bs : List Nat} {xs : List MapEntry}, MR ρ es xs → xs.map (·.born) = bs → LR ρ (leftOf es bs seen) (xs.filter fun e => !seen.contains e.born)
  | [], bs, xs, hm, hb => by
    have : xs = [] := hm
    subst this
    subst hb
    rfl
  | (k, v) :: es, bs, xs, hm, hb => by
    obtain ⟨e, xs', rfl, h1, h2, h3⟩ := hm
    subst hb
    have ih := leftOf_sound (seen := seen) h3 rfl
    rw [List.map_cons]
    unfold leftOf
    cases hc : seen.contains e.born with
    | true =>
      rw [List.filter_cons_of_neg (by rw [hc]; simp)]
      exact ih
    | false =>
      rw [List.filter_cons_of_pos (by rw [hc]; rfl)]
      exact ⟨e, _, rfl, h1, h2, rfl, ih⟩
omit [Nums] in
theorem okNext_sound {bs seen : List Nat} {last : Nat} {xs : Array MapEntry} (h : okNext bs seen last = true) (hb : xs.toList.map (·.born) = bs) : (!seen.toArray.isEmpty && !xs.isEmpty && xs.all fun e => decide (e.born ≥ last)) = false := by
  unfold okNext at h
  rw [Bool.or_eq_true, Bool.or_eq_true] at h
  rcases h with h | h | h
  · have : seen = [] := by simpa using h
    subst this
    rfl
  · have : bs = [] := by simpa using h
    subst this
    have hx : xs.toList = [] := by simpa using hb
    have : xs = #[] := Array.toList_eq_nil_iff.1 hx
    subst this
    simp
  · obtain ⟨b, hbm, hbl⟩ := List.any_eq_true.1 h
    rw [← hb] at hbm
    obtain ⟨e, he, rfl⟩ := List.mem_map.1 hbm
    have hbl : e.born < last := by simpa using hbl
    have : (xs.all fun e => decide (e.born ≥ last)) = false := by
      rw [← Array.all_toList]
      rw [List.all_eq_false]
      exact ⟨e, he, by simp; omega⟩
    rw [this, Bool.and_false]
theorem anext_sound {vs : List AV} {h h' : AH} {v : AV} {w : World} {u1 : Value} {ty : TypeId} (ha : aloud.anext vs h = some (.val v h')) (hr : HR ρ h.get h.next w) (hv : VRs ρ vs [u1]) :
    ∃ y w', (Instr.next u1 false ty).run P w = .ok y w' ∧ Stp ρ h.get h.next w ρ h'.get h'.next w' ∧ VR ρ v y := by
  unfold aloud.anext at ha
  split at ha <;> first | (cases ha; done) | skip
  rename_i n
  obtain ⟨y, hy, h1⟩ := hv.one
  simp only [List.cons.injEq, and_true] at hy
  subst hy
  obtain ⟨b, s, hb, rfl⟩ := h1.ptr_inv
  have hover : VR ρ (.tup [.bool false]) (.tuple #[.bool false]) := by
    unfold VR
    exact ⟨_, rfl, VRs.cons (by unfold VR; rfl) VRs.nil⟩
  split at ha <;> first | (cases ha; done) | skip
  · rename_i hg
    simp only [Option.some.injEq, AN.val.injEq] at ha
    obtain ⟨rfl, rfl⟩ := ha
    obtain ⟨b', s', hb', hO⟩ := hr.obj _ _ hg
    rw [hb] at hb'
    cases hb'
    have hx : w.heap[b]? = some (.mapIter none 0 #[] 0) := hO
    refine ⟨.tuple #[.bool false], w, ?_, Stp.refl hr, hover⟩
    unfold Instr.next
    simp only [Sem.run_bind, getObj_iter hx, Result.andThen_ok, Sem.run_pure]
  · rename_i m since seen last hg
    split at ha <;> first | (cases ha; done) | skip
    rename_i es bs ck hgm
    obtain ⟨b', s', hb', hO⟩ := hr.obj _ _ hg
    rw [hb] at hb'
    cases hb'
    obtain ⟨bm, sm, hbm, hx⟩ := hO
    obtain ⟨b', s', hb', hOm⟩ := hr.obj _ _ hgm
    rw [hbm] at hb'
    cases hb'
    obtain ⟨xs, hxm, hm, hbs⟩ := hOm
    split at ha <;> first | (cases ha; done) | skip
    rename_i hok
    have hok := okNext_sound hok hbs
    have hL := leftOf_sound (seen := seen) hm hbs
    have hfilter : (xs.filter fun e => !seen.toArray.contains e.born).toList = xs.toList.filter fun e => !seen.contains e.born := by
      rw [Array.toList_filter]
      simp
    split at ha <;> first | (cases ha; done) | skip
    · rename_i hl
      simp only [Option.some.injEq, AN.val.injEq] at ha
      obtain ⟨rfl, rfl⟩ := ha
      rw [hl] at hL
      have hL : xs.toList.filter (fun e => !seen.contains e.born) = [] := hL
      have hleft : (xs.filter fun e => !seen.toArray.contains e.born) = #[] := by
        apply Array.ext'
        rw [hfilter, hL]
      refine ⟨.tuple #[.bool false], w, ?_, Stp.refl hr, hover⟩
      unfold Instr.next
      simp only [Sem.run_bind, getObj_iter hx, getObj_map hxm, Result.andThen_ok, hok, hleft]
      have hcand : ((if (Array.filter (fun x : MapEntry => decide (x.born < since)) #[]).isEmpty = true then #[none] else #[]) ++ Array.map some (Array.filter (fun x : MapEntry => decide (x.born < since)) #[] ++ Array.filter (fun x : MapEntry => decide (x.born ≥ since)) #[])) = #[none] := by simp
      rw [if_neg Bool.false_ne_true]
      simp only [hcand, Sem.run_bind, choose_one, Result.andThen_ok, show (#[(none : Option MapEntry)]).size = 1 from rfl, show (#[(none : Option MapEntry)])[0]? = some none from rfl, Sem.run_pure]
    · rename_i k nv bo hl
      split at ha <;> first | (cases ha; done) | skip
      rename_i hlt
      have hlt : bo < since := by simpa using hlt
      simp only [Option.some.injEq, AN.val.injEq] at ha
      obtain ⟨rfl, rfl⟩ := ha
      rw [hl] at hL
      obtain ⟨e, es', he, hk, hv', hbo, hnil⟩ := hL
      have hnil : es' = [] := hnil
      subst hnil
      have hleft : (xs.filter fun e => !seen.toArray.contains e.born) = #[e] := by
        apply Array.ext'
        rw [hfilter, he]
      have f1 : Array.filter (fun x => decide (x.born < since)) #[e] = #[e] := by simp [hbo, hlt]
      have f2 : Array.filter (fun x => decide (x.born ≥ since)) #[e] = #[] := by simp [hbo, hlt]
      have hblt : b < w.heap.size := (Array.getElem?_eq_some_iff.1 hx).1
      refine ⟨.tuple #[.bool true, e.key, e.val], { w with heap := w.heap.setIfInBounds b (.mapIter (some bm) since (seen.toArray.push e.born) ck) }, ?_, ?_, ?_⟩
      · unfold Instr.next
        simp only [Sem.run_bind, getObj_iter hx, getObj_map hxm, Result.andThen_ok, hok, hleft, f1, f2]
        have hcand : ((if (#[e] : Array MapEntry).isEmpty = true then #[none] else #[]) ++ Array.map some (#[e] ++ #[])) = #[some e] := by simp
        rw [if_neg Bool.false_ne_true]
        have hset := setObj_iter (P := P) hx (.mapIter (some bm) since (seen.toArray.push e.born) ck)
        simp only [hcand, Sem.run_bind, choose_one, Result.andThen_ok, show (#[some e]).size = 1 from rfl, show (#[some e])[0]? = some (some e) from rfl, hset, Sem.run_pure]
      · rw [put_next]
        refine Stp.change hr (n := n) (b := b) (s := s) (by rw [hg]; rfl) hb (o := .mit (some m) since (seen ++ [bo]) ck) ?_ rfl rfl rfl (by simp) (fun q _ hq => by simp [Array.getElem?_setIfInBounds, Ne.symm hq]) ?_
        · exact ⟨bm, sm, hbm, by simp [hblt, hbo]⟩
        · intro q o' ho'
          rcases put_spec ho' with ⟨q1, q2⟩ | q1
          · exact .inl ⟨q1, by cases q2; rfl⟩
          · exact .inr q1
      · unfold VR
        exact ⟨_, rfl, VRs.cons (by unfold VR; rfl) (VRs.cons hk (VRs.cons hv' VRs.nil))⟩
/-- what an operation that changes memory comes to -/
def LoudVal (P : Program) (ρ : Ren) (a : Act) (o : Oper) (h : AH) (w : World) (v : AV) (h' : AH) : Prop :=
  ∃ ρ' x w' nx, (execOp a.eval o).run P w = .ok nx w' ∧ (nx = .value x ∨ (nx = .skip ∧ x = undef)) ∧ Stp ρ h.get h.next w ρ' h'.get h'.next w' ∧ VR ρ' v x
def FnOk (P : Program) (f : FuncId) : Prop := ∃ fn c, P.funcs[f]? = some fn ∧ (fn.name == "runtime.NumGoroutine") = false ∧ fn.body = some c
theorem recSet_sound {e : SE} {ks : List CK} : ∀ {vs : List AV} {ys : List Value} {l l' : SE} {j : Nat}, recSet l e ks j vs = some l' → VRs ρ vs ys →
    l'.evN Nums.σ = l.evN Nums.σ ∧ j + ys.length ≤ ks.length ∨ vs = [] ∧ l' = l
  | [], ys, l, l', j, h, hv => by
    simp only [recSet, Option.some.injEq] at h
    exact .inr ⟨rfl, h.symm⟩
  | v :: vs, ys, l, l', j, h, hv => by
    unfold recSet at h
    split at h <;> first | (cases h; done) | skip
    rename_i k hk
    split at h <;> first | (cases h; done) | skip
    rename_i x hx
    obtain ⟨y, ys', rfl, h1, h2⟩ := hv.uncons
    have hj := (List.getElem?_eq_some_iff.1 hk).1
    rcases recSet_sound h h2 with ⟨h3, h4⟩ | ⟨h3, h4⟩
    · refine .inl ⟨by rw [h3]; simp only [SE.evN], ?_⟩
      have : Nat.add j 1 = j + 1 := rfl
      rw [this] at h4
      simp only [List.length_cons]
      omega
    · subst h3; subst h4
      unfold VRs at h2
      subst h2
      refine .inl ⟨by simp only [SE.evN], ?_⟩
      simp only [List.length_cons, List.length_nil]
      omega
theorem recSet_at {e : SE} {ks : List CK} : ∀ {vs : List AV} {ys : List Value} {l l' : SE} {j : Nat}, recSet l e ks j vs = some l' → VRs ρ vs ys → ∀ (q i : Nat) (k : CK), ks[i]? = some k →
    (q = (e.ev Nums.σ).toNat ∧ j ≤ i ∧ i < j + ys.length ∧ ys[i - j]? = some (k.val (l'.evA Nums.σ q i))) ∨ (¬ (q = (e.ev Nums.σ).toNat ∧ j ≤ i ∧ i < j + ys.length) ∧ l'.evA Nums.σ q i = l.evA Nums.σ q i)
  | [], ys, l, l', j, h, hv, q, i, k, hk => by
    simp only [recSet, Option.some.injEq] at h
    subst h
    unfold VRs at hv
    subst hv
    exact .inr ⟨by simp only [List.length_nil]; omega, rfl⟩
  | v :: vs, ys, l, l', j, h, hv, q, i, k, hk => by
    unfold recSet at h
    split at h <;> first | (cases h; done) | skip
    rename_i k0 hk0
    split at h <;> first | (cases h; done) | skip
    rename_i x hx
    obtain ⟨y, ys', rfl, h1, h2⟩ := hv.uncons
    have hj1 : Nat.add j 1 = j + 1 := rfl
    rcases recSet_at h h2 q i k hk with ⟨h3, h4, h5, h6⟩ | ⟨h3, h4⟩
    · rw [hj1] at h4 h5 h6
      refine .inl ⟨h3, by omega, by simp only [List.length_cons]; omega, ?_⟩
      rw [show i - j = (i - (j + 1)) + 1 from by omega, List.getElem?_cons_succ]
      exact h6
    · rw [hj1] at h3
      simp only [SE.evA] at h4
      by_cases hqi : q = (e.ev Nums.σ).toNat ∧ i = j
      · obtain ⟨hq, rfl⟩ := hqi
        rw [if_pos ⟨hq, rfl⟩] at h4
        rw [hk] at hk0
        cases hk0
        refine .inl ⟨hq, Nat.le_refl _, by simp only [List.length_cons]; omega, ?_⟩
        rw [Nat.sub_self, List.getElem?_cons_zero, h4, toCK_rel hx h1]
      · rw [if_neg hqi] at h4
        refine .inr ⟨?_, h4⟩
        simp only [List.length_cons]
        rintro ⟨a, b, c⟩
        apply hqi
        refine ⟨a, ?_⟩
        rcases Nat.lt_or_ge j i with hlt | hge
        · exact absurd ⟨a, by omega, by omega⟩ h3
        · omega
theorem recStore_sound {t : TypeId} {n s : Nat} {l x : SE} {ks : List CK} {e : TypeId} {j off : Nat} {v y : AV} {h h' : AH} {w : World} {b : Nat} {s0 : Nat} {u : Value} (hl : aloud.recStore n l x ks e j y h = some (.val v h')) (hr : HR ρ h.get h.next w)
    (hs : sizeT P t = some s) (hlen : y.cells.length = s) (h1 : allOne y.cells = true) (hg : h.get n = some (.recs l ks e)) (hb : ρ n = some (b, s0)) (hu : VR ρ y u) (hoff : off = (x.ev Nums.σ).toNat * ks.length + j) :
    ∃ w', (storeVar t ⟨b, off, none⟩ u).run P w = .ok () w' ∧ Stp ρ h.get h.next w ρ h'.get h'.next w' ∧ v = und := by
  subst hoff
  unfold aloud.recStore at hl
  split at hl <;> first | (cases hl; done) | skip
  rename_i hw
  obtain ⟨w1, w2⟩ := within_ok hw
  rw [lenE_ev] at w2
  have hrow : (x.ev Nums.σ).toNat < l.evN Nums.σ := by omega
  split at hl <;> first | (cases hl; done) | skip
  rename_i l' hset
  simp only [Option.some.injEq, AN.val.injEq] at hl
  obtain ⟨rfl, rfl⟩ := hl
  obtain ⟨b', s', hb', hO⟩ := hr.obj _ _ hg
  rw [hb] at hb'
  cases hb'
  obtain ⟨cur, hcur, hcs, hk, hat⟩ := hO
  have hc := hu.cells
  have hcl : u.cells.toList.length = s := by rw [← hc.len, hlen]
  have hsz : u.cells.size = s := by simpa using hcl
  have hrows : (x.ev Nums.σ).toNat * ks.length + ks.length ≤ l.evN Nums.σ * ks.length := by
    have := Nat.mul_le_mul_right ks.length (show (x.ev Nums.σ).toNat + 1 ≤ l.evN Nums.σ from hrow)
    rwa [Nat.add_mul, Nat.one_mul] at this
  rcases recSet_sound hset hc with ⟨hN, hfit0⟩ | ⟨he, hll⟩
  · have hfit : (x.ev Nums.σ).toNat * ks.length + j + u.cells.toList.length ≤ cur.size := by omega
    have hst := run_storeCells_at P b ((x.ev Nums.σ).toNat * ks.length + j) e u.cells.toList 0 cur w hcur (by simpa using hfit) (hc.ones h1)
    simp only [Nat.add_zero] at hst
    refine ⟨w.setRow b (cur.toList.take ((x.ev Nums.σ).toNat * ks.length + j) ++ u.cells.toList ++ cur.toList.drop ((x.ev Nums.σ).toNat * ks.length + j + u.cells.toList.length)).toArray, ?_, ?_, rfl⟩
    · simp only [storeVar, Sem.run_bind, Sem.run_pure, Result.andThen_ok, sizeT_run hs w, hsz, ne_eq, not_true_eq_false, if_false, hst]
    · rw [put_next]
      refine Stp.change hr (n := n) (b := b) (s := s0) (by rw [hg]; rfl) hb (o := .recs l' ks e) ?_ rfl rfl rfl (by simp) (fun q _ hq => setRow_other w b q _ hq) ?_
      · rw [setRow_heap w b cur _ e (0, 0) hcur]
        refine ⟨_, rfl, by rw [splice_size hfit]; exact hcs, by rw [hN]; exact hk, fun q i k hq hki => ?_⟩
        rw [hN] at hq
        have hi : i < ks.length := (List.getElem?_eq_some_iff.1 hki).1
        rw [List.getElem?_toArray, splice_get (by simpa using hfit)]
        rcases recSet_at hset hc q i k hki with ⟨h3, h4, h5, h6⟩ | ⟨h3, h4⟩
        · subst h3
          rw [if_pos ⟨by omega, by omega⟩, ← h6]
          congr 1
          omega
        · have hne : ¬ ((x.ev Nums.σ).toNat * ks.length + j ≤ q * ks.length + i ∧ q * ks.length + i < (x.ev Nums.σ).toNat * ks.length + j + u.cells.toList.length) := by
            rintro ⟨a1, a2⟩
            apply h3
            have hq2 : q = (x.ev Nums.σ).toNat := by
              rcases Nat.lt_trichotomy q (x.ev Nums.σ).toNat with c | c | c
              · exfalso
                have := Nat.mul_le_mul_right ks.length (show q + 1 ≤ (x.ev Nums.σ).toNat from c)
                rw [Nat.add_mul, Nat.one_mul] at this
                omega
              · exact c
              · exfalso
                have := Nat.mul_le_mul_right ks.length (show (x.ev Nums.σ).toNat + 1 ≤ q from c)
                rw [Nat.add_mul, Nat.one_mul] at this
                omega
            subst hq2
            exact ⟨rfl, by omega, by omega⟩
          rw [if_neg hne, h4, Array.getElem?_toList]
          exact hat q i k hq hki
      · intro q o' ho'
        rcases put_spec ho' with ⟨q1, q2⟩ | q1
        · exact .inl ⟨q1, by cases q2; rfl⟩
        · exact .inr q1
  · subst hll
    have hs0 : s = 0 := by rw [← hlen, he]; rfl
    have hnil : u.cells.toList = [] := List.eq_nil_of_length_eq_zero (by rw [hcl, hs0])
    have hfit : (0 : Nat) + u.cells.toList.length ≤ cur.size := by rw [hnil]; simp
    refine ⟨w, ?_, ?_, rfl⟩
    · simp only [storeVar, Sem.run_bind, Sem.run_pure, Result.andThen_ok, sizeT_run hs w, hsz, ne_eq, not_true_eq_false, if_false]
      have : u.cells = #[] := by apply Array.ext'; simpa using hnil
      rw [this]
      rfl
    · rw [put_next]
      refine Stp.change hr (n := n) (b := b) (s := s0) (by rw [hg]; rfl) hb (o := .recs l' ks e) ⟨cur, hcur, hcs, hk, hat⟩ rfl rfl rfl (Nat.le_refl _) (fun q _ hq => rfl) ?_
      intro q o' ho'
      rcases put_spec ho' with ⟨q1, q2⟩ | q1
      · exact .inl ⟨q1, by cases q2; rfl⟩
      · exact .inr q1
theorem loud_val {o : Oper} {a : Act} {vs : List AV} {v : AV} {h h' : AH} {w : World} (hl : aloud P o.op vs h = some (.val v h')) (hr : HR ρ h.get h.next w) (hv : VRs ρ vs (o.op.operands.toList.map a.eval)) : LoudVal P ρ a o h w v h' := by
  unfold LoudVal execOp
  generalize o.op = op at hl hv
  have undR : ∀ ρ : Ren, VR ρ und undef := fun ρ => by unfold und VR; exact ⟨#[], rfl, VRs.nil⟩
  cases op with
  | store t p x =>
    simp only [aloud] at hl
    split at hl <;> first | (cases hl; done) | skip
    case h_2 =>
      rename_i n q z j y
      split at hl <;> first | (cases hl; done) | skip
      rename_i s hs
      split at hl <;> first | (cases hl; done) | skip
      rename_i hlen
      have hlen := Nat.eq_of_beq_eq_true hlen
      split at hl <;> first | (cases hl; done) | skip
      rename_i h1
      split at hl <;> first | (cases hl; done) | skip
      rename_i l ks e hg
      split at hl <;> first | (cases hl; done) | skip
      rename_i hz
      have hz := Nat.eq_of_beq_eq_true hz
      subst hz
      obtain ⟨y1, y2, hy, hr1, hr2⟩ := hv.two
      simp [Op.operands] at hy
      obtain ⟨e1, e2⟩ := hy
      unfold VR at hr1
      obtain ⟨b, s0, hb, rfl⟩ := hr1
      obtain ⟨w', hrun, hst, rfl⟩ := recStore_sound hl hr hs hlen h1 hg hb hr2 rfl
      refine ⟨ρ, undef, w', .skip, ?_, .inr ⟨rfl, rfl⟩, hst, undR ρ⟩
      simp only [e1, e2, Instr.storeAt, Instr.sureAddr, Sem.run_bind, Sem.run_pure, Result.andThen_ok, hrun]
    rename_i n off y
    split at hl <;> first | (cases hl; done) | skip
    rename_i s hs
    split at hl <;> first | (cases hl; done) | skip
    rename_i hlen
    have hlen := Nat.eq_of_beq_eq_true hlen
    split at hl <;> first | (cases hl; done) | skip
    rename_i h1
    split at hl <;> first | (cases hl; done) | skip
    rotate_left
    · rename_i l ks e hg
      split at hl <;> first | (cases hl; done) | skip
      obtain ⟨y1, y2, hy, hr1, hr2⟩ := hv.two
      simp [Op.operands] at hy
      obtain ⟨e1, e2⟩ := hy
      obtain ⟨b, s0, hb, rfl⟩ := hr1.ptr_inv
      obtain ⟨w', hrun, hst, rfl⟩ := recStore_sound (off := off) hl hr hs hlen h1 hg hb hr2 (by simp only [SE.ev]; exact recAt_eq off)
      refine ⟨ρ, undef, w', .skip, ?_, .inr ⟨rfl, rfl⟩, hst, undR ρ⟩
      simp only [e1, e2, Instr.storeAt, Instr.sureAddr, Sem.run_bind, Sem.run_pure, Result.andThen_ok, hrun]
    rename_i cs k e hg
    split at hl <;> first | (cases hl; done) | skip
    rename_i hk
    have hk : off + s ≤ k := Nat.le_of_ble_eq_true hk
    simp only [Option.some.injEq, AN.val.injEq] at hl
    obtain ⟨rfl, rfl⟩ := hl
    obtain ⟨y1, y2, hy, hr1, hr2⟩ := hv.two
    simp [Op.operands] at hy
    obtain ⟨e1, e2⟩ := hy
    obtain ⟨b, s0, hb, rfl⟩ := hr1.ptr_inv
    obtain ⟨b', s', hb', hO⟩ := hr.obj _ _ hg
    rw [hb] at hb'
    cases hb'
    obtain ⟨cur, hcur, hcs, hks, hcells⟩ := hO
    have hc := hr2.cells
    have hcl : y2.cells.toList.length = s := by rw [← hc.len, hlen]
    have hfit : off + y2.cells.toList.length ≤ cur.size := by rw [hcl]; omega
    have hst := run_storeCells_at P b off e y2.cells.toList 0 cur w hcur (by simpa using hfit) (hc.ones h1)
    simp only [Nat.add_zero] at hst
    refine ⟨ρ, undef, w.setRow b (cur.toList.take off ++ y2.cells.toList ++ cur.toList.drop (off + y2.cells.toList.length)).toArray, .skip, ?_, .inr ⟨rfl, rfl⟩, ?_, undR ρ⟩
    · have hsz : y2.cells.size = s := by simpa using hcl
      simp only [e1, e2, Instr.storeAt, Instr.sureAddr, storeVar, Sem.run_bind, Sem.run_pure, Result.andThen_ok, sizeT_run hs w, hsz, ne_eq, not_true_eq_false, if_false, hst]
    · rw [put_next]
      refine Stp.change hr (n := n) (b := b) (s := s0) (by rw [hg]; rfl) hb (o := .cells (setN cs off y.cells) k e) ?_ rfl rfl rfl (by simp) (fun q _ hq => setRow_other w b q _ hq) ?_
      · rw [setRow_heap w b cur _ e (0, 0) hcur]
        exact ⟨_, rfl, by rw [splice_size hfit]; exact hcs, hks, splice_ok hcells hc h1 hfit⟩
      · intro q o' ho'
        rcases put_spec ho' with ⟨q1, q2⟩ | q1
        · exact .inl ⟨q1, by cases q2; rfl⟩
        · exact .inr q1
  | mapUpdate t m k x =>
    simp only [aloud] at hl
    obtain ⟨w', hrun, hst, rfl⟩ := mapPut_sound hl hr (u1 := a.eval m) (u2 := a.eval k) (u3 := a.eval x) (by simpa [Op.operands] using hv)
    exact ⟨ρ, undef, w', .skip, by simp [hrun], .inr ⟨rfl, rfl⟩, hst, undR ρ⟩
  | insert t m k x =>
    simp only [aloud] at hl
    obtain ⟨w', hrun, hst, rfl⟩ := mapPut_sound hl hr (u1 := a.eval m) (u2 := a.eval k) (u3 := a.eval x) (by simpa [Op.operands] using hv)
    exact ⟨ρ, undef, w', .skip, by simp [hrun], .inr ⟨rfl, rfl⟩, hst, undR ρ⟩
  | range t x =>
    simp only [aloud] at hl
    split at hl <;> first | (cases hl; done) | skip
    rename_i kt et hu
    obtain ⟨ρ', y, w', hrun, hst, hvr⟩ := arange_sound hu hl hr (u1 := a.eval x) (by simpa [Op.operands] using hv)
    exact ⟨ρ', y, w', .value y, by simp [hrun], .inl rfl, hst, hvr⟩
  | next x st =>
    simp only [aloud] at hl
    split at hl <;> first | (cases hl; done) | skip
    obtain ⟨y, w', hrun, hst, hvr⟩ := anext_sound (P := P) (ty := o.type) hl hr (u1 := a.eval x) (by simpa [Op.operands] using hv)
    exact ⟨ρ, y, w', .value y, by simp [hrun], .inl rfl, hst, hvr⟩
  | call c =>
    simp only [aloud] at hl
    obtain ⟨callee, args, argTypes⟩ := c
    cases callee with
    | builtin b =>
      have hop : (Op.call ⟨.builtin b, args, argTypes⟩).operands = args := by simp [Op.operands, Call.operands]
      rw [hop] at hv
      cases b <;> first
        | (cases hl; done)
        | skip
      rotate_left
      · dsimp only at hl
        split at hl <;> first | (cases hl; done) | skip
        rename_i t hat
        have h2 : ∃ u1 u2, args.toList.map a.eval = [u1, u2] := by
          unfold aloud.mapDel at hl
          split at hl <;> first | (cases hl; done) | skip
          split at hl <;> first | (cases hl; done) | skip
          split at hl <;> first | (cases hl; done) | skip
          obtain ⟨y1, y2, hy, _, _⟩ := hv.two
          exact ⟨y1, y2, hy⟩
        obtain ⟨u1, u2, hy⟩ := h2
        rw [hy] at hv
        obtain ⟨w', hrun, hst, rfl⟩ := mapDel_sound (ty := o.type) hat hl hr hv
        refine ⟨ρ, .tuple #[], w', .value (.tuple #[]), ?_, .inl rfl, hst, by unfold und VR; exact ⟨_, rfl, VRs.nil⟩⟩
        have harg : args.map a.eval = #[u1, u2] := by
          apply Array.ext'
          rw [Array.toList_map, hy]
        simp only [resolve, invoke, builtin, Sem.run_bind, Sem.run_pure, Result.andThen_ok, harg]
        rw [hrun]
        rfl
      dsimp only at hl
      split at hl <;> first | (cases hl; done) | skip
      rename_i s x t t'
      split at hl <;> first | (cases hl; done) | skip
      rename_i htt
      have htt := Nat.eq_of_beq_eq_true htt
      subst htt
      split at hl <;> first | (cases hl; done) | skip
      rename_i v' h1 ha
      simp only [Option.some.injEq, AN.val.injEq] at hl
      obtain ⟨rfl, rfl⟩ := hl
      obtain ⟨y1, y2, hy, hr1, hr2⟩ := hv.two
      obtain ⟨ρ', y, w', hrun, hst, hvr⟩ := append_sound (ty := o.type) ha hr hr1 hr2
      refine ⟨ρ', y, w', .value y, ?_, .inl rfl, hst, hvr⟩
      have harg : args.map a.eval = #[y1, y2] := by
        apply Array.ext'
        rw [Array.toList_map, hy]
      simp only [resolve, invoke, builtin, Sem.run_bind, Sem.run_pure, Result.andThen_ok, harg]
      rw [show (Builtin.append_ { toList := [t, t] } o.type #[y1, y2]).run P w = .ok y w' from hrun]
      rfl
    | value f =>
      dsimp only at hl
      split at hl <;> cases hl
    | invoke r m => cases hl
  | _ => simp [aloud] at hl
theorem loud_call {o : Oper} {a : Act} {vs : List AV} {f : FuncId} {args : List AV} {h : AH} (hl : aloud P o.op vs h = some (.call f args)) (hv : VRs ρ vs (o.op.operands.toList.map a.eval)) (hf : FnOk P f) :
    ∃ args' : Array Value, VRs ρ args args'.toList ∧ ∀ w, (execOp a.eval o).run P w = .ok (.enter f args') w := by
  unfold execOp
  generalize o.op = op at hl hv
  cases op with
  | store t p x =>
    simp only [aloud] at hl
    have hno : ∀ {n : Nat} {l x : SE} {ks : List CK} {e : TypeId} {j : Nat} {v : AV}, aloud.recStore n l x ks e j v h ≠ some (.call f args) := by
      intro n l x ks e j v hc
      unfold aloud.recStore at hc
      split at hc <;> first | (cases hc; done) | skip
      split at hc <;> cases hc
    split at hl <;> first | (cases hl; done) | skip
    · split at hl <;> first | (cases hl; done) | skip
      split at hl <;> first | (cases hl; done) | skip
      split at hl <;> first | (cases hl; done) | skip
      split at hl <;> first | (cases hl; done) | skip
      · split at hl <;> cases hl
      · split at hl <;> first | (cases hl; done) | skip
        exact absurd hl hno
    · split at hl <;> first | (cases hl; done) | skip
      split at hl <;> first | (cases hl; done) | skip
      split at hl <;> first | (cases hl; done) | skip
      split at hl <;> first | (cases hl; done) | skip
      split at hl <;> first | (cases hl; done) | skip
      exact absurd hl hno
  | mapUpdate t m k x =>
    simp only [aloud, aloud.mapPut] at hl
    split at hl <;> first | (cases hl; done) | skip
    split at hl <;> first | (cases hl; done) | skip
    split at hl <;> first | (cases hl; done) | skip
    split at hl <;> first | (cases hl; done) | skip
    split at hl <;> cases hl
  | insert t m k x =>
    simp only [aloud, aloud.mapPut] at hl
    split at hl <;> first | (cases hl; done) | skip
    split at hl <;> first | (cases hl; done) | skip
    split at hl <;> first | (cases hl; done) | skip
    split at hl <;> first | (cases hl; done) | skip
    split at hl <;> cases hl
  | range t x =>
    simp only [aloud, aloud.arange] at hl
    split at hl <;> first | (cases hl; done) | skip
    split at hl <;> first | (cases hl; done) | skip
    · split at hl <;> cases hl
    · split at hl <;> first | (cases hl; done) | skip
      split at hl <;> cases hl
  | next x st =>
    simp only [aloud, aloud.anext] at hl
    split at hl <;> first | (cases hl; done) | skip
    split at hl <;> first | (cases hl; done) | skip
    split at hl <;> first | (cases hl; done) | skip
    split at hl <;> first | (cases hl; done) | skip
    split at hl <;> first | (cases hl; done) | skip
    split at hl <;> first | (cases hl; done) | skip
    split at hl <;> cases hl
  | call c =>
    simp only [aloud] at hl
    obtain ⟨callee, cargs, argTypes⟩ := c
    cases callee with
    | builtin b =>
      cases b <;> first
        | (cases hl; done)
        | skip
      rotate_left
      · simp only [aloud.mapDel] at hl
        split at hl <;> first | (cases hl; done) | skip
        split at hl <;> first | (cases hl; done) | skip
        split at hl <;> first | (cases hl; done) | skip
        split at hl <;> first | (cases hl; done) | skip
        split at hl <;> first | (cases hl; done) | skip
        split at hl <;> cases hl
      dsimp only at hl
      split at hl <;> first | (cases hl; done) | skip
      split at hl <;> first | (cases hl; done) | skip
      split at hl <;> cases hl
    | value fv =>
      dsimp only at hl
      split at hl <;> first | (cases hl; done) | skip
      rename_i g x y l
      simp only [Option.some.injEq, AN.call.injEq] at hl
      obtain ⟨rfl, rfl⟩ := hl
      have hop : (Op.call ⟨.value fv, cargs, argTypes⟩).operands.toList.map a.eval = a.eval fv :: (cargs.map a.eval).toList := by simp [Op.operands, Call.operands]
      rw [hop] at hv
      obtain ⟨u, us, hy, h1, h2⟩ := hv.uncons
      simp only [List.cons.injEq] at hy
      obtain ⟨rfl, rfl⟩ := hy
      unfold VR at h1
      obtain ⟨fa, ca, hfv, hfa, hca⟩ := h1
      obtain ⟨fn, c, q1, q2, q3⟩ := hf
      refine ⟨fa ++ cargs.map a.eval ++ ca, ?_, fun w => ?_⟩
      · simp only [Array.toList_append, List.append_assoc]
        exact hfa.append (h2.append hca)
      · have q2' : ¬ fn.name = "runtime.NumGoroutine" := by simpa using q2
        simp [resolve, hfv, Deferred.ofValue, invoke, callFunc, q1, q2', q3]
    | invoke r m => cases hl
  | _ => simp [aloud] at hl
/-- what a call gives -/
def CallS (P : Program) (call : FuncId → List AV → AH → Option (AV × AH)) : Prop :=
  ∀ f args h v h', call f args h = some (v, h') → FnOk P f ∧ ∀ (ρ : Ren) (w : World) (args' : Array Value), HR ρ h.get h.next w → VRs ρ args args'.toList →
    Calls P f args' w fun e w' => ∃ ρ' x, e = .returned x ∧ VR ρ' v x ∧ Stp ρ h.get h.next w ρ' h'.get h'.next w'
theorem loudOp_wp {call : FuncId → List AV → AH → Option (AV × AH)} (hc : CallS P call) {o : Oper} {a : Act} {vs : List AV} {v : AV} {h h' : AH} {w : World} {K : Act → World → Prop} {Q : Exit → Act → World → Prop}
    (hk : kd o.op = .loud) (hop : opA P call o.op vs h = some (v, h')) (hr : HR ρ h.get h.next w) (hv : VRs ρ vs (o.op.operands.toList.map a.eval))
    (hK : ∀ ρ' x w', Stp ρ h.get h.next w ρ' h'.get h'.next w' → VR ρ' v x → K (a.put o.dst x) w') : o.wp P a w K Q := by
  unfold opA at hop
  rw [hk] at hop
  dsimp only at hop
  split at hop <;> first | (cases hop; done) | skip
  · rename_i v1 h1 hl
    simp only [Option.some.injEq, Prod.mk.injEq] at hop
    obtain ⟨rfl, rfl⟩ := hop
    obtain ⟨ρ', x, w', nx, hrun, hnx, hst, hvr⟩ := loud_val hl hr hv
    unfold Oper.wp
    rw [hrun]
    rcases hnx with rfl | ⟨rfl, rfl⟩
    · exact hK ρ' x w' hst hvr
    · exact hK ρ' undef w' hst hvr
  · rename_i f args hl
    obtain ⟨hf, hcall⟩ := hc _ _ _ _ _ hop
    obtain ⟨args', hargs, hrun⟩ := loud_call hl hv hf
    unfold Oper.wp
    rw [hrun w]
    refine (hcall ρ w args' hr hargs).mono ?_
    rintro e w' ⟨ρ', x, rfl, hvr, hst⟩
    exact hK ρ' x w' hst hvr
/-- one operation, where the text puts it -/
theorem op_wp {call : FuncId → List AV → AH → Option (AV × AH)} (hc : CallS P call) {o : Oper} {a : Act} {vs : List AV} {v : AV} {h h' : AH} {w : World} {K : Act → World → Prop} {Q : Exit → Act → World → Prop}
    (hop : opA P call o.op vs h = some (v, h')) (hr : HR ρ h.get h.next w) (hv : VRs ρ vs (o.op.operands.toList.map a.eval))
    (hK : ∀ ρ' x w', Stp ρ h.get h.next w ρ' h'.get h'.next w' → VR ρ' v x → K (a.put o.dst x) w') : o.wp P a w K Q := by
  cases hk : kd o.op with
  | pure =>
    unfold opA at hop
    rw [hk] at hop
    dsimp only at hop
    split at hop <;> first | (cases hop; done) | skip
    rename_i u hu
    simp only [Option.some.injEq, Prod.mk.injEq] at hop
    obtain ⟨rfl, rfl⟩ := hop
    obtain ⟨x, hx, hrun⟩ := pure_sound hu hv
    unfold Oper.wp
    rw [hrun w]
    exact hK ρ x w (Stp.refl hr) hx
  | read =>
    unfold opA at hop
    rw [hk] at hop
    dsimp only at hop
    split at hop <;> first | (cases hop; done) | skip
    rename_i u hu
    simp only [Option.some.injEq, Prod.mk.injEq] at hop
    obtain ⟨rfl, rfl⟩ := hop
    obtain ⟨x, hx, hrun⟩ := read_sound hr hu hv
    unfold Oper.wp
    rw [hrun]
    exact hK ρ x w (Stp.refl hr) hx
  | alloc =>
    unfold opA at hop
    rw [hk] at hop
    dsimp only at hop
    split at hop <;> first | (cases hop; done) | skip
    rename_i ao k ha
    split at hop <;> first | (cases hop; done) | skip
    rename_i h1 hfr
    simp only [Option.some.injEq, Prod.mk.injEq] at hop
    obtain ⟨rfl, rfl⟩ := hop
    obtain ⟨obj, s, hO, hrun⟩ := alloc_sound ha hv
    obtain ⟨x, hrx, hx⟩ := hrun w
    obtain ⟨hn, hg⟩ := fresh_spec hfr
    obtain ⟨hst, hup⟩ := Stp.new (w' := w.alloc obj) hr h.get (fun _ _ h => h) hn hg hO rfl rfl rfl rfl
    unfold Oper.wp
    rw [hrx]
    exact hK _ x _ hst (hx _ _ hup)
  | loud => exact loudOp_wp hc hk hop hr hv hK
end
end Go.Proofs.YtombcmhhocbedaaGreatDoor.Ex

/-
  The runner: a region that draws its order: what was found in the order of the text. No condition.
-/
namespace Go.Proofs.YtombcmhhocbedaaGreatDoor.Ex
open Go
variable [Nums]
/-- slots against named values -/
structure ER (ρ : Ren) (env : T AV) (nt : Nat) (a : Act) : Prop where
  dz : a.defers = []
  size : a.tmps.size = nt
  val : ∀ t v, env.get t = some v → ∃ x, a.tmps[t]? = some x ∧ VR ρ v x
/-- an operation's place in the table -/
def dstAt (ops : Array Oper) (i : Nat) : Option Tmp := (ops[i]?).bind (·.dst)
/-- what a slot holds when the listed operations are done -/
def Val (ops : Array Oper) (env : T AV) (rs : List Rk) (L : Nat → Bool) (t : Nat) (v : AV) : Prop :=
  (∃ i r, L i = true ∧ dstAt ops i = some t ∧ rs[i]? = some r ∧ v = r.res ∧ ∀ j, L j = true → dstAt ops j = some t → j ≤ i) ∨ ((∀ j, L j = true → dstAt ops j ≠ some t) ∧ env.get t = some v)
def below (n : Nat) : Nat → Bool := fun j => decide (j < n)
def isL : Rk → Bool
  | .loud _ _ => true
  | _ => false
def heapOf (h0 : AH) : List Rk → AH
  | [] => h0
  | .loud _ h :: l => heapOf h l
  | _ :: l => heapOf h0 l
/-- which blocks of the region lie in memory by now -/
def ConsP (b : T Nat) (rs : List Rk) (a : Nat) : Prop := ∃ l v h, rs[l]? = some (.loud v h) ∧ ahead b a l = true
omit [Nums] in
theorem heapOf_append (h0 : AH) : ∀ (p q : List Rk), heapOf h0 (p ++ q) = heapOf (heapOf h0 p) q
  | [], _ => rfl
  | .loud _ h :: p, q => heapOf_append h p q
  | .skip :: p, q => heapOf_append h0 p q
  | .val _ :: p, q => heapOf_append h0 p q
  | .alloc _ _ :: p, q => heapOf_append h0 p q
omit [Nums] in
theorem heapOf_none {h0 : AH} : ∀ {q : List Rk}, (∀ r ∈ q, isL r = false) → heapOf h0 q = h0
  | [], _ => rfl
  | .loud _ _ :: _, h => by have := h _ List.mem_cons_self; cases this
  | .skip :: q, h => by simp only [heapOf]; exact heapOf_none fun r hr => h r (List.mem_cons_of_mem _ hr)
  | .val _ :: q, h => by simp only [heapOf]; exact heapOf_none fun r hr => h r (List.mem_cons_of_mem _ hr)
  | .alloc _ _ :: q, h => by simp only [heapOf]; exact heapOf_none fun r hr => h r (List.mem_cons_of_mem _ hr)
omit [Nums] in
theorem overlay_spec {base : Nat} {see : Nat → Bool} : ∀ {al : List (Nat × AO)} {h : AH} {m : Nat} {o : AO}, (overlay base see al h).get m = some o → (∃ a, see a = true ∧ (a, o) ∈ al ∧ m = base + a) ∨ h.get m = some o
  | [], h, m, o, hg => .inr hg
  | (a, o') :: al, h, m, o, hg => by
    unfold overlay at hg
    split at hg
    · rename_i hs
      rcases put_spec hg with ⟨h1, h2⟩ | ⟨_, h2⟩
      · cases h2
        exact .inl ⟨a, hs, List.mem_cons_self, h1⟩
      · rcases overlay_spec h2 with ⟨a', h3, h4, h5⟩ | h3
        · exact .inl ⟨a', h3, List.mem_cons_of_mem _ h4, h5⟩
        · exact .inr h3
    · rcases overlay_spec hg with ⟨a', h3, h4, h5⟩ | h3
      · exact .inl ⟨a', h3, List.mem_cons_of_mem _ h4, h5⟩
      · exact .inr h3
omit [Nums] in
theorem overlay_next {base : Nat} {see : Nat → Bool} : ∀ {al : List (Nat × AO)} {h : AH}, (overlay base see al h).next = h.next
  | [], _ => rfl
  | (a, o') :: al, h => by
    unfold overlay
    split
    · rw [put_next]; exact overlay_next
    · exact overlay_next
/-- where the runner stands behind some operations -/
structure InvR (ops : Array Oper) (b : T Nat) (env0 : T AV) (h0 : AH) (p : List Rk) (env : T AV) (h : AH) (cons : Nat) (al : List (Nat × AO)) : Prop where
  env : ∀ t v, env.get t = some v → Val ops env0 p (below p.length) t v
  heap : h = heapOf h0 p
  cons : ∀ a, cons.testBit a = true ↔ ConsP b p a
  al : ∀ a ao, (a, ao) ∈ al ↔ ∃ v, p[a]? = some (.alloc ao v)
section
variable (P : Program) (call : FuncId → List AV → AH → Option (AV × AH)) (nt : Nat) (ops : Array Oper) (b : T Nat) (base : Nat) (env0 : T AV) (h0 : AH)
def KF (o : Oper) (i : Nat) (vs : List AV) (h : AH) (cons : Nat) (al : List (Nat × AO)) (r : Rk) : Prop := match kd o.op with
  | .pure => ∃ v, apure P o.op vs = some v ∧ r = .val v
  | .read => ∃ v, r = .val v
  | .alloc => ∃ ao k, aalloc P o.op vs = some (ao, k) ∧ r = .alloc ao (k.at (base + i))
  | .loud => ∃ v h', r = .loud v h' ∧ opA P call o.op vs (overlay base (fun a => ahead b a i && !(cons.testBit a)) al h) = some (v, h')
def FactAt (p : List Rk) (o : Oper) (i : Nat) (r : Rk) : Prop :=
  ∃ env h cons al, InvR ops b env0 h0 p env h cons al ∧ (∀ d, o.dst = some d → d < nt) ∧
    ((guardA ops o env = some false ∧ r = .skip) ∨ (guardA ops o env = some true ∧ ∃ vs, evs env o.op.operands.toList = some vs ∧ KF P call b base o i vs h cons al r))
end
section
variable {P : Program} {call : FuncId → List AV → AH → Option (AV × AH)} {nt : Nat} {ops : Array Oper} {b : T Nat} {base : Nat} {env0 : T AV} {h0 : AH}
omit [Nums] in
theorem putA_spec {nt : Nat} {env env' : T AV} {dst : Option Tmp} {v : AV} (h : putA nt env dst v = some env') : (∀ d, dst = some d → d < nt) ∧ ∀ t u, env'.get t = some u → (dst = some t ∧ u = v) ∨ (dst ≠ some t ∧ env.get t = some u) := by
  unfold putA at h
  split at h
  · simp only [Option.some.injEq] at h
    subst h
    exact ⟨fun d hd => (by cases hd), fun t u hu => .inr ⟨(by intro h; cases h), hu⟩⟩
  · rename_i d
    split at h <;> first | (cases h; done) | skip
    rename_i hlt
    simp only [Option.some.injEq] at h
    subst h
    refine ⟨fun d' hd => by cases hd; simpa using hlt, fun t u hu => ?_⟩
    rcases T.get_put hu with ⟨h1, h2⟩ | ⟨h1, h2⟩
    · subst h1
      cases h2
      exact .inl ⟨rfl, rfl⟩
    · exact .inr ⟨fun he => h1 (by cases he; rfl), h2⟩
omit [Nums] in
/-- one more operation -/
theorem val_snoc {p : List Rk} {r : Rk} {o : Oper} {env env' : T AV} (hi : ops[p.length]? = some o) (he : ∀ t v, env.get t = some v → Val ops env0 p (below p.length) t v)
    (hp : ∀ t u, env'.get t = some u → (o.dst = some t ∧ u = r.res) ∨ (o.dst ≠ some t ∧ env.get t = some u)) : ∀ t v, env'.get t = some v → Val ops env0 (p ++ [r]) (below (p ++ [r]).length) t v := by
  intro t v hv
  have hd : dstAt ops p.length = o.dst := by simp [dstAt, hi]
  have hlen : (p ++ [r]).length = p.length + 1 := by simp
  rcases hp t v hv with ⟨h1, h2⟩ | ⟨h1, h2⟩
  · refine .inl ⟨p.length, r, by simp [below], by rw [hd, h1], by simp, h2, fun j hj _ => ?_⟩
    simp [below] at hj
    omega
  · rcases he t v h2 with ⟨i, r', h3, h4, h5, h6, h7⟩ | ⟨h3, h4⟩
    · have hil : i < p.length := by simpa [below] using h3
      refine .inl ⟨i, r', by simp [below]; omega, h4, by rw [List.getElem?_append_left hil]; exact h5, h6, fun j hj hj' => ?_⟩
      simp [below] at hj
      by_cases hjp : j = p.length
      · subst hjp
        rw [hd] at hj'
        exact absurd hj' h1
      · exact h7 j (by simp [below]; omega) hj'
    · refine .inr ⟨fun j hj hj' => ?_, h4⟩
      simp [below] at hj
      by_cases hjp : j = p.length
      · subst hjp
        rw [hd] at hj'
        exact h1 hj'
      · exact h3 j (by simp [below]; omega) hj'
omit [Nums] in
theorem snoc_get {p : List Rk} {r x : Rk} {i : Nat} : (p ++ [r])[i]? = some x ↔ p[i]? = some x ∨ (i = p.length ∧ r = x) := by
  by_cases h : i < p.length
  · rw [List.getElem?_append_left h]
    exact ⟨.inl, fun h' => h'.elim id fun h' => by omega⟩
  · rw [List.getElem?_append_right (by omega), List.getElem?_eq_none (l := p) (by omega)]
    by_cases h2 : i = p.length
    · subst h2; simp
    · have : i - p.length = (i - p.length - 1) + 1 := by omega
      rw [this]
      simp [h2]
theorem regD_facts {rsF : List Rk} {envF : T AV} {hF : AH} {consF : Nat} {alF : List (Nat × AO)} : ∀ (l : List Oper) (env : T AV) (h : AH) (cons : Nat) (al : List (Nat × AO)) (rs : List Rk),
    regD P call nt ops b base rs.length l env h cons al rs = some (rsF, envF, hF, consF, alF) → (∀ k, l[k]? = ops[rs.length + k]?) → InvR ops b env0 h0 rs.reverse env h cons al →
    ∃ tail, rsF = rs.reverse ++ tail ∧ tail.length = l.length ∧ InvR ops b env0 h0 rsF envF hF consF alF ∧
      ∀ (k : Nat) r o, tail[k]? = some r → l[k]? = some o → FactAt P call nt ops b base env0 h0 (rs.reverse ++ tail.take k) o (rs.length + k) r
  | [], env, h, cons, al, rs, hd, _, hI => by
    simp only [regD, Option.some.injEq, Prod.mk.injEq] at hd
    obtain ⟨rfl, rfl, rfl, rfl, rfl⟩ := hd
    exact ⟨[], by simp, rfl, hI, by simp⟩
  | o :: l, env, h, cons, al, rs, hd, hl, hI => by
    have ho : ops[rs.reverse.length]? = some o := by simpa using (hl 0).symm
    have hl' : ∀ r, ∀ k, l[k]? = ops[(r :: rs : List Rk).length + k]? := fun r k => by
      have := hl (k + 1)
      rw [List.getElem?_cons_succ] at this
      rw [this]
      congr 1
      simp only [List.length_cons]
      omega
    -- what the step gives
    have step : ∀ (r : Rk) (env' : T AV) (h' : AH) (cons' : Nat) (al' : List (Nat × AO)), InvR ops b env0 h0 (rs.reverse ++ [r]) env' h' cons' al' → FactAt P call nt ops b base env0 h0 rs.reverse o rs.length r →
        regD P call nt ops b base (Nat.add rs.length 1) l env' h' cons' al' (r :: rs) = some (rsF, envF, hF, consF, alF) →
        ∃ tail, rsF = rs.reverse ++ tail ∧ tail.length = (o :: l).length ∧ InvR ops b env0 h0 rsF envF hF consF alF ∧
          ∀ (k : Nat) r o', tail[k]? = some r → (o :: l)[k]? = some o' → FactAt P call nt ops b base env0 h0 (rs.reverse ++ tail.take k) o' (rs.length + k) r := by
      intro r env' h' cons' al' hI' hF' hd'
      obtain ⟨tail, h1, h2, h3, h4⟩ := regD_facts l env' h' cons' al' (r :: rs) hd' (hl' r) (by simpa using hI')
      refine ⟨r :: tail, by rw [h1]; simp, by simp [h2], h3, fun k r' o' hk ho' => ?_⟩
      cases k with
      | zero =>
        simp at hk ho'
        subst hk; subst ho'
        simpa using hF'
      | succ k =>
        have := h4 k r' o' (by simpa using hk) (by simpa using ho')
        simp only [List.reverse_cons, List.append_assoc, List.singleton_append, List.length_cons] at this
        rw [show rs.length + (k + 1) = rs.length + 1 + k from by omega]
        simpa using this
    unfold regD at hd
    split at hd <;> first | (cases hd; done) | skip
    · rename_i hgd
      split at hd <;> first | (cases hd; done) | skip
      rename_i env' hput
      obtain ⟨hdb, hpv⟩ := putA_spec hput
      refine step .skip env' h cons al ⟨val_snoc ho hI.env hpv, ?_, ?_, ?_⟩ ⟨env, h, cons, al, hI, hdb, .inl ⟨hgd, rfl⟩⟩ hd
      · rw [heapOf_append, hI.heap]; rfl
      · intro a
        rw [hI.cons]
        constructor
        · rintro ⟨q, v, hh, h1, h2⟩
          exact ⟨q, v, hh, snoc_get.2 (.inl h1), h2⟩
        · rintro ⟨q, v, hh, h1, h2⟩
          rcases snoc_get.1 h1 with h1 | ⟨_, h1⟩
          · exact ⟨q, v, hh, h1, h2⟩
          · cases h1
      · intro a ao
        rw [hI.al]
        constructor
        · rintro ⟨v, h1⟩
          exact ⟨v, snoc_get.2 (.inl h1)⟩
        · rintro ⟨v, h1⟩
          rcases snoc_get.1 h1 with h1 | ⟨_, h1⟩
          · exact ⟨v, h1⟩
          · cases h1
    · rename_i hgd
      split at hd <;> first | (cases hd; done) | skip
      rename_i vs hvs
      split at hd <;> first | (cases hd; done) | skip
      rename_i r h' cons' al' hk
      split at hd <;> first | (cases hd; done) | skip
      rename_i env' hput
      obtain ⟨hdb, hpv⟩ := putA_spec hput
      have inv : ∀ (r' : Rk), (∀ t u, env'.get t = some u → (o.dst = some t ∧ u = r'.res) ∨ (o.dst ≠ some t ∧ env.get t = some u)) → isL r' = false → (∀ ao v, r' ≠ .alloc ao v) → InvR ops b env0 h0 (rs.reverse ++ [r']) env' h cons al := by
        intro r' hpv' hnl hna
        refine ⟨val_snoc ho hI.env hpv', ?_, ?_, ?_⟩
        · rw [heapOf_append, ← hI.heap, heapOf_none (by simpa using hnl)]
        · intro a
          rw [hI.cons]
          constructor
          · rintro ⟨q, v, hh, h1, h2⟩
            exact ⟨q, v, hh, snoc_get.2 (.inl h1), h2⟩
          · rintro ⟨q, v, hh, h1, h2⟩
            rcases snoc_get.1 h1 with h1 | ⟨_, h1⟩
            · exact ⟨q, v, hh, h1, h2⟩
            · subst h1; cases hnl
        · intro a ao
          rw [hI.al]
          constructor
          · rintro ⟨v, h1⟩
            exact ⟨v, snoc_get.2 (.inl h1)⟩
          · rintro ⟨v, h1⟩
            rcases snoc_get.1 h1 with h1 | ⟨_, h1⟩
            · exact ⟨v, h1⟩
            · exact absurd h1 (hna _ _)
      cases hkd : kd o.op with
      | pure =>
        rw [hkd] at hk
        dsimp only at hk
        split at hk <;> first | (cases hk; done) | skip
        rename_i v hv
        simp only [Option.some.injEq, Prod.mk.injEq] at hk
        obtain ⟨rfl, rfl, rfl, rfl⟩ := hk
        exact step _ env' h cons al (inv _ hpv rfl (by intro _ _ h; cases h)) ⟨env, h, cons, al, hI, hdb, .inr ⟨hgd, vs, hvs, by unfold KF; rw [hkd]; exact ⟨v, hv, rfl⟩⟩⟩ hd
      | read =>
        rw [hkd] at hk
        dsimp only at hk
        split at hk <;> first | (cases hk; done) | skip
        rename_i v hv
        simp only [Option.some.injEq, Prod.mk.injEq] at hk
        obtain ⟨rfl, rfl, rfl, rfl⟩ := hk
        exact step _ env' h cons al (inv _ hpv rfl (by intro _ _ h; cases h)) ⟨env, h, cons, al, hI, hdb, .inr ⟨hgd, vs, hvs, by unfold KF; rw [hkd]; exact ⟨v, rfl⟩⟩⟩ hd
      | alloc =>
        rw [hkd] at hk
        dsimp only at hk
        split at hk <;> first | (cases hk; done) | skip
        rename_i ao k hv
        simp only [Option.some.injEq, Prod.mk.injEq] at hk
        obtain ⟨rfl, rfl, rfl, rfl⟩ := hk
        refine step _ env' h cons _ ⟨val_snoc ho hI.env hpv, ?_, ?_, ?_⟩ ⟨env, h, cons, al, hI, hdb, .inr ⟨hgd, vs, hvs, by unfold KF; rw [hkd]; exact ⟨ao, k, hv, rfl⟩⟩⟩ hd
        · rw [heapOf_append, ← hI.heap]; rfl
        · intro a
          rw [hI.cons]
          constructor
          · rintro ⟨q, v, hh, h1, h2⟩
            exact ⟨q, v, hh, snoc_get.2 (.inl h1), h2⟩
          · rintro ⟨q, v, hh, h1, h2⟩
            rcases snoc_get.1 h1 with h1 | ⟨_, h1⟩
            · exact ⟨q, v, hh, h1, h2⟩
            · cases h1
        · intro a ao'
          rw [List.mem_cons, hI.al]
          constructor
          · rintro (h1 | ⟨v, h1⟩)
            · cases h1
              exact ⟨_, snoc_get.2 (.inr ⟨by simp, rfl⟩)⟩
            · exact ⟨v, snoc_get.2 (.inl h1)⟩
          · rintro ⟨v, h1⟩
            rcases snoc_get.1 h1 with h1 | ⟨h0, h1⟩
            · exact .inr ⟨v, h1⟩
            · cases h1
              left
              rw [h0]
              simp
      | loud =>
        rw [hkd] at hk
        dsimp only at hk
        split at hk <;> first | (cases hk; done) | skip
        rename_i v h1 hv
        simp only [Option.some.injEq, Prod.mk.injEq] at hk
        obtain ⟨rfl, rfl, rfl, rfl⟩ := hk
        refine step _ env' _ _ al ⟨val_snoc ho hI.env hpv, ?_, ?_, ?_⟩ ⟨env, h, cons, al, hI, hdb, .inr ⟨hgd, vs, hvs, by unfold KF; rw [hkd]; exact ⟨v, _, rfl, hv⟩⟩⟩ hd
        · rw [heapOf_append]; rfl
        · intro a
          rw [Nat.testBit_or, Bool.or_eq_true, hI.cons]
          constructor
          · rintro (⟨q, v, hh, h1, h2⟩ | h1)
            · exact ⟨q, v, hh, snoc_get.2 (.inl h1), h2⟩
            · exact ⟨rs.length, _, _, snoc_get.2 (.inr ⟨by simp, rfl⟩), h1⟩
          · rintro ⟨q, v, hh, h1, h2⟩
            rcases snoc_get.1 h1 with h1 | ⟨h3, h1⟩
            · exact .inl ⟨q, v, hh, h1, h2⟩
            · right
              rw [h3, List.length_reverse] at h2
              exact h2
        · intro a ao
          rw [hI.al]
          constructor
          · rintro ⟨v, h1⟩
            exact ⟨v, snoc_get.2 (.inl h1)⟩
          · rintro ⟨v, h1⟩
            rcases snoc_get.1 h1 with h1 | ⟨_, h1⟩
            · exact ⟨v, h1⟩
            · cases h1
end
end Go.Proofs.YtombcmhhocbedaaGreatDoor.Ex

/-
  The runner: a region that draws its order: what was checked of it. No condition.
-/
namespace Go.Proofs.YtombcmhhocbedaaGreatDoor.Ex
open Go
mutual
theorem AV.beq_eq : ∀ {a b : AV}, AV.beq a b = true → a = b
  | .bool a, b, h => by cases b <;> simp [AV.beq] at h; rw [h]
  | .int k a, b, h => by cases b <;> simp [AV.beq] at h; rw [h.1, h.2]
  | .sym k e, b, h => by cases b <;> simp [AV.beq] at h; rw [h.1, SE.beq_eq h.2]
  | .bsym c p, b, h => by cases b <;> simp [AV.beq] at h; rw [Cnd.beq_eq h.1, h.2]
  | .eptr n e s j, b, h => by cases b <;> simp [AV.beq] at h; rw [h.1.1, SE.beq_eq h.1.2, h.2.1, h.2.2]
  | .dsl n e s, b, h => by cases b <;> simp [AV.beq] at h; rw [h.1, SE.beq_eq h.2.1, h.2.2]
  | .ssl n e l s, b, h => by cases b <;> simp [AV.beq] at h; rw [h.1.1, SE.beq_eq h.1.2, h.2.1, h.2.2]
  | .rsl i, b, h => by cases b <;> simp [AV.beq] at h; rw [h]
  | .rptr i e, b, h => by cases b <;> simp [AV.beq] at h; rw [h.1, SE.beq_eq h.2]
  | .str _, b, h => by cases b <;> simp [AV.beq] at h
  | .nilp, b, h => by cases b <;> simp [AV.beq] at h; rfl
  | .ptr n o, b, h => by
    cases b <;> simp [AV.beq] at h
    rw [h.1, h.2]
  | .gptr n o, b, h => by
    cases b <;> simp [AV.beq] at h
    rw [h.1, h.2]
  | .nilsl, b, h => by cases b <;> simp [AV.beq] at h; rfl
  | .sl n o l s r, b, h => by
    cases b <;> simp [AV.beq] at h
    obtain ⟨h1, h2, h3, h4, h5⟩ := h
    rename_i n' o' l' s' r'
    have : r = r' := by
      cases r <;> cases r' <;> first | rfl | (cases h5; done) | skip
      simp at h5
      rw [h5]
    rw [h1, h2, h3, h4, this]
  | .esl n, b, h => by cases b <;> simp [AV.beq] at h; rw [h]
  | .zsl, b, h => by cases b <;> simp [AV.beq] at h; rfl
  | .osl e, b, h => by cases b <;> simp [AV.beq] at h; rw [SE.beq_eq h]
  | .nilmap, b, h => by cases b <;> simp [AV.beq] at h; rfl
  | .map n, b, h => by cases b <;> simp [AV.beq] at h; rw [h]
  | .fn f x y, b, h => by
    cases b with
    | fn f' x' y' =>
      cases f <;> cases f' <;> simp [AV.beq] at h
      obtain ⟨h1, h2, h3⟩ := h
      rw [h1, AV.beqs_eq h2, AV.beqs_eq h3]
    | _ => cases f <;> simp [AV.beq] at h
  | .nilfn, b, h => by cases b <;> simp [AV.beq] at h; rfl
  | .nilif, b, h => by cases b <;> simp [AV.beq] at h; rfl
  | .ifc _ _, b, h => by cases b <;> simp [AV.beq] at h
  | .agg l, b, h => by
    cases b <;> simp [AV.beq] at h
    rw [AV.beqs_eq h]
  | .tup l, b, h => by
    cases b <;> simp [AV.beq] at h
    rw [AV.beqs_eq h]
theorem AV.beqs_eq : ∀ {a b : List AV}, AV.beqs a b = true → a = b
  | [], b, h => by cases b <;> simp [AV.beqs] at h; rfl
  | x :: a, b, h => by
    cases b with
    | nil => simp [AV.beqs] at h
    | cons y b =>
      simp [AV.beqs] at h
      rw [AV.beq_eq h.1, AV.beqs_eq h.2]
end
variable [Nums]
section
variable {P : Program} {call : FuncId → List AV → AH → Option (AV × AH)} {nt : Nat} {ops : Array Oper} {b : T Nat} {base : Nat} {env0 : T AV} {h0 : AH}
omit [Nums] in
theorem take_get {α : Type} {l : List α} {n i : Nat} {x : α} : (l.take n)[i]? = some x ↔ i < n ∧ l[i]? = some x := by
  rw [List.getElem?_take]
  by_cases h : i < n <;> simp [h]
omit [Nums] in
theorem Val.ext {p q : List Rk} {n t : Nat} {v : AV} (h : Val ops env0 p (below n) t v) (he : ∀ i, i < n → p[i]? = q[i]?) : Val ops env0 q (below n) t v := by
  rcases h with ⟨i, r, h1, h2, h3, h4, h5⟩ | h
  · refine .inl ⟨i, r, h1, h2, ?_, h4, h5⟩
    rw [← he i (by simpa [below] using h1)]
    exact h3
  · exact .inr h
omit [Nums] in
theorem mayAt_ok {i j : Nat} : ∀ {rs : List Rk} {l : Nat}, (∀ (k : Nat) v h, rs[k]? = some (.loud v h) → (l + k < j → ahead b i (l + k) = false) ∧ (j ≤ l + k → ahead b (l + k) i = false)) → mayAt b i j l rs = true
  | [], _, _ => rfl
  | r :: rs, l, h => by
    have ih : mayAt b i j (Nat.add l 1) rs = true := mayAt_ok fun k v h' hk => by
      have := h (k + 1) v h' (by simpa using hk)
      have e : Nat.add l 1 + k = l + (k + 1) := by show l + 1 + k = _; omega
      rw [e]
      exact this
    cases r with
    | loud v h' =>
      have := h 0 v h' rfl
      rw [Nat.add_zero] at this
      unfold mayAt
      split
      · rename_i hlt
        rw [this.1 (by simpa using hlt)]
        exact ih
      · rename_i hlt
        rw [this.2 (by have := blt_no hlt; omega)]
        exact ih
    | skip => exact ih
    | val _ => exact ih
    | alloc _ _ => exact ih
def ReadAt (P : Program) (b : T Nat) (base : Nat) (h0 : AH) (all : List Rk) (al : List (Nat × AO)) (op : Op) (vs : List AV) (v : AV) (i j : Nat) : Prop :=
  mayAt b i j 0 all = true → ∃ c : Nat, (∀ a, c.testBit a = true ↔ ConsP b (all.take j) a) ∧ aread P op vs (overlay base (fun a => ahead b a i && !(c.testBit a)) al (heapOf h0 (all.take j))) = some v
theorem next_spec {all : List Rk} {al : List (Nat × AO)} {op : Op} {vs : List AV} {v : AV} {i : Nat} : ∀ (rs pre : List Rk) (cons : Nat), all = pre ++ rs → (∀ a, cons.testBit a = true ↔ ConsP b pre a) →
    sameNext P b base all al op vs v i pre.length (heapOf h0 pre) cons rs = true → ∀ (q : Nat) u h, pre.length ≤ q → all[q]? = some (.loud u h) → ReadAt P b base h0 all al op vs v i (q + 1)
  | [], pre, cons, he, hc, hn, q, u, h, hq, ha => by
    rw [he, List.append_nil, List.getElem?_eq_none hq] at ha
    cases ha
  | r :: rs, pre, cons, he, hc, hn, q, u, h, hq, ha => by
    have he' : all = (pre ++ [r]) ++ rs := by rw [he]; simp
    have hlen : (pre ++ [r]).length = pre.length + 1 := by simp
    have htake : all.take (pre.length + 1) = pre ++ [r] := by rw [he', List.take_left' hlen]
    have other : isL r = false → sameNext P b base all al op vs v i (pre.length + 1) (heapOf h0 pre) cons rs = true → ReadAt P b base h0 all al op vs v i (q + 1) := by
      intro hnl hn'
      have hc' : ∀ a, cons.testBit a = true ↔ ConsP b (pre ++ [r]) a := by
        intro a
        rw [hc]
        constructor
        · rintro ⟨l, v, h, h1, h2⟩
          exact ⟨l, v, h, snoc_get.2 (.inl h1), h2⟩
        · rintro ⟨l, v, h, h1, h2⟩
          rcases snoc_get.1 h1 with h1 | ⟨_, h1⟩
          · exact ⟨l, v, h, h1, h2⟩
          · subst h1; cases hnl
      refine next_spec rs (pre ++ [r]) cons he' hc' ?_ q u h ?_ ha
      · rw [hlen, heapOf_append, heapOf_none (q := [r]) (by simpa using hnl)]
        exact hn'
      · rw [hlen]
        rcases Nat.lt_or_ge pre.length q with h1 | h1
        · omega
        · have : q = pre.length := by omega
          rw [this, he, List.getElem?_append_right (Nat.le_refl _)] at ha
          simp at ha
          subst ha
          cases hnl
    cases r with
    | loud u' h' =>
      unfold sameNext at hn
      dsimp only at hn
      split at hn <;> first | (cases hn; done) | skip
      rename_i hcheck
      have hc' : ∀ a, (cons ||| bitsAt b pre.length).testBit a = true ↔ ConsP b (pre ++ [.loud u' h']) a := by
        intro a
        rw [Nat.testBit_or, Bool.or_eq_true, hc]
        constructor
        · rintro (⟨l, v, h, h1, h2⟩ | h1)
          · exact ⟨l, v, h, snoc_get.2 (.inl h1), h2⟩
          · exact ⟨pre.length, _, _, snoc_get.2 (.inr ⟨rfl, rfl⟩), h1⟩
        · rintro ⟨l, v, h, h1, h2⟩
          rcases snoc_get.1 h1 with h1 | ⟨h3, h1⟩
          · exact .inl ⟨l, v, h, h1, h2⟩
          · right
            rw [h3] at h2
            exact h2
      rcases Nat.lt_or_ge pre.length q with h1 | h1
      · refine next_spec rs (pre ++ [.loud u' h']) _ he' hc' ?_ q u h (by rw [hlen]; omega) ha
        rw [hlen, heapOf_append]
        exact hn
      · have hqe : q = pre.length := by omega
        subst hqe
        intro hmay
        refine ⟨cons ||| bitsAt b pre.length, ?_, ?_⟩
        · rw [htake]; exact hc'
        · rw [htake, heapOf_append]
          have hmay' : mayAt b i (Nat.add pre.length 1) 0 all = true := hmay
          unfold okAt at hcheck
          rw [hmay'] at hcheck
          dsimp only at hcheck
          split at hcheck <;> first | (cases hcheck; done) | skip
          rename_i u2 hu2
          have := AV.beq_eq hcheck
          subst this
          exact hu2
    | skip => exact other rfl hn
    | val _ => exact other rfl hn
    | alloc _ _ => exact other rfl hn
theorem sameAll_spec {all : List Rk} {al : List (Nat × AO)} {op : Op} {vs : List AV} {v : AV} {i : Nat} (h : sameAll P b base all al op vs v i h0 = true) (j : Nat) (hj : j = 0 ∨ ∃ q u g, j = q + 1 ∧ all[q]? = some (.loud u g)) :
    ReadAt P b base h0 all al op vs v i j := by
  unfold sameAll at h
  split at h <;> first | (cases h; done) | skip
  rename_i hcheck
  have h0c : ∀ a, (0 : Nat).testBit a = true ↔ ConsP b [] a := by
    intro a
    simp [ConsP]
  rcases hj with rfl | ⟨q, u, g, rfl, hq⟩
  · intro hmay
    refine ⟨0, by simpa using h0c, ?_⟩
    unfold okAt at hcheck
    rw [hmay] at hcheck
    dsimp only at hcheck
    split at hcheck <;> first | (cases hcheck; done) | skip
    rename_i u2 hu2
    have := AV.beq_eq hcheck
    subst this
    exact hu2
  · exact next_spec all [] 0 (by simp) h0c h q u g (Nat.zero_le _) hq
theorem reads_facts {all : List Rk} {al : List (Nat × AO)} : ∀ (l : List Oper) (p tail : List Rk) (env : T AV), reads P nt ops b base h0 all al p.length l tail env = true → (∀ k, l[k]? = ops[p.length + k]?) →
    (∀ t v, env.get t = some v → Val ops env0 p (below p.length) t v) → ∀ (k : Nat) v o, tail[k]? = some (.val v) → l[k]? = some o → kd o.op = .read →
    ∃ env vs, (∀ t v, env.get t = some v → Val ops env0 (p ++ tail.take k) (below (p.length + k)) t v) ∧ evs env o.op.operands.toList = some vs ∧ sameAll P b base all al o.op vs v (p.length + k) h0 = true
  | [], p, tail, env, h, hl, he, k, v, o, hk, ho, hkd => by simp at ho
  | o :: l, p, [], env, h, hl, he, k, v, o', hk, ho, hkd => by simp at hk
  | o :: l, p, r :: rs, env, h, hl, he, k, v, o', hk, ho, hkd => by
    unfold reads at h
    split at h <;> first | (cases h; done) | skip
    rename_i hcheck
    split at h <;> first | (cases h; done) | skip
    rename_i env' hput
    have hop : ops[p.length]? = some o := by simpa using (hl 0).symm
    cases k with
    | zero =>
      simp at hk ho
      subst hk; subst ho
      rw [hkd] at hcheck
      dsimp only at hcheck
      split at hcheck <;> first | (cases hcheck; done) | skip
      rename_i vs hvs
      exact ⟨env, vs, by simpa using he, hvs, hcheck⟩
    | succ k =>
      obtain ⟨_, hpv⟩ := putA_spec hput
      have hlen : (p ++ [r]).length = p.length + 1 := by simp
      obtain ⟨e1, vs, h1, h2, h3⟩ := reads_facts l (p ++ [r]) rs env' (by rw [hlen]; exact h) (fun k => by
        have := hl (k + 1)
        rw [List.getElem?_cons_succ] at this
        rw [this, hlen]
        congr 1
        omega) (val_snoc hop he hpv) k v o' (by simpa using hk) (by simpa using ho) hkd
      refine ⟨e1, vs, fun t u hu => ?_, h2, ?_⟩
      · have := h1 t u hu
        rw [hlen] at this
        rw [show p.length + (k + 1) = p.length + 1 + k from by omega]
        simpa using this
      · rw [hlen] at h3
        rw [show p.length + (k + 1) = p.length + 1 + k from by omega]
        exact h3
/-! what is ahead -/
def Closed (ops : Array Oper) (L : Nat → Bool) : Prop := ∀ i o, ops[i]? = some o → L i = true → ∀ e ∈ o.after.toList, Region.binds .any e = true → L e.on = true
omit [Nums] in
theorem bfOf_spec {t : T Nat} {j : Nat} : ∀ {l : List Edge}, (bfOf t l).testBit j = true → ∃ e ∈ l, Region.binds .any e = true ∧ (j = e.on ∨ ∃ y, t.get e.on = some y ∧ y.testBit j = true)
  | [], h => by simp [bfOf] at h
  | e :: l, h => by
    unfold bfOf at h
    split at h
    · rename_i hb
      rw [Nat.testBit_or, Nat.testBit_or, Bool.or_eq_true, Bool.or_eq_true] at h
      rcases h with (h | h) | h
      · refine ⟨e, List.mem_cons_self, hb, .inl ?_⟩
        rw [Nat.testBit_two_pow] at h
        simpa using (of_decide_eq_true h).symm
      · refine ⟨e, List.mem_cons_self, hb, .inr ?_⟩
        split at h
        · rename_i y hy
          exact ⟨y, hy, h⟩
        · simp at h
      · obtain ⟨e', h1, h2⟩ := bfOf_spec h
        exact ⟨e', List.mem_cons_of_mem _ h1, h2⟩
    · obtain ⟨e', h1, h2⟩ := bfOf_spec h
      exact ⟨e', List.mem_cons_of_mem _ h1, h2⟩
def DepOk (ops : Array Oper) (t : T Nat) : Prop := ∀ (i x : Nat), t.get i = some x → ∀ j, x.testBit j = true → ∀ L, Closed ops L → L i = true → L j = true
omit [Nums] in
theorem bfs_ok : ∀ (l : List Oper) (i : Nat) (t : T Nat), (∀ k, l[k]? = ops[i + k]?) → DepOk ops t → DepOk ops (bfs i l t)
  | [], i, t, _, h => h
  | o :: l, i, t, hl, h => by
    unfold bfs
    refine bfs_ok l (i + 1) _ (fun k => ?_) ?_
    · have := hl (k + 1)
      rw [List.getElem?_cons_succ] at this
      rw [this]
      congr 1
      omega
    · intro q x hq j hj L hL hi
      rcases T.get_put hq with ⟨h1, h2⟩ | ⟨_, h2⟩
      · cases h2
        subst h1
        obtain ⟨e, he, hb, h3⟩ := bfOf_spec hj
        have hLe : L e.on = true := hL _ o (by simpa using (hl 0).symm) hi e he hb
        rcases h3 with rfl | ⟨y, hy, hyj⟩
        · exact hLe
        · exact h _ _ hy _ hyj L hL hLe
      · exact h _ _ h2 _ hj L hL hi
omit [Nums] in
theorem ahead_dep {i j : Nat} (h : ahead (bf ops) j i = true) {L : Nat → Bool} (hL : Closed ops L) (hi : L i = true) : L j = true := by
  have hd : DepOk ops (bf ops) := bfs_ok ops.toList 0 .e (by simp) (fun i x h => by rw [T.get_e] at h; cases h)
  unfold ahead bitsAt at h
  split at h
  · rename_i x hx
    exact hd _ _ hx _ h L hL hi
  · simp at h
omit [Nums] in
theorem memB_spec {t : Nat} : ∀ {l : List Nat}, t ∈ l → memB t l = true
  | [], h => by cases h
  | x :: l, h => by
    unfold memB
    split
    · rfl
    · rename_i hx
      rcases List.mem_cons.1 h with h1 | h1
      · subst h1
        simp at hx
      · exact memB_spec h1
omit [Nums] in
theorem chk2_spec {o : Oper} {i : Nat} : ∀ {l : List Oper} {j : Nat}, chk2 ops b o i j l = true → ∀ (k : Nat) q, l[k]? = some q → i ≠ j + k → ((∃ d, q.dst = some d ∧ d ∈ looks ops o) ∨ (isLoud o = true ∧ isLoud q = true)) →
    (j + k < i → ahead b (j + k) i = true) ∧ (i < j + k → ahead b i (j + k) = true)
  | [], j, h, k, q, hk, _, _ => by simp at hk
  | p :: l, j, h, k, q, hk, hne, hc => by
    have tail : chk2 ops b o i (Nat.add j 1) l = true := by
      unfold chk2 at h
      split at h
      · exact h
      · split at h
        · exact h
        · split at h
          · exact h
          · cases h
    cases k with
    | succ k =>
      have := chk2_spec tail k q (by simpa using hk) (by show i ≠ j + 1 + k; omega) hc
      have e : Nat.add j 1 + k = j + (k + 1) := by show j + 1 + k = _; omega
      rw [e] at this
      exact this
    | zero =>
      simp at hk
      subst hk
      rw [Nat.add_zero] at hne ⊢
      unfold chk2 at h
      split at h
      · rename_i hb
        exact absurd (Nat.eq_of_beq_eq_true hb) hne
      · have hcond : touch ops o p = true := by
          unfold touch
          rcases hc with ⟨d, h1, h2⟩ | ⟨h1, h2⟩
          · rw [h1]
            simp [memB_spec h2]
          · simp [h1, h2]
        rw [hcond] at h
        dsimp only at h
        split at h <;> first | (cases h; done) | skip
        rename_i hord
        split at hord
        · rename_i hlt
          have : j < i := by simpa using hlt
          exact ⟨fun _ => hord, fun h => by omega⟩
        · rename_i hlt
          have := blt_no hlt
          exact ⟨fun h => by omega, fun _ => hord⟩
omit [Nums] in
theorem chk1_spec : ∀ {l : List Oper} {i : Nat}, chk1 ops b i l = true → ∀ (k : Nat) o, l[k]? = some o → chk2 ops b o (i + k) 0 ops.toList = true
  | [], i, h, k, o, hk => by simp at hk
  | p :: l, i, h, k, o, hk => by
    unfold chk1 at h
    split at h <;> first | (cases h; done) | skip
    rename_i h2
    cases k with
    | zero =>
      simp at hk
      subst hk
      exact h2
    | succ k =>
      have := chk1_spec h k o (by simpa using hk)
      have e : Nat.add i 1 + k = i + (k + 1) := by show i + 1 + k = _; omega
      rw [e] at this
      exact this
omit [Nums] in
theorem edgesLt_spec : ∀ {l : List Oper} {i : Nat}, edgesLt i l = true → ∀ (k : Nat) o, l[k]? = some o → ∀ e ∈ o.after.toList, Region.binds .any e = true → e.on < i + k
  | [], i, h, k, o, hk => by simp at hk
  | p :: l, i, h, k, o, hk => by
    unfold edgesLt at h
    split at h <;> first | (cases h; done) | skip
    rename_i h2
    cases k with
    | zero =>
      simp at hk
      subst hk
      intro e he hb
      have := List.all_eq_true.1 h2 e he
      simpa [hb] using this
    | succ k =>
      have := edgesLt_spec h k o (by simpa using hk)
      intro e he hb
      have h3 := this e he hb
      have e' : Nat.add i 1 + k = i + (k + 1) := by show i + 1 + k = _; omega
      omega
omit [Nums] in
/-- two operations that touch one slot, or are both loud, are ordered -/
theorem chk_ord (h : chk ops = true) {i j : Nat} {o q : Oper} (hi : ops[i]? = some o) (hj : ops[j]? = some q) (hne : i ≠ j) (hc : (∃ d, q.dst = some d ∧ d ∈ looks ops o) ∨ (isLoud o = true ∧ isLoud q = true)) :
    (j < i → ahead (bf ops) j i = true) ∧ (i < j → ahead (bf ops) i j = true) := by
  unfold chk at h
  rw [Bool.and_eq_true] at h
  have h1 := chk1_spec h.1 i o (by simpa using hi)
  rw [Nat.zero_add] at h1
  have := chk2_spec h1 j q (by simpa using hj) (by omega) hc
  rw [Nat.zero_add] at this
  exact this
omit [Nums] in
theorem chk_lt (h : chk ops = true) {i : Nat} {o : Oper} (hi : ops[i]? = some o) : ∀ e ∈ o.after.toList, Region.binds .any e = true → e.on < i := by
  unfold chk at h
  rw [Bool.and_eq_true] at h
  intro e he hb
  have := edgesLt_spec h.2 i o (by simpa using hi) e he hb
  omega
end
end Go.Proofs.YtombcmhhocbedaaGreatDoor.Ex
