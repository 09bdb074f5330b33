/-
  The runner: operations that change a block, or call. No condition.
-/
import Derived.Test.YtigakendeghoaaaExI
namespace Go.Proofs.Ytigakendeghoaaa.Ex
open Go
variable [Nums]
section
variable {P : Program} {ρ ρ' : Ren}
omit [Nums] in
theorem splice_get {cur : List Value} {ys : List Value} {off : Nat} (h : off + ys.length ≤ cur.length) (i : Nat) :
    (cur.take off ++ ys ++ cur.drop (off + ys.length))[i]? = if off ≤ i ∧ i < off + ys.length then ys[i - off]? else cur[i]? := by
  have h1 : (cur.take off).length = off := by rw [List.length_take]; omega
  by_cases h0 : i < off
  · rw [if_neg (by omega), List.append_assoc, List.getElem?_append_left (by omega), List.getElem?_take, if_pos h0]
  · by_cases h2 : i < off + ys.length
    · rw [if_pos ⟨by omega, h2⟩, List.getElem?_append_left (by rw [List.length_append]; omega), List.getElem?_append_right (by omega), h1]
    · rw [if_neg (by omega), List.getElem?_append_right (by rw [List.length_append]; omega), List.length_append, h1, List.getElem?_drop]
      congr 1
      omega
theorem splice_ok {cs : T AV} {cur : Array Value} {l : List AV} {ys : List Value} {off : Nat} (hc : CellsOk ρ cs cur) (hl : VRs ρ l ys) (h1 : allOne l = true) (hfit : off + ys.length ≤ cur.size) :
    CellsOk ρ (setN cs off l) (cur.toList.take off ++ ys ++ cur.toList.drop (off + ys.length)).toArray := by
  intro i v hv
  have hg := splice_get (cur := cur.toList) (ys := ys) (off := off) (by simpa using hfit) i
  rcases setN_get hv with ⟨k1, k2, k3⟩ | ⟨k1, k2⟩
  · obtain ⟨y, hy, hr⟩ := hl.get k3
    refine ⟨allOne_mem h1 v (List.mem_of_getElem? k3), y, ?_, hr⟩
    rw [List.getElem?_toArray, hg, if_pos ⟨k1, by rw [← hl.len]; exact k2⟩]
    exact hy
  · obtain ⟨o1, y, hy, hr⟩ := hc i v k2
    refine ⟨o1, y, ?_, hr⟩
    rw [List.getElem?_toArray, hg, if_neg (by rw [← hl.len]; omega)]
    simpa using hy
omit [Nums] in
theorem splice_size {cur : Array Value} {ys : List Value} {off : Nat} (hfit : off + ys.length ≤ cur.size) : (cur.toList.take off ++ ys ++ cur.toList.drop (off + ys.length)).toArray.size = cur.size := by
  simp only [List.size_toArray, List.length_append, List.length_take, List.length_drop, Array.length_toList]
  omega
omit [Nums] in
theorem fresh_spec {h h' : AH} {o : AO} (hf : fresh h o = some h') : h'.next = h.next + 1 ∧ ∀ j v, h'.get j = some v → (j = h.next ∧ v = o) ∨ (j ≠ h.next ∧ h.get j = some v) := by
  unfold fresh at hf
  split at hf <;> first | (cases hf; done) | skip
  simp only [Option.some.injEq] at hf
  subst hf
  obtain ⟨m, n⟩ := h
  refine ⟨rfl, fun j v hv => ?_⟩
  rcases T.get_put (t := m) (k := n) (x := some o) hv with ⟨h1, h2⟩ | ⟨h1, h2⟩
  · exact .inl ⟨h1, by cases h2; rfl⟩
  · exact .inr ⟨h1, h2⟩
omit [Nums] in
theorem put_spec {h : AH} {n : Nat} {x : Option AO} {j : Nat} {v : AO} (hv : (h.put n x).get j = some v) : (j = n ∧ x = some v) ∨ (j ≠ n ∧ h.get j = some v) := by
  obtain ⟨m, nx⟩ := h
  exact T.get_put hv
omit [Nums] in
theorem put_next {h : AH} {n : Nat} {x : Option AO} : (h.put n x).next = h.next := by
  obtain ⟨m, nx⟩ := h
  rfl
/-- a new block, under the next name -/
theorem Stp.new {h h' : AH} {w w' : World} {o : AO} {s : Nat} {obj : Obj} (hr : HR ρ h.get h.next w) (g1 : Nat → Option AO) (hg1 : ∀ m o, g1 m = some o → h.get m = some o) (hn : h'.next = h.next + 1)
    (hg' : ∀ j v, h'.get j = some v → (j = h.next ∧ v = o) ∨ (j ≠ h.next ∧ g1 j = some v)) (hO : OR ρ o s (some obj))
    (hw : w'.heap = w.heap.push obj) (os : w'.os = w.os) (tape : w'.tape = w.tape) (output : w'.output = w.output) :
    Stp ρ h.get h.next w (upd ρ h.next (w.heap.size, s)) h'.get h'.next w' ∧ (upd ρ h.next (w.heap.size, s)) h.next = some (w.heap.size, s) := by
  refine ⟨(Stp.name (g1 := g1) (g' := h'.get) (o := o) (w' := w') hr h.next (hr.fresh _ (Nat.le_refl _)) h'.next (by omega) (by omega) (.inr trivial) (b := w.heap.size) (s := s) ?_ os tape output (by rw [hw]; simp) ?_ ?_ (.inl (Nat.le_refl _)) hg1 hg').2.2 (Nat.le_refl _), by simp [upd]⟩
  · rw [hw]; simpa using hO
  · intro c hc _
    rw [hw, Array.getElem?_push_lt hc, Array.getElem?_eq_getElem hc]
  · intro m s' hm hp
    obtain ⟨o', ho'⟩ := Option.isSome_iff_exists.1 hm
    obtain ⟨b, s1, hb, hO1⟩ := hr.obj m o' (hg1 m o' ho')
    rw [hp] at hb
    cases hb
    rw [Array.getElem?_eq_none (Nat.le_refl _)] at hO1
    exact hO1.notNone
theorem getN_src {h : AH} {nx : Nat} {w : World} {sz m : Nat} {x : AV} {u : Value} {l : List AV} (hr : HR ρ h.get nx w) (hs : srcCells h sz x = some (m, l)) (hx : VR ρ x u) :
    (m = 0 ∧ ((u = .slice none 0 0) ∨ ∃ a c, u = .slice (some a) 0 c)) ∨
    ∃ (a : Addr) (c : Nat) (ys : List Value), u = .slice (some a) m c ∧ ys.length = m * sz ∧ VRs ρ l ys ∧ (∀ j v, ys[j]? = some v → w.cell? (a.add j) = some v) ∧ (∀ y ∈ ys, y.oneCell' = true) ∧ allOne l = true := by
  unfold srcCells at hs
  split at hs <;> first | (cases hs; done) | skip
  · simp only [Option.some.injEq, Prod.mk.injEq] at hs
    obtain ⟨rfl, rfl⟩ := hs
    unfold VR at hx
    exact .inl ⟨rfl, .inl hx⟩
  · simp only [Option.some.injEq, Prod.mk.injEq] at hs
    obtain ⟨rfl, rfl⟩ := hs
    unfold VR at hx
    exact .inl ⟨rfl, .inr hx⟩
  · rename_i n off len sz' r
    split at hs <;> first | (cases hs; done) | skip
    rename_i hsz
    have hsz := Nat.eq_of_beq_eq_true hsz
    subst hsz
    split at hs <;> first | (cases hs; done) | skip
    rename_i cs k e hg
    split at hs <;> first | (cases hs; done) | skip
    rename_i l' hl
    simp only [Option.some.injEq, Prod.mk.injEq] at hs
    obtain ⟨rfl, rfl⟩ := hs
    unfold VR at hx
    obtain ⟨b, s, c, hb, rfl, _⟩ := hx
    obtain ⟨b', s', hb', hO⟩ := hr.obj _ _ hg
    rw [hb] at hb'
    cases hb'
    obtain ⟨cur, hcur, hs, hk, hcells⟩ := hO
    obtain ⟨ys, hyl, hrs, hat, hone⟩ := getN_sound hcells hl
    refine .inr ⟨_, c, ys, rfl, hyl, hrs, fun j v hv => ?_, hone, ?_⟩
    · have := hat j v hv
      rw [Addr.add_mid]
      simp [World.cell?, hcur, this]
    · have : ∀ {n i : Nat} {l : List AV}, getN cs i n = some l → allOne l = true := by
        intro n
        induction n with
        | zero => intro i l h; simp only [getN, Option.some.injEq] at h; subst h; rfl
        | succ n ih =>
          intro i l h
          unfold getN at h
          split at h <;> first | (cases h; done) | skip
          rename_i v hv
          split at h <;> first | (cases h; done) | skip
          rename_i m hm
          simp only [Option.some.injEq] at h; subst h
          unfold allOne
          rw [(hcells _ _ hv).1]
          exact ih hm
      exact this hl
omit [Nums] in
theorem sizes_zero {e : TypeId} {i : TypeInfo} {z : Value} (hz : z.cells.size = i.size) (n : Nat) : (Builtin.zeroCells z.cells n).size = n * i.size := by rw [size_zeroCells, hz]
omit [Nums] in
theorem append_zero {t e : TypeId} {i : TypeInfo} (hu : P.underlying t = some (.slice e)) (hi : P.info? e = some i) (ty : TypeId) {b : Option Addr} {len c : Nat} (hlc : len ≤ c) {u : Value}
    (hx : u = .slice none 0 0 ∨ ∃ a c, u = .slice (some a) 0 c) (w : World) : (Builtin.append_ #[t, t] ty #[.slice b len c, u]).run P w = .ok (.slice b len c) w := by
  rcases hx with rfl | ⟨a, c', rfl⟩
  · cases b with
    | none => simp [Builtin.append_, run_underlying hu w, sizeOf, typeInfo, hi, Builtin.lenOf, Builtin.firstCells, hlc]
    | some b => simp [Builtin.append_, run_underlying hu w, sizeOf, typeInfo, hi, Builtin.lenOf, Builtin.firstCells, hlc, storeCells]
  · cases b with
    | none => simp [Builtin.append_, run_underlying hu w, sizeOf, typeInfo, hi, Builtin.lenOf, Builtin.firstCells, hlc, loadCells, loadCellsFrom]
    | some b => simp [Builtin.append_, run_underlying hu w, sizeOf, typeInfo, hi, Builtin.lenOf, Builtin.firstCells, hlc, storeCells, loadCells, loadCellsFrom]
theorem append_sound {t ty : TypeId} {s x v : AV} {u1 u2 : Value} {h h' : AH} {w : World} (ha : aappend P t s x h = some (v, h')) (hr : HR ρ h.get h.next w) (hs : VR ρ s u1) (hx : VR ρ x u2) :
    ∃ ρ' y w', (Builtin.append_ #[t, t] ty #[u1, u2]).run P w = .ok y w' ∧ Stp ρ h.get h.next w ρ' h'.get h'.next w' ∧ VR ρ' v y := by
  unfold aappend at ha
  split at ha <;> first | (cases ha; done) | skip
  rename_i e hu
  split at ha <;> first | (cases ha; done) | skip
  rename_i i hi
  split at ha <;> first | (cases ha; done) | skip
  rename_i hpos
  have hpos : 0 < i.size := by simpa using hpos
  split at ha <;> first | (cases ha; done) | skip
  rename_i z hz
  split at ha <;> first | (cases ha; done) | skip
  rename_i hzs
  have hzs := Nat.eq_of_beq_eq_true hzs
  split at ha <;> first | (cases ha; done) | skip
  · -- nothing
    rename_i l hsrc
    have h0 : u2 = .slice none 0 0 ∨ ∃ a c, u2 = .slice (some a) 0 c := by
      rcases getN_src hr hsrc hx with ⟨_, h⟩ | ⟨a, c, _, rfl, _⟩
      · exact h
      · exact .inr ⟨a, c, rfl⟩
    split at ha <;> first | (cases ha; done) | skip
    all_goals (simp only [Option.some.injEq, Prod.mk.injEq] at ha; obtain ⟨rfl, rfl⟩ := ha)
    · have hs' := hs
      unfold VR at hs'
      subst hs'
      exact ⟨ρ, _, w, append_zero hu hi ty (Nat.le_refl _) h0 w, Stp.refl hr, hs⟩
    · have hs' := hs
      unfold VR at hs'
      obtain ⟨a, c, rfl⟩ := hs'
      exact ⟨ρ, _, w, append_zero hu hi ty (Nat.zero_le _) h0 w, Stp.refl hr, hs⟩
    · have hs' := hs
      unfold VR at hs'
      obtain ⟨b, s0, c, _, rfl, hlc, _⟩ := hs'
      exact ⟨ρ, _, w, append_zero hu hi ty hlc h0 w, Stp.refl hr, hs⟩
  · rename_i m news hm0 hsrc
    have hm : 0 < m := by
      rcases Nat.eq_zero_or_pos m with h0 | h0
      · exact absurd h0 hm0
      · exact h0
    obtain ⟨a2, c2, ys, rfl, hyl, hys, hcell, hone, hall⟩ : ∃ (a : Addr) (c : Nat) (ys : List Value), u2 = .slice (some a) m c ∧ ys.length = m * i.size ∧ VRs ρ news ys ∧ (∀ j v, ys[j]? = some v → w.cell? (a.add j) = some v) ∧ (∀ y ∈ ys, y.oneCell' = true) ∧ allOne news = true := by
      rcases getN_src hr hsrc hx with ⟨h1, _⟩ | h1
      · omega
      · exact h1
    split at ha <;> first | (cases ha; done) | skip
    · -- onto nil
      split at ha <;> first | (cases ha; done) | skip
      rename_i h63
      have h63 := Nat.le_of_ble_eq_true h63
      split at ha <;> first | (cases ha; done) | skip
      rename_i hby
      have hby := Nat.le_of_ble_eq_true hby
      split at ha <;> first | (cases ha; done) | skip
      rename_i h1 hfr
      simp only [Option.some.injEq, Prod.mk.injEq] at ha
      obtain ⟨rfl, rfl⟩ := ha
      unfold VR at hs
      subst hs
      have hby' : m * i.bytes ≤ 140737488355328 := hby
      have hrun := run_append_nil (P := P) w t ty e i z hu hi hz a2 m c2 ys hyl hcell hm (by omega) (by omega)
      obtain ⟨hn, hg⟩ := fresh_spec hfr
      have hge := grownCap_ge w m 0 e
      have hcm : grownCap w m 0 e ≤ maxLen := grownCap_le_maxLen w m 0 e (by unfold maxLen; omega)
      have hO : OR ρ (cellsOf e news) (grownCap w m 0 e * i.size) (some (.cells (ys.toArray ++ Builtin.zeroCells z.cells (grownCap w m 0 e - m)) e (0, 0))) := by
        refine ⟨_, rfl, ?_, ?_, fun j v hv => ?_⟩
        · rw [Array.size_append, List.size_toArray, sizes_zero (e := e) hzs, hyl, ← Nat.add_mul]
          congr 1
          omega
        · have := hys.len
          rw [this, hyl]
          exact Nat.mul_le_mul_right _ hge
        · rcases setN_get hv with ⟨_, _, h3⟩ | ⟨_, h3⟩
          · rw [Nat.sub_zero] at h3
            obtain ⟨y, hy, hr'⟩ := hys.get h3
            refine ⟨allOne_mem hall v (List.mem_of_getElem? h3), y, ?_, hr'⟩
            have hlt := (List.getElem?_eq_some_iff.1 hy).1
            rw [Array.getElem?_append_left (by simpa using hlt)]
            simpa using hy
          · rw [T.get_e] at h3; cases h3
      obtain ⟨hst, hup⟩ := Stp.new (w' := w.drew.alloc (.cells (ys.toArray ++ Builtin.zeroCells z.cells (grownCap w m 0 e - m)) e)) hr h.get (fun _ _ h => h) hn hg hO rfl rfl rfl rfl
      refine ⟨_, _, _, hrun, hst, ?_⟩
      unfold VR
      exact ⟨_, _, _, hup, rfl, hge, hcm, rfl, rfl⟩
    · rename_i n len sz r
      split at ha <;> first | (cases ha; done) | skip
      rename_i hsz
      have hsz := Nat.eq_of_beq_eq_true hsz
      subst hsz
      split at ha <;> first | (cases ha; done) | skip
      rename_i cs k e' hg
      split at ha <;> first | (cases ha; done) | skip
      rename_i hee
      have hee := Nat.eq_of_beq_eq_true hee
      subst hee
      split at ha <;> first | (cases ha; done) | skip
      rename_i h63
      have h63 : len + m ≤ 9223372036854775807 := Nat.le_of_ble_eq_true h63
      split at ha <;> first | (cases ha; done) | skip
      rename_i hby
      have hby : (len + m) * i.bytes ≤ 140737488355328 := Nat.le_of_ble_eq_true hby
      unfold VR at hs
      obtain ⟨b, s, c, hb, rfl, hlc, hcm, hroom⟩ := hs
      obtain ⟨b', s', hb', hO⟩ := hr.obj _ _ hg
      rw [hb] at hb'
      cases hb'
      obtain ⟨cur, hcur, hcs, hk, hcells⟩ := hO
      have hbm : (len + m) * i.size = len * i.size + m * i.size := Nat.add_mul _ _ _
      -- grows
      have grow : ∀ (h1 : AH) (g1 : Nat → Option AO) (olds : List AV), len + m > c → getN cs 0 (len * i.size) = some olds → h1.next = h.next + 1 → (∀ m o, g1 m = some o → h.get m = some o) →
          (∀ j v, h1.get j = some v → (j = h.next ∧ v = cellsOf e' (olds ++ news)) ∨ (j ≠ h.next ∧ g1 j = some v)) →
          ∃ ρ' y w', (Builtin.append_ #[t, t] ty #[.slice (some ⟨b, 0, none⟩) len c, .slice (some a2) m c2]).run P w = .ok y w' ∧ Stp ρ h.get h.next w ρ' h1.get h1.next w' ∧ VR ρ' (.sl h.next 0 (len + m) i.size .whole) y := by
        intro h1 g1 olds hgt holds hn hg1 hg'
        obtain ⟨os, hol, hors, hoat, _⟩ := getN_sound hcells holds
        have hoall : allOne olds = true := by
          have : ∀ {n i : Nat} {l : List AV}, getN cs i n = some l → allOne l = true := by
            intro n
            induction n with
            | zero => intro i l h; simp only [getN, Option.some.injEq] at h; subst h; rfl
            | succ n ih =>
              intro i l h
              unfold getN at h
              split at h <;> first | (cases h; done) | skip
              rename_i v hv
              split at h <;> first | (cases h; done) | skip
              rename_i m hm
              simp only [Option.some.injEq] at h; subst h
              unfold allOne
              rw [(hcells _ _ hv).1]
              exact ih hm
          exact this holds
        have hocell : ∀ j v, os[j]? = some v → w.cell? ((⟨b, 0, none⟩ : Addr).add j) = some v := fun j v hv => by
          have := hoat j v hv
          rw [Addr.add_mid]
          simp [World.cell?, hcur] at this ⊢
          exact this
        have hrun := run_append_grow (P := P) w t ty e' i z hu hi hz ⟨b, 0, none⟩ len c os hol hocell a2 m c2 ys hyl hcell hgt (by omega) (growslice_fits (by omega) hby)
        have hge := grownCap_ge w (len + m) c e'
        have hcm' : grownCap w (len + m) c e' ≤ maxLen := grownCap_le_maxLen w (len + m) c e' (by unfold maxLen; omega)
        have hboth := hors.append hys
        have hO : OR ρ (cellsOf e' (olds ++ news)) (grownCap w (len + m) c e' * i.size) (some (.cells (os.toArray ++ ys.toArray ++ Builtin.zeroCells z.cells (grownCap w (len + m) c e' - (len + m))) e' (0, 0))) := by
          refine ⟨_, rfl, ?_, ?_, fun j v hv => ?_⟩
          · rw [Array.size_append, Array.size_append, List.size_toArray, List.size_toArray, sizes_zero (e := e') hzs, hyl, hol, ← Nat.add_mul, ← Nat.add_mul]
            congr 1
            omega
          · rw [hboth.len, List.length_append, hol, hyl, ← Nat.add_mul]
            exact Nat.mul_le_mul_right _ hge
          · rcases setN_get hv with ⟨_, _, h3⟩ | ⟨_, h3⟩
            · rw [Nat.sub_zero] at h3
              obtain ⟨y, hy, hr'⟩ := hboth.get h3
              refine ⟨allOne_mem (allOne_append hoall hall) v (List.mem_of_getElem? h3), y, ?_, hr'⟩
              have hlt := (List.getElem?_eq_some_iff.1 hy).1
              rw [Array.getElem?_append_left (by simpa using hlt)]
              simpa using hy
            · rw [T.get_e] at h3; cases h3
        obtain ⟨hst, hup⟩ := Stp.new (w' := w.drew.alloc (.cells (os.toArray ++ ys.toArray ++ Builtin.zeroCells z.cells (grownCap w (len + m) c e' - (len + m))) e')) hr g1 hg1 hn hg' hO rfl rfl rfl rfl
        refine ⟨_, _, _, hrun, hst, ?_⟩
        unfold VR
        exact ⟨_, _, _, hup, rfl, hge, hcm', rfl, rfl⟩
      split at ha <;> first | (cases ha; done) | skip
      · -- the whole block
        obtain ⟨_, hroom⟩ := hroom
        split at ha
        · -- it is known to fit
          rename_i hfit
          have hfit : (len + m) * i.size ≤ k := Nat.le_of_ble_eq_true hfit
          simp only [Option.some.injEq, Prod.mk.injEq] at ha
          obtain ⟨rfl, rfl⟩ := ha
          have hroom2 : len + m ≤ c := by
            rcases Nat.lt_or_ge c (len + m) with hlt | hge
            · have := Nat.mul_lt_mul_of_pos_right hlt hpos
              omega
            · exact hge
          have hf2 : len * i.size + ys.length ≤ cur.size := by rw [hyl]; omega
          have hrun := run_append_room (P := P) w t ty e' i hu hi b len c cur hcur a2 m c2 ys hyl hcell hone hroom2 hf2
          refine ⟨ρ, _, _, hrun, ?_, ?_⟩
          · rw [put_next]
            refine Stp.change hr (n := n) (b := b) (s := s) (by rw [hg]; rfl) hb (o := .cells (setN cs (Nat.mul len i.size) news) k e') ?_ rfl rfl rfl (by simp) (fun q _ hq => setRow_other w b q _ hq) ?_
            · rw [setRow_heap w b cur _ e' (0, 0) hcur]
              exact ⟨_, rfl, by rw [splice_size hf2]; exact hcs, hk, splice_ok hcells hys hall hf2⟩
            · intro q o' ho'
              rcases put_spec ho' with ⟨q1, q2⟩ | q1
              · exact .inl ⟨q1, by cases q2; rfl⟩
              · exact .inr q1
          · unfold VR
            exact ⟨b, s, c, hb, rfl, hroom2, hcm, rfl, hroom⟩
        · split at ha <;> first | (cases ha; done) | skip
          rename_i olds holds
          split at ha <;> first | (cases ha; done) | skip
          rename_i h1 hfr
          simp only [Option.some.injEq, Prod.mk.injEq] at ha
          obtain ⟨rfl, rfl⟩ := ha
          obtain ⟨hn, hg'⟩ := fresh_spec hfr
          rw [put_next] at hn hg'
          by_cases hgt : len + m > c
          · exact grow h1 (h.put n none).get olds hgt holds hn (fun q o ho => by
              rcases put_spec ho with ⟨_, q2⟩ | ⟨_, q2⟩
              · cases q2
              · exact q2) hg'
          · -- in place, under a new name
            have hroom2 : len + m ≤ c := by omega
            obtain ⟨os, hol, hors, hoat, _⟩ := getN_sound hcells holds
            have hol : os.length = len * i.size := hol
            have hf2 : len * i.size + ys.length ≤ cur.size := by
              rw [hyl, hcs, ← hroom, ← Nat.add_mul]
              exact Nat.mul_le_mul_right _ hroom2
            have hrun := run_append_room (P := P) w t ty e' i hu hi b len c cur hcur a2 m c2 ys hyl hcell hone hroom2 hf2
            have hn0 : h.next ≠ n := fun he => by
              have := hr.fresh n (by omega)
              rw [this] at hb
              cases hb
            have hst := (Stp.name (g1 := (h.put n none).get) (g' := h1.get) (o := cellsOf e' (olds ++ news)) (w' := w.setRow b (cur.toList.take (len * i.size) ++ ys ++ cur.toList.drop (len * i.size + ys.length)).toArray) hr h.next (hr.fresh _ (Nat.le_refl _)) h1.next (by omega) (by omega) (.inr trivial) (b := b) (s := s) ?_ rfl rfl rfl (by simp) (fun q _ hq => setRow_other w b q _ hq) ?_ (.inr ⟨n, s, by rw [hg]; rfl, hb⟩) ?_ hg').2.2 (Nat.le_refl _)
            · refine ⟨_, _, _, hrun, hst, ?_⟩
              unfold VR
              exact ⟨b, s, c, by simp [upd], rfl, hroom2, hcm, rfl, hroom⟩
            · rw [setRow_heap w b cur _ e' (0, 0) hcur]
              have hboth := hors.append hys
              have hoall : allOne olds = true := by
                have : ∀ {n i : Nat} {l : List AV}, getN cs i n = some l → allOne l = true := by
                  intro n
                  induction n with
                  | zero => intro i l h; simp only [getN, Option.some.injEq] at h; subst h; rfl
                  | succ n ih =>
                    intro i l h
                    unfold getN at h
                    split at h <;> first | (cases h; done) | skip
                    rename_i v hv
                    split at h <;> first | (cases h; done) | skip
                    rename_i m hm
                    simp only [Option.some.injEq] at h; subst h
                    unfold allOne
                    rw [(hcells _ _ hv).1]
                    exact ih hm
                exact this holds
              refine ⟨_, rfl, by rw [splice_size hf2]; exact hcs, ?_, fun j v hv => ?_⟩
              · rw [hboth.len, List.length_append, hol, hyl, ← hroom, ← Nat.add_mul]
                exact Nat.mul_le_mul_right _ hroom2
              · rcases setN_get hv with ⟨_, _, h3⟩ | ⟨_, h3⟩
                · rw [Nat.sub_zero] at h3
                  obtain ⟨y, hy, hr'⟩ := hboth.get h3
                  refine ⟨allOne_mem (allOne_append hoall hall) v (List.mem_of_getElem? h3), y, ?_, hr'⟩
                  rw [List.getElem?_toArray, splice_get (by simpa using hf2)]
                  by_cases hj : j < os.length
                  · rw [List.getElem?_append_left hj] at hy
                    rw [if_neg (by omega)]
                    have := hoat j y hy
                    simpa using this
                  · rw [List.getElem?_append_right (by omega), hol] at hy
                    have hjl := (List.getElem?_eq_some_iff.1 hy).1
                    rw [if_pos ⟨by omega, by omega⟩]
                    exact hy
                · rw [T.get_e] at h3; cases h3
            · intro q s' hq hp
              obtain ⟨o', ho'⟩ := Option.isSome_iff_exists.1 hq
              rcases put_spec ho' with ⟨_, q2⟩ | ⟨q1, q2⟩
              · cases q2
              · exact q1 (hr.inj q n b s' s (by rw [q2]; rfl) (by rw [hg]; rfl) hp hb)
            · intro q o ho
              rcases put_spec ho with ⟨_, q2⟩ | ⟨_, q2⟩
              · cases q2
              · exact q2
      · rename_i c0
        have hc0 : c = c0 := hroom
        split at ha <;> first | (cases ha; done) | skip
        rename_i hgt
        have hgt : c0 < len + m := by simpa using hgt
        split at ha <;> first | (cases ha; done) | skip
        rename_i olds holds
        split at ha <;> first | (cases ha; done) | skip
        rename_i h1 hfr
        simp only [Option.some.injEq, Prod.mk.injEq] at ha
        obtain ⟨rfl, rfl⟩ := ha
        obtain ⟨hn, hg'⟩ := fresh_spec hfr
        exact grow h1 h.get olds (by omega) holds hn (fun _ _ h => h) hg'
end
end Go.Proofs.Ytigakendeghoaaa.Ex
