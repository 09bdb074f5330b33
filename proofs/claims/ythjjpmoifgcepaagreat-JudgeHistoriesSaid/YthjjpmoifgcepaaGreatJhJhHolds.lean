import Derived.Test.YthjjpmoifgcepaaGreatJhJhRH
import Derived.Test.YthjjpmoifgcepaaGreatJhJhO
/-
  wainscotlaw30.JudgeHistories: for every input the call returns true, and the input reads as it did. No condition.
-/
namespace Go.Proofs.YthjjpmoifgcepaaGreat.judgeHistories
open Go.ChangeShapes Go.WideShapes Go.ChangeAt Go.RowKit Jh
section
variable {H : Type} {enc : TypeId × Value → H} {P : Program} {w : World} {base : Nat} {spare : Nat → Bool} {held : Bool}
theorem each_mem {m : Nat} : ∀ {ts : List TypeId} {ds : List (DataW H)} {i : Nat} {t : TypeId} {d : DataW H}, ts[i]? = some t → ds[i]? = some d → m ∈ d.weights P t → m ∈ DataW.weightsEach P ts ds
  | t0 :: ts, d0 :: ds, 0, t, d, ht, hd, hm => by
    simp only [List.getElem?_cons_zero, Option.some.injEq] at ht hd
    subst ht hd
    simp only [DataW.weightsEach, List.mem_append]
    exact Or.inl hm
  | t0 :: ts, d0 :: ds, i + 1, t, d, ht, hd, hm => by
    simp only [DataW.weightsEach, List.mem_append]
    exact Or.inr (each_mem (by simpa using ht) (by simpa using hd) hm)
  | [], _, i, t, d, ht, _, _ => by simp at ht
  | _ :: _, [], i, t, d, _, hd, _ => by simp at hd
/-- a struct's cells, field by field -/
theorem open_struct {t : TypeId} {fs : Array Field} {fuel : Nat} {cs : List Value} {x : DataW H × List MemPlace} (ht : P.underlying t = some (.struct fs)) (h : DataW.trod enc P w base spare held fuel t cs = some x) (hw : ∀ n ∈ x.1.weights P t, n ≤ reachBytes) :
    cs.length = P.cellsOf t ∧ ∀ (i : Nat) (f : Field), fs[i]? = some f → ∃ (n : Nat) (y : DataW H × List MemPlace), DataW.trod enc P w base spare held n f.type ((cs.drop f.offset).take (P.cellsOf f.type)) = some y ∧ ∀ m ∈ y.1.weights P f.type, m ≤ reachBytes := by
  obtain ⟨xs, n, _, hx, hlen, hxl, hfld⟩ := DataW.trod_struct ht h
  refine ⟨hlen, fun i f hf => ?_⟩
  have hi := (Array.getElem?_eq_some_iff.1 hf).1
  obtain ⟨y, hy⟩ : ∃ y, xs[i]? = some y := ⟨_, List.getElem?_eq_getElem (by omega)⟩
  refine ⟨n, y, (hfld i f hf).trans hy, fun m hm => hw m ?_⟩
  have h1 : x.1 = .agg (xs.map (·.1)) := by rw [hx]
  rw [h1]
  simp only [DataW.weights, ht]
  exact each_mem (i := i) (by simp [hf]) (by simp [hy]) hm
theorem get_of {cs : List Value} {i : Nat} {v : Value} (h : (cs.drop i).take 1 = [v]) : cs[i]? = some v := by
  have : ((cs.drop i).take 1)[0]? = some v := by rw [h]; rfl
  rw [List.getElem?_take, if_pos (by omega), List.getElem?_drop] at this
  simpa using this
theorem get_sub {cs : List Value} {o n j : Nat} {v : Value} (h : ((cs.drop o).take n)[j]? = some v) : cs[o + j]? = some v := by
  rw [List.getElem?_take] at h
  split at h
  · rwa [List.getElem?_drop] at h
  · cases h
set_option maxRecDepth 100000 in
/-- a handle -/
theorem open_handle {fuel : Nat} {cs : List Value} {x : DataW H × List MemPlace} (h : DataW.trod enc Tryz.prog w base spare held fuel 41 cs = some x) (hw : ∀ n ∈ x.1.weights Tryz.prog 41, n ≤ reachBytes) : ∃ a : Hn, cs = hnCells a := by
  obtain ⟨hl, hf⟩ := open_struct Tryz.underlying41 h hw
  have hl5 : cs.length = 5 := by rw [hl]; kernel_rfl
  obtain ⟨_, y0, t0, _⟩ := hf 0 _ rfl
  obtain ⟨_, y1, t1, _⟩ := hf 1 _ rfl
  obtain ⟨_, y2, t2, _⟩ := hf 2 _ rfl
  obtain ⟨_, y3, t3, _⟩ := hf 3 _ rfl
  obtain ⟨_, y4, t4, _⟩ := hf 4 _ rfl
  obtain ⟨n0, e0, _⟩ := open_int1 Tryz.underlying3 t0
  obtain ⟨n1, e1, _⟩ := open_int1 Tryz.underlying3 t1
  obtain ⟨n2, e2, _⟩ := open_int1 Tryz.underlying3 t2
  obtain ⟨n3, e3, _⟩ := open_int1 Tryz.underlying3 t3
  obtain ⟨b4, e4⟩ := open_bool1 Tryz.underlying4 t4
  refine ⟨⟨n0, n1, n2, n3, b4⟩, List.ext_getElem? fun i => ?_⟩
  match i with
  | 0 => exact (get_of (i := 0) e0).trans rfl
  | 1 => exact (get_of (i := 1) e1).trans rfl
  | 2 => exact (get_of (i := 2) e2).trans rfl
  | 3 => exact (get_of (i := 3) e3).trans rfl
  | 4 => exact (get_of (i := 4) e4).trans rfl
  | i + 5 => rw [List.getElem?_eq_none (by omega), List.getElem?_eq_none (by simp [hnCells])]
set_option maxRecDepth 100000 in
/-- a call that has ended -/
theorem open_did (hsp : ∀ b, spare b = true) {fuel : Nat} {cs : List Value} {x : DataW H × List MemPlace} (h : DataW.trod enc Tryz.prog w base spare held fuel 45 cs = some x) (hw : ∀ n ∈ x.1.weights Tryz.prog 45, n ≤ reachBytes) : ∃ (d : Dd) (sv : Value), cs = ddCells d sv ∧ IntsB w sv d.hs := by
  obtain ⟨hl, hf⟩ := open_struct Tryz.underlying45 h hw
  have hl6 : cs.length = 6 := by rw [hl]; kernel_rfl
  obtain ⟨_, y0, t0, _⟩ := hf 0 _ rfl
  obtain ⟨_, y1, t1, _⟩ := hf 1 _ rfl
  obtain ⟨_, y2, t2, _⟩ := hf 2 _ rfl
  obtain ⟨_, y3, t3, _⟩ := hf 3 _ rfl
  obtain ⟨_, y4, t4, _⟩ := hf 4 _ rfl
  obtain ⟨_, y5, t5, w5⟩ := hf 5 _ rfl
  obtain ⟨n0, e0, _⟩ := open_int1 Tryz.underlying3 t0
  obtain ⟨n1, e1, _⟩ := open_int1 Tryz.underlying3 t1
  obtain ⟨n2, e2, _⟩ := open_int1 Tryz.underlying3 t2
  obtain ⟨n3, e3, _⟩ := open_int1 Tryz.underlying3 t3
  obtain ⟨n4, e4, _⟩ := open_int1 Tryz.underlying43 t4
  obtain ⟨v5, L, e5, hI, _⟩ := open_intsB Tryz.underlying22 Tryz.underlying3 (by kernel_rfl) (by kernel_rfl) hsp t5 w5
  refine ⟨⟨n0, n1, n2, n3, n4, L⟩, v5, List.ext_getElem? fun i => ?_, hI⟩
  match i with
  | 0 => exact (get_of (i := 0) e0).trans rfl
  | 1 => exact (get_of (i := 1) e1).trans rfl
  | 2 => exact (get_of (i := 2) e2).trans rfl
  | 3 => exact (get_of (i := 3) e3).trans rfl
  | 4 => exact (get_of (i := 4) e4).trans rfl
  | 5 => exact (get_of (i := 5) e5).trans rfl
  | i + 6 => rw [List.getElem?_eq_none (by omega), List.getElem?_eq_none (by simp [ddCells])]
set_option maxRecDepth 100000 in
/-- a cache -/
theorem open_cache (hsp : ∀ b, spare b = true) {fuel : Nat} {cs : List Value} {x : DataW H × List MemPlace} (h : DataW.trod enc Tryz.prog w base spare held fuel 56 cs = some x) (hw : ∀ n ∈ x.1.weights Tryz.prog 56, n ≤ reachBytes) : ∃ (a : Ca) (sv : Value) (l : List Int), cs = caCells a sv ∧ IntsB w sv l := by
  obtain ⟨hl, hf⟩ := open_struct Tryz.underlying56 h hw
  have hl14 : cs.length = 14 := by rw [hl]; kernel_rfl
  obtain ⟨_, y0, t0, w0⟩ := hf 0 _ rfl
  obtain ⟨_, y1, t1, _⟩ := hf 1 _ rfl
  obtain ⟨_, y2, t2, _⟩ := hf 2 _ rfl
  obtain ⟨_, y3, t3, _⟩ := hf 3 _ rfl
  obtain ⟨_, y4, t4, w4⟩ := hf 4 _ rfl
  obtain ⟨_, y5, t5, w5⟩ := hf 5 _ rfl
  obtain ⟨_, hs⟩ := open_struct Tryz.underlying52 t0 w0
  obtain ⟨_, hy⟩ := open_struct Tryz.underlying54 t5 w5
  obtain ⟨_, z0, u0, _⟩ := hs 0 _ rfl
  obtain ⟨_, z1, u1, _⟩ := hs 1 _ rfl
  obtain ⟨_, z2, u2, _⟩ := hs 2 _ rfl
  obtain ⟨_, q0, r0, _⟩ := hy 0 _ rfl
  obtain ⟨_, q1, r1, _⟩ := hy 1 _ rfl
  obtain ⟨_, q2, r2, _⟩ := hy 2 _ rfl
  obtain ⟨_, q3, r3, _⟩ := hy 3 _ rfl
  obtain ⟨_, q4, r4, _⟩ := hy 4 _ rfl
  obtain ⟨_, q5, r5, _⟩ := hy 5 _ rfl
  obtain ⟨_, q6, r6, _⟩ := hy 6 _ rfl
  obtain ⟨n0, e0, _⟩ := open_int1 Tryz.underlying3 u0
  obtain ⟨n1, e1, _⟩ := open_int1 Tryz.underlying3 u1
  obtain ⟨n2, e2, _⟩ := open_int1 Tryz.underlying3 u2
  obtain ⟨n3, e3, _⟩ := open_int1 Tryz.underlying3 t1
  obtain ⟨b4, e4⟩ := open_bool1 Tryz.underlying4 t2
  obtain ⟨n5, e5, _⟩ := open_int1 Tryz.underlying3 t3
  obtain ⟨v6, l, e6, hI, _⟩ := open_intsB Tryz.underlying22 Tryz.underlying3 (by kernel_rfl) (by kernel_rfl) hsp t4 w4
  obtain ⟨n7, e7, _⟩ := open_int1 Tryz.underlying3 r0
  obtain ⟨n8, e8, _⟩ := open_int1 Tryz.underlying3 r1
  obtain ⟨n9, e9, _⟩ := open_int1 Tryz.underlying3 r2
  obtain ⟨n10, e10, _⟩ := open_int1 Tryz.underlying3 r3
  obtain ⟨n11, e11, _⟩ := open_int1 Tryz.underlying3 r4
  obtain ⟨n12, e12, _⟩ := open_int1 Tryz.underlying3 r5
  obtain ⟨n13, e13, _⟩ := open_int1 Tryz.underlying3 r6
  have g0 : cs[0]? = some (.int .i64 n0) := get_sub (o := 0) (j := 0) (get_of (i := 0) e0)
  have g1 : cs[1]? = some (.int .i64 n1) := get_sub (o := 0) (j := 1) (get_of (i := 1) e1)
  have g2 : cs[2]? = some (.int .i64 n2) := get_sub (o := 0) (j := 2) (get_of (i := 2) e2)
  have g7 : cs[7]? = some (.int .i64 n7) := get_sub (o := 7) (j := 0) (get_of (i := 0) e7)
  have g8 : cs[8]? = some (.int .i64 n8) := get_sub (o := 7) (j := 1) (get_of (i := 1) e8)
  have g9 : cs[9]? = some (.int .i64 n9) := get_sub (o := 7) (j := 2) (get_of (i := 2) e9)
  have g10 : cs[10]? = some (.int .i64 n10) := get_sub (o := 7) (j := 3) (get_of (i := 3) e10)
  have g11 : cs[11]? = some (.int .i64 n11) := get_sub (o := 7) (j := 4) (get_of (i := 4) e11)
  have g12 : cs[12]? = some (.int .i64 n12) := get_sub (o := 7) (j := 5) (get_of (i := 5) e12)
  have g13 : cs[13]? = some (.int .i64 n13) := get_sub (o := 7) (j := 6) (get_of (i := 6) e13)
  refine ⟨⟨fun i => match i with | 0 => n0 | 1 => n1 | 2 => n2 | 3 => n3 | 5 => n5 | 7 => n7 | 8 => n8 | 9 => n9 | 10 => n10 | 11 => n11 | 12 => n12 | 13 => n13 | _ => 0, b4⟩, v6, l, List.ext_getElem? fun i => ?_, hI⟩
  match i with
  | 0 => exact g0.trans rfl
  | 1 => exact g1.trans rfl
  | 2 => exact g2.trans rfl
  | 3 => exact (get_of (i := 3) e3).trans rfl
  | 4 => exact (get_of (i := 4) e4).trans rfl
  | 5 => exact (get_of (i := 5) e5).trans rfl
  | 6 => exact (get_of (i := 6) e6).trans rfl
  | 7 => exact g7.trans rfl
  | 8 => exact g8.trans rfl
  | 9 => exact g9.trans rfl
  | 10 => exact g10.trans rfl
  | 11 => exact g11.trans rfl
  | 12 => exact g12.trans rfl
  | 13 => exact g13.trans rfl
  | i + 14 => rw [List.getElem?_eq_none (by omega), List.getElem?_eq_none (by simp [caCells])]
/-- rows with a slice of numbers in each -/
theorem rows_of {β : Type} {mk : β → Value → List Value} {f : β → List Int} {size k bytes n : Nat} {v : Value} {R : List (List Value)} (hsrc : Src w size v R.length R.flatten) (hR : ∀ r ∈ R, r.length = size ∧ ∃ (b : β) (sv : Value), r = mk b sv ∧ IntsB w sv (f b)) (hb : R.length * bytes ≤ BB)
    (hk : ∀ b s, (mk b s)[k]? = some s) (hone : ∀ b s, s.oneCell' = true → ∀ u ∈ mk b s, u.oneCell' = true) :
    ∃ (bs : List β) (svs : List Value), svs.length = bs.length ∧ RowsI w size k bytes v (List.zipWith mk bs svs) (bs.map f) ∧ bs.length = R.length := by
  obtain ⟨Ls, hL, hLi⟩ := choose_list (Q := fun (r : List Value) (p : β × Value) => r = mk p.1 p.2 ∧ IntsB w p.2 (f p.1)) fun r hr => by
    obtain ⟨_, b, sv, h1, h2⟩ := hR r hr
    exact ⟨(b, sv), h1, h2⟩
  have hz : List.zipWith mk (Ls.map (·.1)) (Ls.map (·.2)) = R := by
    apply List.ext_getElem?
    intro i
    rw [List.getElem?_zipWith, List.getElem?_map, List.getElem?_map]
    cases hl : Ls[i]? with
    | none =>
      have : R[i]? = none := by rw [List.getElem?_eq_none_iff] at hl ⊢; omega
      rw [this]
      rfl
    | some q =>
      have hi := (List.getElem?_eq_some_iff.1 hl).1
      have hr := List.getElem?_eq_getElem (l := R) (i := i) (by omega)
      rw [hr, (hLi i _ q hr hl).1]
      rfl
  refine ⟨Ls.map (·.1), Ls.map (·.2), by simp, ⟨?_, by rw [hz]; simp [hL], by rw [hz]; exact hb, fun i r l hr hl => ?_⟩, by simp [hL]⟩
  · rw [hz]
    refine ⟨hsrc, fun r hr => (hR r hr).1, fun r hr u hu => ?_⟩
    obtain ⟨_, b, sv, rfl, hI⟩ := hR r hr
    obtain ⟨A, c, rfl⟩ := hI.form
    exact hone b _ rfl u hu
  · rw [hz] at hr
    rw [List.map_map, List.getElem?_map] at hl
    cases hq : Ls[i]? with
    | none => rw [hq] at hl; cases hl
    | some q =>
      rw [hq] at hl
      simp only [Option.map_some, Function.comp, Option.some.injEq] at hl
      subst hl
      obtain ⟨h1, h2⟩ := hLi i r q hr hq
      exact ⟨q.2, by rw [h1]; exact hk _ _, h2⟩
set_option maxRecDepth 100000 in
/-- a snap -/
theorem open_snap (hsp : ∀ b, spare b = true) {fuel : Nat} {cs : List Value} {x : DataW H × List MemPlace} (h : DataW.trod enc Tryz.prog w base spare held fuel 28 cs = some x) (hw : ∀ n ∈ x.1.weights Tryz.prog 28, n ≤ reachBytes) : ∃ s : Sn, SnapV w (.agg cs.toArray) s := by
  obtain ⟨hl, hf⟩ := open_struct Tryz.underlying28 h hw
  have hl12 : cs.length = 12 := by rw [hl]; kernel_rfl
  obtain ⟨_, y0, t0, _⟩ := hf 0 _ rfl
  obtain ⟨_, y1, t1, w1⟩ := hf 1 _ rfl
  obtain ⟨_, y2, t2, w2⟩ := hf 2 _ rfl
  obtain ⟨_, y3, t3, w3⟩ := hf 3 _ rfl
  obtain ⟨_, y4, t4, w4⟩ := hf 4 _ rfl
  obtain ⟨_, y5, t5, w5⟩ := hf 5 _ rfl
  obtain ⟨_, y6, t6, w6⟩ := hf 6 _ rfl
  obtain ⟨_, y7, t7, w7⟩ := hf 7 _ rfl
  obtain ⟨_, y8, t8, w8⟩ := hf 8 _ rfl
  obtain ⟨_, y9, t9, w9⟩ := hf 9 _ rfl
  obtain ⟨_, y10, t10, w10⟩ := hf 10 _ rfl
  obtain ⟨_, y11, t11, w11⟩ := hf 11 _ rfl
  obtain ⟨n0, e0, _⟩ := open_int1 Tryz.underlying3 t0
  obtain ⟨v1, L1, e1, k1, _⟩ := open_intsB Tryz.underlying22 Tryz.underlying3 (by kernel_rfl) (by kernel_rfl) hsp t1 w1
  obtain ⟨v2, R2, e2, s2, q2, b2⟩ := open_rows (size := 1) (bytes := 24) (Q := fun r => ∃ (l : List Int) (sv : Value), r = paCells l sv ∧ IntsB w sv l) Tryz.underlying23 (by kernel_rfl) (by kernel_rfl) hsp t2 w2 fun fuel cs x h hw _ => by
    obtain ⟨v, L, e, k, _⟩ := open_intsB Tryz.underlying22 Tryz.underlying3 (by kernel_rfl) (by kernel_rfl) hsp h hw
    exact ⟨L, v, e, k⟩
  obtain ⟨v3, L3, e3, k3, _⟩ := open_intsB Tryz.underlying22 Tryz.underlying3 (by kernel_rfl) (by kernel_rfl) hsp t3 w3
  obtain ⟨v4, L4, e4, k4, _⟩ := open_intsB Tryz.underlying22 Tryz.underlying3 (by kernel_rfl) (by kernel_rfl) hsp t4 w4
  obtain ⟨v5, L5, e5, k5, _⟩ := open_intsB Tryz.underlying22 Tryz.underlying3 (by kernel_rfl) (by kernel_rfl) hsp t5 w5
  obtain ⟨v6, L6, e6, k6, _⟩ := open_intsB Tryz.underlying22 Tryz.underlying3 (by kernel_rfl) (by kernel_rfl) hsp t6 w6
  obtain ⟨v7, L7, e7, k7, _⟩ := open_intsB Tryz.underlying22 Tryz.underlying3 (by kernel_rfl) (by kernel_rfl) hsp t7 w7
  obtain ⟨v8, L8, e8, k8, _⟩ := open_intsB Tryz.underlying22 Tryz.underlying3 (by kernel_rfl) (by kernel_rfl) hsp t8 w8
  obtain ⟨v9, R9, e9, s9, q9, b9⟩ := open_rows (size := 14) (bytes := 128) (Q := fun r => ∃ (p : Ca × List Int) (sv : Value), r = caCells p.1 sv ∧ IntsB w sv p.2) Tryz.underlying24 (by kernel_rfl) (by kernel_rfl) hsp t9 w9 fun fuel cs x h hw _ => by
    obtain ⟨a, sv, l, e, k⟩ := open_cache hsp h hw
    exact ⟨(a, l), sv, e, k⟩
  obtain ⟨v10, R10, e10, s10, q10, b10⟩ := open_rows (size := 5) (bytes := 40) (Q := fun r => ∃ a : Hn, r = hnCells a) Tryz.underlying25 (by kernel_rfl) (by kernel_rfl) hsp t10 w10 fun fuel cs x h hw _ => open_handle h hw
  obtain ⟨v11, R11, e11, s11, q11, b11⟩ := open_rows (size := 6) (bytes := 64) (Q := fun r => ∃ (d : Dd) (sv : Value), r = ddCells d sv ∧ IntsB w sv d.hs) Tryz.underlying26 (by kernel_rfl) (by kernel_rfl) hsp t11 w11 fun fuel cs x h hw _ => open_did hsp h hw
  obtain ⟨ps, sv2, l2, r2, _⟩ := rows_of (mk := paCells) (f := id) (k := 0) (n := 0) s2 q2 b2 (fun _ _ => rfl) pa_one
  obtain ⟨ca, sv9, l9, r9, _⟩ := rows_of (mk := fun (p : Ca × List Int) sv => caCells p.1 sv) (f := Prod.snd) (k := 6) (n := 0) s9 q9 b9 (fun _ _ => rfl) (fun p s hs => ca_one p.1 s hs)
  obtain ⟨ds, sv11, l11, r11, _⟩ := rows_of (mk := ddCells) (f := Dd.hs) (k := 5) (n := 0) s11 q11 b11 (fun _ _ => rfl) dd_one
  obtain ⟨hs, hhs, hhi⟩ := choose_list (Q := fun (r : List Value) (a : Hn) => r = hnCells a) fun r hr => (q10 r hr).2
  have hR10 : R10 = hs.map hnCells := by
    apply List.ext_getElem?
    intro i
    rw [List.getElem?_map]
    cases hl : hs[i]? with
    | none =>
      have : R10[i]? = none := by rw [List.getElem?_eq_none_iff] at hl ⊢; omega
      rw [this]
      rfl
    | some q =>
      have hi := (List.getElem?_eq_some_iff.1 hl).1
      have hr := List.getElem?_eq_getElem (l := R10) (i := i) (by omega)
      rw [hr, hhi i _ q hr hl]
      rfl
  refine ⟨⟨n0, L1, ps, L3, L4, L5, L6, L7, L8, ca.length, hs, ds⟩, v1, v2, v3, v4, v5, v6, v7, v8, v9, v10, v11, ?_, k1, ⟨sv2, l2, by rw [List.map_id] at r2; exact r2⟩, k3, k4, k5, k6, k7, k8, ⟨ca.map Prod.fst, ca.map Prod.snd, ⟨sv9, by rw [List.length_map]; exact l9, by rw [List.zipWith_map_left]; exact r9⟩, List.length_map ..⟩, ⟨?_, ?_⟩, ⟨sv11, l11, r11⟩⟩
  · congr 1
    apply Array.ext_getElem?
    intro i
    rw [List.getElem?_toArray]
    match i with
    | 0 => exact (get_of (i := 0) e0).trans rfl
    | 1 => exact (get_of (i := 1) e1).trans rfl
    | 2 => exact (get_of (i := 2) e2).trans rfl
    | 3 => exact (get_of (i := 3) e3).trans rfl
    | 4 => exact (get_of (i := 4) e4).trans rfl
    | 5 => exact (get_of (i := 5) e5).trans rfl
    | 6 => exact (get_of (i := 6) e6).trans rfl
    | 7 => exact (get_of (i := 7) e7).trans rfl
    | 8 => exact (get_of (i := 8) e8).trans rfl
    | 9 => exact (get_of (i := 9) e9).trans rfl
    | 10 => exact (get_of (i := 10) e10).trans rfl
    | 11 => exact (get_of (i := 11) e11).trans rfl
    | i + 12 => rw [List.getElem?_eq_none (by omega), Array.getElem?_eq_none (by simp)]
  · rw [← hR10]
    refine ⟨s10, fun r hr => (q10 r hr).1, fun r hr u hu => ?_⟩
    obtain ⟨a, rfl⟩ := (q10 r hr).2
    simp only [hnCells, List.mem_cons, List.not_mem_nil, or_false] at hu
    rcases hu with rfl | rfl | rfl | rfl | rfl <;> rfl
  · have : hs.length = R10.length := hhs
    rw [this]
    exact b10
end
set_option maxRecDepth 100000 in
set_option maxHeartbeats 1000000 in
theorem lifted (os : Os) (started : os.Started) (H : Type) (enc : TypeId × Value → H) :
    ReturnsInHanded {} Tryz.checked os 3 .any (Rows.judgeHistoriesSpec.pre6 enc Tryz.prog Tryz.f3 Rows.judgeHistoriesRow.domain false) (Rows.judgeHistoriesSpec.post enc Tryz.prog Tryz.f3 false true false false) := by
  refine returnsInHanded_of_change_sized (C := Tryz.checked) Tryz.own started (by kernel_rfl) Tryz.func3
    (ChangeSpec.witness6 (enc := enc) (C := Tryz.checked) false ⟨#[], #[.agg #[.int .i64 0, .slice none 0 0, .slice none 0 0, .slice none 0 0, .slice none 0 0, .slice none 0 0, .slice none 0 0, .slice none 0 0, .slice none 0 0, .slice none 0 0, .slice none 0 0, .slice none 0 0]], []⟩ 8 (by kernel_rfl) (by kernel_rfl) (by kernel_rfl) (by kernel_rfl)) ?_
  intro W base args ds gs before hval0 hW _ hsz0 _
  have hsz : (DataW.weightsEach Tryz.prog (Tryz.f3.params.toList ++ Rows.judgeHistoriesSpec.plain.varTypes Tryz.prog) (ds ++ gs)).all (· ≤ reachBytes) = true := hsz0
  have hval : ∀ (j : Nat) t v, Tryz.f3.params[j]? = some t → args[j]? = some v → Value.okWide Tryz.prog W .any base t v := hval0
  have hW' := hW
  obtain ⟨p, q, hA0, hV, rfl, hfz, hnd⟩ := hW
  have hA : DataW.TrodAll enc Tryz.prog W 0 (fun _ => true) true Tryz.f3.params.toList args.toList ds p := hA0
  rw [Tryz.params3] at hA hval hsz
  obtain ⟨v0, vs0, d0, ds0, p0, q0, hargs, rfl, rfl, h0, r0⟩ := trodAll_cons hA
  obtain ⟨rfl, rfl, rfl⟩ := trodAll_nil r0
  obtain rfl : args = #[v0] := by cases args; simp_all
  obtain ⟨rfl, rfl⟩ := trodVars_none hV
  obtain ⟨cs, rfl, hcs⟩ := arg_agg (by kernel_rfl) (hval 0 _ _ rfl rfl)
  obtain ⟨fuel, hf⟩ := h0
  obtain ⟨s, hs⟩ := open_snap (w := W) (fun _ => rfl) hf fun n hn => of_decide_eq_true (List.all_eq_true.1 hsz n (each_mem (i := 0) rfl rfl hn))
  have hs2 : SnapV W (.agg cs) s := hs
  have hc : Calls Tryz.prog 3 #[.agg cs] W fun e w' => e = .returned (.bool true) ∧ Own W [] w' := Jh.law_walk hs2
  exact hc.mono fun e W' ⟨he, hO⟩ => ⟨_, he, law_post Tryz.laidOut Tryz.underlying4 rfl rfl (by intro t ht; simp [Tryz.params3] at ht; subst ht; exact ⟨by kernel_rfl, of_decide_eq_true (by kernel_rfl)⟩) hW' rfl hO.below⟩

theorem holds : Rows.JudgeHistoriesSaid :=
  OpenClaim.holds_of_wide 3 Tryz.f3 rfl rfl rfl rfl rfl rfl rfl ⟨rfl, rfl, rfl, rfl, rfl⟩ rfl rfl rfl rfl rfl (by kernel_rfl) Tryz.func3 (by kernel_rfl)
    (of_decide_eq_true (by kernel_rfl)) (by unfold Func.isWrapper; first | (rw [if_pos (by decide +kernel)]; kernel_rfl) | (rw [if_neg (by decide +kernel)]; exact ⟨rfl, rfl⟩))
    (fun os started H enc _ => lifted os started H enc)
end Go.Proofs.YthjjpmoifgcepaaGreat.judgeHistories
