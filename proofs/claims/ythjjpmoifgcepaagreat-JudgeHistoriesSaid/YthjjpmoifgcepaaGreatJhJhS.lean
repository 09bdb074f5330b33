import Derived.Test.YthjjpmoifgcepaaGreatJhJhC
/-
  Contracts: judge.within, the tests that judge.shaped and judge.calls make with slices.ContainsFunc. No condition.
-/
namespace Go.Proofs.YthjjpmoifgcepaaGreat.Jh
open Go.RowKit
attribute [local go_sem ↓] Go.wp_at_zero Go.wp_at_succ
/-- a block that holds a snap -/
def BoxS (w : World) (B : Nat) (s : Sn) : Prop := B < w.heap.size ∧ ∃ cs : Array Value, SnapV w (.agg cs) s ∧ ∀ (i : Nat) u, cs[i]? = some u → w.cell? ⟨B, i, none⟩ = some u
theorem BoxS.own {W w : World} {B : Nat} {s : Sn} {m : List (Nat × Obj)} (h : BoxS W B s) (hO : Own W m w) : BoxS w B s := by
  obtain ⟨h1, cs, h2, h3⟩ := h
  exact ⟨Nat.lt_of_lt_of_le h1 hO.size_le, cs, h2.own hO, fun i u hu => (hO.old (a := ⟨B, i, none⟩) h1).trans (h3 i u hu)⟩
theorem BoxS.new {w : World} {cs : Array Value} {s : Sn} {t : TypeId} (h : SnapV w (.agg cs) s) : BoxS (w.alloc (.cells cs t)) w.heap.size s := by
  refine ⟨by simp, cs, h.own ((Own.self w).alloc _), fun i u hu => ?_⟩
  have := (((Own.self w).new (.cells cs t)).cell List.mem_cons_self i)
  rw [this, hu]
structure BoxC (w : World) (B : Nat) (s : Sn) (v : Fin 12 → Value) : Prop where
  lt : B < w.heap.size
  at_ : ∀ i, w.cell? ⟨B, i.val, none⟩ = some (v i)
  v0 : v 0 = .int .i64 s.now
  v1 : IntsB w (v 1) s.depths
  v2 : PathsV w (v 2) s.paths
  v3 : IntsB w (v 3) s.used
  v4 : IntsB w (v 4) s.most
  v5 : IntsB w (v 5) s.owned
  v6 : IntsB w (v 6) s.held
  v7 : IntsB w (v 7) s.flies
  v8 : IntsB w (v 8) s.tags
  v9 : CachesV w (v 9) s.nc
  v10 : HansV w (v 10) s.hn
  v11 : DidsV w (v 11) s.ds
theorem BoxS.open_ {w : World} {B : Nat} {s : Sn} (h : BoxS w B s) : ∃ v, BoxC w B s v := by
  obtain ⟨h1, cs, h2, h3⟩ := h
  obtain ⟨v1, v2, v3, v4, v5, v6, v7, v8, v9, v10, v11, e, k1, k2, k3, k4, k5, k6, k7, k8, k9, k10, k11⟩ := h2.out
  obtain rfl : cs = #[.int .i64 s.now, v1, v2, v3, v4, v5, v6, v7, v8, v9, v10, v11] := by injection e
  refine ⟨fun i => (#[.int .i64 s.now, v1, v2, v3, v4, v5, v6, v7, v8, v9, v10, v11] : Array Value)[i.val], ⟨h1, fun i => h3 i.val _ (by simp), rfl, k1, k2, k3, k4, k5, k6, k7, k8, k9, k10, k11⟩⟩
theorem BoxC.snap {w : World} {B : Nat} {s : Sn} {v : Fin 12 → Value} (h : BoxC w B s v) : SnapV w (.agg #[.int .i64 s.now, v 1, v 2, v 3, v 4, v 5, v 6, v 7, v 8, v 9, v 10, v 11]) s :=
  ⟨_, _, _, _, _, _, _, _, _, _, _, rfl, h.v1, h.v2, h.v3, h.v4, h.v5, h.v6, h.v7, h.v8, h.v9, h.v10, h.v11⟩
theorem jwithin_spec (w : World) (n a b : Int) : Calls Tryz.prog 20 #[.int .i64 n, .int .i64 a, .int .i64 b] w fun e w' => e = .returned (.bool (decide (a ≤ n) && decide (n ≤ b))) ∧ Own w [] w' := by
  have h0 := Own.self w
  by_cases h1 : a ≤ n
  · have d1 : decide (a ≤ n) = true := decide_eq_true h1
    go_enter Tryz.func20, Tryz.ntmps20
    go_wp2_with fail
    go_ret
    exact ⟨by simp [d1], h0⟩
  · have d1 : decide (a ≤ n) = false := decide_eq_false h1
    go_enter Tryz.func20, Tryz.ntmps20
    go_wp2_with fail
    go_ret
    exact ⟨by simp [d1], h0⟩
def inB (n a b : Int) : Bool := decide (a ≤ n) && decide (n ≤ b)
theorem inB_iff {n a b : Int} : inB n a b = true ↔ a ≤ n ∧ n ≤ b := by simp [inB]
theorem jwithin_b (w : World) {n a b : Int} {r : Bool} (h : inB n a b = r) : Calls Tryz.prog 20 #[.int .i64 n, .int .i64 a, .int .i64 b] w fun e w' => e = .returned (.bool r) ∧ Own w [] w' := by
  have := jwithin_spec w n a b
  rw [show (decide (a ≤ n) && decide (n ≤ b)) = r from h] at this
  exact this
/-- the test of a tag -/
theorem tagT_spec {w : World} {B : Nat} {s : Sn} (hb : BoxS w B s) (t : Int) : Calls Tryz.prog 22 #[.int .i64 t, .pointer (some ⟨B, 0, none⟩)] w fun e w' => e = .returned (.bool (!inB t 0 s.nc)) ∧ Own w [] w' := by
  obtain ⟨v, hv⟩ := hb.open_
  have h9 := hv.at_ 9
  obtain ⟨A, c, e9⟩ := hv.v9.form
  rw [e9] at h9
  have h9' : w.cell? ⟨B, 9, none⟩ = some (.slice A s.nc c) := h9
  clear h9 e9 hv hb
  go_enter Tryz.func22, Tryz.ntmps22
  go_wp2_with (go_at_call 20; refine (jwithin_spec _ _ _ _).mono ?_; rintro e w' ⟨rfl, h3⟩)
  go_ret
  exact ⟨by simp [inB], h3⟩
/-- the test of a handle that a call names -/
theorem hT_spec {w : World} {B : Nat} {s : Sn} (hb : BoxS w B s) (t : Int) : Calls Tryz.prog 47 #[.int .i64 t, .pointer (some ⟨B, 0, none⟩)] w fun e w' => e = .returned (.bool (!inB t 0 (s.hn.length - 1))) ∧ Own w [] w' := by
  obtain ⟨v, hv⟩ := hb.open_
  have h9 := hv.at_ 10
  obtain ⟨A, c, e9⟩ := hv.v10.form
  have hB : s.hn.length * 40 ≤ 140737488351232 := hv.v10.2
  rw [e9] at h9
  have h9' : w.cell? ⟨B, 10, none⟩ = some (.slice A s.hn.length c) := h9
  clear h9 e9 hv hb
  have hw : wrap64 ((s.hn.length : Int) - 1) = (s.hn.length : Int) - 1 := IntWalk.wrap64_in _ (by omega)
  go_enter Tryz.func47, Tryz.ntmps47
  go_wp2_with (go_at_call 20; refine (jwithin_spec _ _ _ _).mono ?_; rintro e w' ⟨rfl, h3⟩)
  go_ret
  exact ⟨by simp [inB, hw], h3⟩
/-- the test of a handle's cache -/
theorem hanT_spec {w : World} {B : Nat} {s : Sn} (hb : BoxS w B s) (h : Hn) : Calls Tryz.prog 24 #[.agg #[.int .i64 h.cache, .int .i64 h.slab, .int .i64 h.obj, .int .i64 h.group, .bool h.out], .pointer (some ⟨B, 0, none⟩)] w fun e w' => e = .returned (.bool (!inB h.cache 0 (s.nc - 1))) ∧ Own w [] w' := by
  have hO := (Own.self w).alloc (.cells #[.int .i64 h.cache, .int .i64 h.slab, .int .i64 h.obj, .int .i64 h.group, .bool h.out] 41)
  obtain ⟨v, hv⟩ := (hb.own hO).open_
  have h9 := hv.at_ 9
  obtain ⟨A, c, e9⟩ := hv.v9.form
  have hB : s.nc * 128 ≤ 140737488351232 := by
    obtain ⟨cs, L, hc, hn⟩ := hv.v9
    rw [← hn]
    exact hc.bytes
  rw [e9] at h9
  have h9' : (w.alloc (.cells #[.int .i64 h.cache, .int .i64 h.slab, .int .i64 h.obj, .int .i64 h.group, .bool h.out] 41)).cell? ⟨B, 9, none⟩ = some (.slice A s.nc c) := h9
  clear h9 e9 hv hb
  have hw : wrap64 ((s.nc : Int) - 1) = (s.nc : Int) - 1 := IntWalk.wrap64_in _ (by omega)
  go_enter Tryz.func24, Tryz.ntmps24
  go_wp2_with (go_at_call 20; refine (jwithin_spec _ _ _ _).mono ?_; rintro e w' ⟨rfl, h3⟩)
  go_ret
  exact ⟨by simp [inB, hw], hO.of_self h3⟩
/-- the first of a list that is so; -1: none -/
def ixOf {α : Type} (f : α → Bool) (l : List α) : Int := match l.findIdx? f with | some i => i | none => -1
theorem ixOf_yes {α : Type} {f : α → Bool} {l : List α} {k : Nat} {x : α} (hk : l[k]? = some x) (hx : f x = true) (h : ∀ (j : Nat) y, j < k → l[j]? = some y → f y = false) : ixOf f l = k := by
  have : l.findIdx? f = some k := by
    rw [List.findIdx?_eq_some_iff_getElem]
    obtain ⟨hlt, he⟩ := List.getElem?_eq_some_iff.1 hk
    refine ⟨hlt, by rw [he]; exact hx, fun j hj => ?_⟩
    have := h j _ hj (List.getElem?_eq_getElem (by omega))
    simp [this]
  simp [ixOf, this]
theorem ixOf_no {α : Type} {f : α → Bool} {l : List α} (h : ∀ (j : Nat) y, l[j]? = some y → f y = false) : ixOf f l = -1 := by
  have : l.findIdx? f = none := by
    rw [List.findIdx?_eq_none_iff]
    intro x hx
    obtain ⟨j, hj, rfl⟩ := List.getElem_of_mem hx
    exact h j _ (List.getElem?_eq_getElem hj)
  simp [ixOf, this]
theorem ixOf_any {α : Type} (f : α → Bool) (l : List α) : decide (0 ≤ ixOf f l) = l.any f := by
  unfold ixOf
  cases h : l.findIdx? f with
  | none =>
    rw [List.findIdx?_eq_none_iff] at h
    have : l.any f = false := by rw [List.any_eq_false]; intro x hx; simp [h x hx]
    simp [this]
  | some i =>
    rw [List.findIdx?_eq_some_iff_getElem] at h
    obtain ⟨hlt, he, _⟩ := h
    have : l.any f = true := List.any_eq_true.2 ⟨l[i], List.getElem_mem hlt, he⟩
    simp [this]
set_option maxHeartbeats 4000000 in
set_option maxRecDepth 100000 in
theorem tag_ix {w : World} {s : Sn} {v : Value} {l : List Int} {B : Nat} (hv : IntsB w v l) (hb : BoxS w B s) : Calls Tryz.prog 40 #[v, .func (.func 22) #[] #[.pointer (some ⟨B, 0, none⟩)]] w fun e w' => e = .returned (.int .i64 (ixOf (fun y => !inB y 0 s.nc) l)) ∧ Own w [] w' := by
  have HB : Hid ((l.length : Int) < 9223372036854775807) := bb_ints hv.2
  have X_hb := Lib.hid hb
  obtain ⟨A, c, rfl⟩ := hv.form
  have HV := Lib.hid hv
  clear hv hb
  go_enter Tryz.func40, Tryz.ntmps40
  go_wp2_with fail
  go_loopw [8] (fun k wr => ∃ i : Nat, i ≤ l.length ∧ k = .int .i64 i ∧ Hid (∀ (j : Nat) y, j < i → l[j]? = some y → (!inB y 0 s.nc) = false) ∧ Own w [] wr) (fun k _ => l.length - (intOf k).toNat)
  case atStart => exact ⟨0, Nat.zero_le _, rfl, fun j y hj => absurd hj (by omega), Own.self w⟩
  case round =>
    obtain ⟨i, hi, rfl, HN, hr⟩ := hrel
    by_cases hlt : i < l.length
    · obtain ⟨y, hy⟩ : ∃ y, l[i]? = some y := ⟨_, List.getElem?_eq_getElem hlt⟩
      obtain ⟨g, o, c', he, _, hc⟩ := (HV.out.own hr).at_ (by omega)
      cases he
      have cy := hc i _ hy
      have HY := Lib.hid hy
      have hw := wrap_succ hlt HB.out
      have Y_hb := Lib.hid (X_hb.out.own hr)
      clear hy hc
      cases hq : !inB y 0 s.nc with
      | true =>
        have HQ := Lib.hid hq
        have HR := Lib.hid hr
        clear hr hq
        go_wp2_with (go_at_call 22; refine (tagT_spec Y_hb.out y).mono ?_; rintro e w' ⟨rfl, h3⟩; rw [HQ.out])
        go_ret
        exact ⟨by rw [ixOf_yes HY.out HQ.out HN.out]; rfl, HR.out.of_self h3⟩
      | false =>
        have HQ := Lib.hid hq
        have HR := Lib.hid hr
        clear hr hq
        go_wp2_with (go_at_call 22; refine (tagT_spec Y_hb.out y).mono ?_; rintro e w' ⟨rfl, h3⟩; rw [HQ.out])
        go_roundw
        case rel =>
          refine ⟨i + 1, by omega, by rw [hw], fun j z hj hz => ?_, HR.out.of_self h3⟩
          by_cases hji : j < i
          · exact HN.out j z hji hz
          · obtain rfl : j = i := by omega
            rw [HY.out] at hz
            cases hz
            exact HQ.out
        case measure => rw [hw]; simp [intOf]; omega
    · obtain rfl : i = l.length := by omega
      go_wp2_with fail
      go_ret
      exact ⟨by rw [ixOf_no fun j y hy => HN.out j y (List.getElem?_eq_some_iff.1 hy).1 hy]; rfl, hr⟩
theorem tag_any {w : World} {s : Sn} {v : Value} {l : List Int} {B : Nat} (hv : IntsB w v l) (hb : BoxS w B s) : Calls Tryz.prog 21 #[v, .func (.func 22) #[] #[.pointer (some ⟨B, 0, none⟩)]] w fun e w' => e = .returned (.bool (l.any fun y => !inB y 0 s.nc)) ∧ Own w [] w' := by
  have HM := Lib.hid (ixOf_any (fun y => !inB y 0 s.nc) l)
  go_enter Tryz.func21, Tryz.ntmps21
  go_wp2_with (go_at_call 40; refine (tag_ix hv hb).mono ?_; rintro e w' ⟨rfl, h3⟩)
  go_ret
  exact ⟨by rw [← HM.out]; rfl, h3⟩
set_option maxHeartbeats 4000000 in
set_option maxRecDepth 100000 in
theorem h_ix {w : World} {s : Sn} {v : Value} {l : List Int} {B : Nat} (hv : IntsB w v l) (hb : BoxS w B s) : Calls Tryz.prog 40 #[v, .func (.func 47) #[] #[.pointer (some ⟨B, 0, none⟩)]] w fun e w' => e = .returned (.int .i64 (ixOf (fun y => !inB y 0 (s.hn.length - 1)) l)) ∧ Own w [] w' := by
  have HB : Hid ((l.length : Int) < 9223372036854775807) := bb_ints hv.2
  have X_hb := Lib.hid hb
  obtain ⟨A, c, rfl⟩ := hv.form
  have HV := Lib.hid hv
  clear hv hb
  go_enter Tryz.func40, Tryz.ntmps40
  go_wp2_with fail
  go_loopw [8] (fun k wr => ∃ i : Nat, i ≤ l.length ∧ k = .int .i64 i ∧ Hid (∀ (j : Nat) y, j < i → l[j]? = some y → (!inB y 0 (s.hn.length - 1)) = false) ∧ Own w [] wr) (fun k _ => l.length - (intOf k).toNat)
  case atStart => exact ⟨0, Nat.zero_le _, rfl, fun j y hj => absurd hj (by omega), Own.self w⟩
  case round =>
    obtain ⟨i, hi, rfl, HN, hr⟩ := hrel
    by_cases hlt : i < l.length
    · obtain ⟨y, hy⟩ : ∃ y, l[i]? = some y := ⟨_, List.getElem?_eq_getElem hlt⟩
      obtain ⟨g, o, c', he, _, hc⟩ := (HV.out.own hr).at_ (by omega)
      cases he
      have cy := hc i _ hy
      have HY := Lib.hid hy
      have hw := wrap_succ hlt HB.out
      have Y_hb := Lib.hid (X_hb.out.own hr)
      clear hy hc
      cases hq : !inB y 0 (s.hn.length - 1) with
      | true =>
        have HQ := Lib.hid hq
        have HR := Lib.hid hr
        clear hr hq
        go_wp2_with (go_at_call 47; refine (hT_spec Y_hb.out y).mono ?_; rintro e w' ⟨rfl, h3⟩; rw [HQ.out])
        go_ret
        exact ⟨by rw [ixOf_yes HY.out HQ.out HN.out]; rfl, HR.out.of_self h3⟩
      | false =>
        have HQ := Lib.hid hq
        have HR := Lib.hid hr
        clear hr hq
        go_wp2_with (go_at_call 47; refine (hT_spec Y_hb.out y).mono ?_; rintro e w' ⟨rfl, h3⟩; rw [HQ.out])
        go_roundw
        case rel =>
          refine ⟨i + 1, by omega, by rw [hw], fun j z hj hz => ?_, HR.out.of_self h3⟩
          by_cases hji : j < i
          · exact HN.out j z hji hz
          · obtain rfl : j = i := by omega
            rw [HY.out] at hz
            cases hz
            exact HQ.out
        case measure => rw [hw]; simp [intOf]; omega
    · obtain rfl : i = l.length := by omega
      go_wp2_with fail
      go_ret
      exact ⟨by rw [ixOf_no fun j y hy => HN.out j y (List.getElem?_eq_some_iff.1 hy).1 hy]; rfl, hr⟩
theorem h_any {w : World} {s : Sn} {v : Value} {l : List Int} {B : Nat} (hv : IntsB w v l) (hb : BoxS w B s) : Calls Tryz.prog 21 #[v, .func (.func 47) #[] #[.pointer (some ⟨B, 0, none⟩)]] w fun e w' => e = .returned (.bool (l.any fun y => !inB y 0 (s.hn.length - 1))) ∧ Own w [] w' := by
  have HM := Lib.hid (ixOf_any (fun y => !inB y 0 (s.hn.length - 1)) l)
  go_enter Tryz.func21, Tryz.ntmps21
  go_wp2_with (go_at_call 40; refine (h_ix hv hb).mono ?_; rintro e w' ⟨rfl, h3⟩)
  go_ret
  exact ⟨by rw [← HM.out]; rfl, h3⟩
set_option maxHeartbeats 4000000 in
set_option maxRecDepth 100000 in
theorem han_ix {w : World} {s : Sn} {v : Value} {l : List Hn} {B : Nat} (hv : HansV w v l) (hb : BoxS w B s) : Calls Tryz.prog 41 #[v, .func (.func 24) #[] #[.pointer (some ⟨B, 0, none⟩)]] w fun e w' => e = .returned (.int .i64 (ixOf (fun y => !inB y.cache 0 (s.nc - 1)) l)) ∧ Own w [] w' := by
  have HB : Hid ((l.length : Int) < 9223372036854775807) := (by have : l.length * 40 ≤ 140737488351232 := hv.2; show (l.length : Int) < _; omega)
  have X_hb := Lib.hid hb
  obtain ⟨A, c, rfl⟩ := hv.form
  have HV := Lib.hid hv
  clear hv hb
  go_enter Tryz.func41, Tryz.ntmps41
  go_wp2_with fail
  go_loopw [8] (fun k wr => ∃ i : Nat, i ≤ l.length ∧ k = .int .i64 i ∧ Hid (∀ (j : Nat) y, j < i → l[j]? = some y → (!inB y.cache 0 (s.nc - 1)) = false) ∧ Own w [] wr) (fun k _ => l.length - (intOf k).toNat)
  case atStart => exact ⟨0, Nat.zero_le _, rfl, fun j y hj => absurd hj (by omega), Own.self w⟩
  case round =>
    obtain ⟨i, hi, rfl, HN, hr⟩ := hrel
    by_cases hlt : i < l.length
    · obtain ⟨y, hy⟩ : ∃ y, l[i]? = some y := ⟨_, List.getElem?_eq_getElem hlt⟩
      obtain ⟨g, o, c', he, _, hc⟩ := (HV.out.own hr).at_ (by omega)
      cases he
      obtain ⟨c0, c1, c2, c3, c4⟩ := hc i _ hy
      have HY := Lib.hid hy
      have hw := wrap_succ hlt HB.out
      have Y_hb := Lib.hid (X_hb.out.own hr)
      clear hy hc
      cases hq : !inB y.cache 0 (s.nc - 1) with
      | true =>
        have HQ := Lib.hid hq
        have HR := Lib.hid hr
        clear hr hq
        go_wp2_with (go_at_call 24; refine (hanT_spec Y_hb.out y).mono ?_; rintro e w' ⟨rfl, h3⟩; rw [HQ.out])
        go_ret
        exact ⟨by rw [ixOf_yes HY.out HQ.out HN.out]; rfl, HR.out.of_self h3⟩
      | false =>
        have HQ := Lib.hid hq
        have HR := Lib.hid hr
        clear hr hq
        go_wp2_with (go_at_call 24; refine (hanT_spec Y_hb.out y).mono ?_; rintro e w' ⟨rfl, h3⟩; rw [HQ.out])
        go_roundw
        case rel =>
          refine ⟨i + 1, by omega, by rw [hw], fun j z hj hz => ?_, HR.out.of_self h3⟩
          by_cases hji : j < i
          · exact HN.out j z hji hz
          · obtain rfl : j = i := by omega
            rw [HY.out] at hz
            cases hz
            exact HQ.out
        case measure => rw [hw]; simp [intOf]; omega
    · obtain rfl : i = l.length := by omega
      go_wp2_with fail
      go_ret
      exact ⟨by rw [ixOf_no fun j y hy => HN.out j y (List.getElem?_eq_some_iff.1 hy).1 hy]; rfl, hr⟩
theorem han_any {w : World} {s : Sn} {v : Value} {l : List Hn} {B : Nat} (hv : HansV w v l) (hb : BoxS w B s) : Calls Tryz.prog 23 #[v, .func (.func 24) #[] #[.pointer (some ⟨B, 0, none⟩)]] w fun e w' => e = .returned (.bool (l.any fun y => !inB y.cache 0 (s.nc - 1))) ∧ Own w [] w' := by
  have HM := Lib.hid (ixOf_any (fun y => !inB y.cache 0 (s.nc - 1)) l)
  go_enter Tryz.func23, Tryz.ntmps23
  go_wp2_with (go_at_call 41; refine (han_ix hv hb).mono ?_; rintro e w' ⟨rfl, h3⟩)
  go_ret
  exact ⟨by rw [← HM.out]; rfl, h3⟩
end Go.Proofs.YthjjpmoifgcepaaGreat.Jh
