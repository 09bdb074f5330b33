import Derived.Test.YthjjpmoifgcepaaGreatJhJhS
/-
  Contracts: judge.calls, judge.first, judge.gives, judge.takes, with their tests. No condition.
-/
namespace Go.Proofs.YthjjpmoifgcepaaGreat.Jh
open Go.RowKit
attribute [local go_sem ↓] Go.wp_at_zero Go.wp_at_succ
abbrev ddAgg (d : Dd) (sv : Value) : Value := .agg #[.int .i64 d.cpu, .int .i64 d.op, .int .i64 d.fr, .int .i64 d.tp, .int .i64 d.e, sv]
abbrev ddObj (d : Dd) (sv : Value) : Obj := .cells #[.int .i64 d.cpu, .int .i64 d.op, .int .i64 d.fr, .int .i64 d.tp, .int .i64 d.e, sv] 45
/-- a call that has ended may not be -/
def didBad (s : Sn) (d : Dd) : Bool := (d.hs.any fun y => !inB y 0 (s.hn.length - 1)) || !inB d.cpu 0 (s.depths.length - 1) || !inB d.fr 0 d.tp || decide (s.now < d.tp)
theorem did_iff {s : Sn} {d : Dd} : didBad s d = false ↔ DidOk s.hn.length s.depths.length s.now d := by
  simp only [didBad, DidOk, Bool.or_eq_false_iff, Bool.not_eq_false', inB_iff, List.any_eq_false, Bool.not_eq_true', decide_eq_false_iff_not, Int.not_lt, Bool.not_eq_true, and_assoc, Bool.not_eq_false]
theorem dd_at {W w : World} {b : Nat} {d : Dd} {sv : Value} {m : List (Nat × Obj)} (h : Own W ((b, ddObj d sv) :: m) w) : w.cell? ⟨b, 0, none⟩ = some (.int .i64 d.cpu) ∧ w.cell? ⟨b, 1, none⟩ = some (.int .i64 d.op) ∧ w.cell? ⟨b, 2, none⟩ = some (.int .i64 d.fr) ∧ w.cell? ⟨b, 3, none⟩ = some (.int .i64 d.tp) ∧ w.cell? ⟨b, 4, none⟩ = some (.int .i64 d.e) ∧ w.cell? ⟨b, 5, none⟩ = some sv :=
  ⟨h.cell List.mem_cons_self 0, h.cell List.mem_cons_self 1, h.cell List.mem_cons_self 2, h.cell List.mem_cons_self 3, h.cell List.mem_cons_self 4, h.cell List.mem_cons_self 5⟩
theorem box01 {w : World} {B : Nat} {s : Sn} (h : BoxS w B s) : w.cell? ⟨B, 0, none⟩ = some (.int .i64 s.now) ∧ (∃ A c, w.cell? ⟨B, 1, none⟩ = some (.slice A s.depths.length c)) ∧ s.depths.length * 8 ≤ 140737488351232 := by
  obtain ⟨v, hv⟩ := h.open_
  have h0 := hv.at_ 0
  rw [hv.v0] at h0
  have h1 := hv.at_ 1
  obtain ⟨A, c, e1⟩ := hv.v1.form
  rw [e1] at h1
  exact ⟨h0, ⟨A, c, h1⟩, hv.v1.2⟩
set_option maxHeartbeats 4000000 in
theorem didT_spec {w : World} {B : Nat} {s : Sn} (hb : BoxS w B s) {d : Dd} {Av : Option Addr} {cv : Nat} (hs : IntsB w (.slice Av d.hs.length cv) d.hs) : Calls Tryz.prog 46 #[ddAgg d (.slice Av d.hs.length cv), .pointer (some ⟨B, 0, none⟩)] w fun e w' => e = .returned (.bool (didBad s d)) ∧ Own w [] w' := by
  have hO := (Own.self w).new (ddObj d (.slice Av d.hs.length cv))
  have HX := Lib.hid (hb.own hO)
  have HS := Lib.hid (hs.own hO)
  obtain ⟨_, ⟨A1, c1, a1⟩, hB⟩ := box01 HX.out
  have hw : wrap64 ((s.depths.length : Int) - 1) = (s.depths.length : Int) - 1 := IntWalk.wrap64_in _ (by omega)
  have HW := Lib.hid hw
  have HA1 := Lib.hid a1
  have HLT := Lib.hid HX.out.1
  have hne := Lib.hid (show B ≠ w.heap.size from Nat.ne_of_lt hb.1)
  have DEF : Hid (didBad s d = ((d.hs.any fun y => !inB y 0 (s.hn.length - 1)) || !inB d.cpu 0 (s.depths.length - 1) || !inB d.fr 0 d.tp || decide (s.now < d.tp))) := Lib.hid rfl
  obtain ⟨cnd, HC⟩ : ∃ cnd, Hid ((d.hs.any fun y => !inB y 0 (s.hn.length - 1)) = cnd) := ⟨_, rfl⟩
  obtain ⟨q1, HQ1⟩ : ∃ q, Hid (inB d.cpu 0 (s.depths.length - 1) = q) := ⟨_, rfl⟩
  obtain ⟨q2, HQ2⟩ : ∃ q, Hid (inB d.fr 0 d.tp = q) := ⟨_, rfl⟩
  rw [HC.out, HQ1.out, HQ2.out] at DEF
  have HO := Lib.hid hO
  have g5 := (dd_at hO).2.2.2.2.2
  clear hw a1 hB hb hs hO
  go_enter Tryz.func46, Tryz.ntmps46
  go_upto_region 2 with (go_at_call 21; refine (h_any HS.out HX.out).mono ?_; rintro e w2 ⟨rfl, h3⟩; rw [HC.out]; have HO2 := Lib.hid (HO.out.of_self h3); have HX2 := Lib.hid (HX.out.own h3); clear h3)
  obtain ⟨g0, g1, g2, g3, g4, g6⟩ := dd_at HO2.out
  obtain ⟨b0, ⟨A, c, b1⟩, -⟩ := box01 HX2.out
  cases cnd with
  | true =>
    go_wp2_with fail
    go_ret
    exact ⟨by rw [DEF.out]; rfl, HO2.out.sub (List.nil_sublist _)⟩
  | false =>
    cases q1 with
    | false =>
      go_wp2_with (go_at_call 20; rw [HW.out]; refine (jwithin_b _ HQ1.out).mono ?_; rintro e w3 ⟨rfl, h3⟩)
      go_ret
      exact ⟨by rw [DEF.out]; rfl, (HO2.out.of_self h3).sub (List.nil_sublist _)⟩
    | true =>
      have step : ∀ w3, Own w2 [] w3 → w3.cell? ⟨w.heap.size, 2, none⟩ = some (.int .i64 d.fr) ∧ w3.cell? ⟨w.heap.size, 3, none⟩ = some (.int .i64 d.tp) ∧ w3.cell? ⟨B, 0, none⟩ = some (.int .i64 s.now) := fun w3 h3 =>
        ⟨(dd_at (HO2.out.of_self h3)).2.2.1, (dd_at (HO2.out.of_self h3)).2.2.2.1, (box01 (HX2.out.own h3)).1⟩
      have HST := Lib.hid step
      clear step
      cases q2 with
      | false =>
        go_wp2_with (first
          | (go_at_call 20; rw [HW.out]; refine (jwithin_b _ HQ1.out).mono ?_; rintro e w3 ⟨rfl, h3⟩; obtain ⟨y2, y3, y0⟩ := HST.out w3 h3)
          | (go_at_call 20; refine (jwithin_b _ HQ2.out).mono ?_; rintro e w4 ⟨rfl, h4⟩; have h5 := h3.of_self h4))
        go_ret
        exact ⟨by rw [DEF.out]; rfl, (HO2.out.of_self h5).sub (List.nil_sublist _)⟩
      | true =>
        by_cases ht : s.now < d.tp
        · have hd : decide (s.now < d.tp) = true := decide_eq_true ht
          have HD := Lib.hid hd
          go_wp2_with (first
            | (go_at_call 20; rw [HW.out]; refine (jwithin_b _ HQ1.out).mono ?_; rintro e w3 ⟨rfl, h3⟩; obtain ⟨y2, y3, y0⟩ := HST.out w3 h3)
            | (go_at_call 20; refine (jwithin_b _ HQ2.out).mono ?_; rintro e w4 ⟨rfl, h4⟩; have h5 := h3.of_self h4; obtain ⟨z2, z3, z0⟩ := HST.out w4 h5))
          go_ret
          exact ⟨by rw [DEF.out, HD.out]; rfl, (HO2.out.of_self h5).sub (List.nil_sublist _)⟩
        · have hd : decide (s.now < d.tp) = false := decide_eq_false ht
          have HD := Lib.hid hd
          go_wp2_with (first
            | (go_at_call 20; rw [HW.out]; refine (jwithin_b _ HQ1.out).mono ?_; rintro e w3 ⟨rfl, h3⟩; obtain ⟨y2, y3, y0⟩ := HST.out w3 h3)
            | (go_at_call 20; refine (jwithin_b _ HQ2.out).mono ?_; rintro e w4 ⟨rfl, h4⟩; have h5 := h3.of_self h4; obtain ⟨z2, z3, z0⟩ := HST.out w4 h5))
          go_ret
          exact ⟨by rw [DEF.out, HD.out]; rfl, (HO2.out.of_self h5).sub (List.nil_sublist _)⟩
set_option maxHeartbeats 4000000 in
set_option maxRecDepth 100000 in
theorem did_ix {w : World} {s : Sn} {v : Value} {l : List Dd} {B : Nat} (hv : DidsV w v l) (hb : BoxS w B s) : Calls Tryz.prog 27 #[v, .func (.func 46) #[] #[.pointer (some ⟨B, 0, none⟩)]] w fun e w' => e = .returned (.int .i64 (ixOf (fun y => didBad s y) l)) ∧ Own w [] w' := by
  have HB : Hid ((l.length : Int) < 9223372036854775807) := (by have : l.length * 64 ≤ 140737488351232 := hv.bytes; show (l.length : Int) < _; omega)
  have X_hb := Lib.hid hb
  obtain ⟨A, c, rfl⟩ := hv.form
  have HV := Lib.hid hv
  clear hv hb
  go_enter Tryz.func27, Tryz.ntmps27
  go_wp2_with fail
  go_loopw [8] (fun k wr => ∃ i : Nat, i ≤ l.length ∧ k = .int .i64 i ∧ Hid (∀ (j : Nat) y, j < i → l[j]? = some y → (didBad s y) = false) ∧ Own w [] wr) (fun k _ => l.length - (intOf k).toNat)
  case atStart => exact ⟨0, Nat.zero_le _, rfl, fun j y hj => absurd hj (by omega), Own.self w⟩
  case round =>
    obtain ⟨i, hi, rfl, HN, hr⟩ := hrel
    by_cases hlt : i < l.length
    · obtain ⟨y, hy⟩ : ∃ y, l[i]? = some y := ⟨_, List.getElem?_eq_getElem hlt⟩
      obtain ⟨g, o, c', he, _, hc⟩ := (HV.out.own hr).at_ (by omega)
      cases he
      obtain ⟨sv, hsv, c0, c1, c2, c3, c4, c5⟩ := hc i _ hy
      obtain ⟨Av, cv, rfl⟩ := hsv.form
      have HSV := Lib.hid hsv
      clear hsv
      have HY := Lib.hid hy
      have hw := wrap_succ hlt HB.out
      have Y_hb := Lib.hid (X_hb.out.own hr)
      clear hy hc
      cases hq : didBad s y with
      | true =>
        have HQ := Lib.hid hq
        have HR := Lib.hid hr
        clear hr hq
        go_wp2_with (go_at_call 46; refine (didT_spec Y_hb.out HSV.out).mono ?_; rintro e w' ⟨rfl, h3⟩; rw [HQ.out])
        go_ret
        exact ⟨by rw [ixOf_yes HY.out HQ.out HN.out]; rfl, HR.out.of_self h3⟩
      | false =>
        have HQ := Lib.hid hq
        have HR := Lib.hid hr
        clear hr hq
        go_wp2_with (go_at_call 46; refine (didT_spec Y_hb.out HSV.out).mono ?_; rintro e w' ⟨rfl, h3⟩; rw [HQ.out])
        go_roundw
        case rel =>
          refine ⟨i + 1, by omega, by rw [hw], fun j z hj hz => ?_, HR.out.of_self h3⟩
          by_cases hji : j < i
          · exact HN.out j z hji hz
          · obtain rfl : j = i := by omega
            rw [HY.out] at hz
            cases hz
            exact HQ.out
        case measure => rw [hw]; simp [intOf]; omega
    · obtain rfl : i = l.length := by omega
      go_wp2_with fail
      go_ret
      exact ⟨by rw [ixOf_no fun j y hy => HN.out j y (List.getElem?_eq_some_iff.1 hy).1 hy]; rfl, hr⟩
theorem did_any {w : World} {s : Sn} {v : Value} {l : List Dd} {B : Nat} (hv : DidsV w v l) (hb : BoxS w B s) : Calls Tryz.prog 45 #[v, .func (.func 46) #[] #[.pointer (some ⟨B, 0, none⟩)]] w fun e w' => e = .returned (.bool (l.any fun y => didBad s y)) ∧ Own w [] w' := by
  have HM := Lib.hid (ixOf_any (fun y => didBad s y) l)
  go_enter Tryz.func45, Tryz.ntmps45
  go_wp2_with (go_at_call 27; refine (did_ix hv hb).mono ?_; rintro e w' ⟨rfl, h3⟩)
  go_ret
  exact ⟨by rw [← HM.out]; rfl, h3⟩
set_option maxHeartbeats 1000000 in
/-- judge.calls -/
theorem calls_spec {w : World} {s : Sn} {cs : Array Value} (h : SnapV w (.agg cs) s) : Calls Tryz.prog 26 #[.agg cs] w fun e w' => e = .returned (.bool (!s.ds.any fun y => didBad s y)) ∧ Own w [] w' := by
  have hO := (Own.self w).alloc (.cells cs 28)
  have HX := Lib.hid (BoxS.new (t := 28) h)
  obtain ⟨v, hv⟩ := HX.out.open_
  have h11 := hv.at_ 11
  have HV := Lib.hid hv.v11
  have h11' : (w.alloc (.cells cs 28)).cell? ⟨w.heap.size, 11, none⟩ = some (v 11) := h11
  obtain ⟨A, c, e11⟩ := hv.v11.form
  rw [e11] at HV h11'
  clear h11 e11 hv h
  go_enter Tryz.func26, Tryz.ntmps26
  go_wp2_with (go_at_call 45; refine (did_any HV.out HX.out).mono ?_; rintro e w2 ⟨rfl, h3⟩)
  go_ret
  exact ⟨rfl, hO.of_self h3⟩
theorem jgives_spec (w : World) {d : Dd} {sv : Value} : Calls Tryz.prog 12 #[ddAgg d sv] w fun e w' => e = .returned (.bool (gives d.op)) ∧ Own w [] w' := by
  have hO := (Own.self w).new (ddObj d sv)
  have HO := Lib.hid (hO.sub (List.nil_sublist _))
  by_cases h1 : d.op = 1
  · have d1 : (d.op == 1) = true := by simp [h1]
    have HD : Hid (gives d.op = true) := by show _ = _; simp [gives, h1]
    clear h1
    go_enter Tryz.func12, Tryz.ntmps12
    go_wp2_with fail
    go_ret
    exact ⟨by rw [HD.out]; rfl, HO.out⟩
  · have d1 : (d.op == 1) = false := by simp [h1]
    by_cases h2 : d.op = 3
    · have d2 : (d.op == 3) = true := by simp [h2]
      have HD : Hid (gives d.op = true) := by show _ = _; simp [gives, h2]
      clear h1 h2
      go_enter Tryz.func12, Tryz.ntmps12
      go_wp2_with fail
      go_ret
      exact ⟨by rw [HD.out]; rfl, HO.out⟩
    · have d2 : (d.op == 3) = false := by simp [h2]
      have HD : Hid (gives d.op = (d.op == 12)) := by show _ = _; unfold gives; rw [d1, d2]; rfl
      clear h1 h2
      go_enter Tryz.func12, Tryz.ntmps12
      go_wp2_with fail
      go_ret
      exact ⟨by rw [HD.out]; rfl, HO.out⟩
theorem jtakes_spec (w : World) {d : Dd} {sv : Value} : Calls Tryz.prog 30 #[ddAgg d sv] w fun e w' => e = .returned (.bool (decide (d.e = 0) && takes d.op)) ∧ Own w [] w' := by
  have hO := (Own.self w).new (ddObj d sv)
  have HO := Lib.hid (hO.sub (List.nil_sublist _))
  by_cases h0 : d.e = 0
  · have d0 : (d.e == 0) = true := by simp [h0]
    have H0 : Hid (decide (d.e = 0) = true) := Lib.hid (decide_eq_true h0)
    clear h0
    by_cases h1 : d.op = 2
    · have d1 : (d.op == 2) = true := by simp [h1]
      have HD : Hid (takes d.op = true) := by show _ = _; simp [takes, h1]
      clear h1
      go_enter Tryz.func30, Tryz.ntmps30
      go_wp2_with fail
      go_ret
      exact ⟨by rw [HD.out, H0.out]; rfl, HO.out⟩
    · have d1 : (d.op == 2) = false := by simp [h1]
      by_cases h2 : d.op = 4
      · have d2 : (d.op == 4) = true := by simp [h2]
        have HD : Hid (takes d.op = true) := by show _ = _; simp [takes, h2]
        clear h1 h2
        go_enter Tryz.func30, Tryz.ntmps30
        go_wp2_with fail
        go_ret
        exact ⟨by rw [HD.out, H0.out]; rfl, HO.out⟩
      · have d2 : (d.op == 4) = false := by simp [h2]
        have HD : Hid (takes d.op = (d.op == 13)) := by show _ = _; unfold takes; rw [d1, d2]; rfl
        clear h1 h2
        go_enter Tryz.func30, Tryz.ntmps30
        go_wp2_with fail
        go_ret
        exact ⟨by rw [HD.out, H0.out]; rfl, HO.out⟩
  · have d0 : (d.e == 0) = false := by simp [h0]
    have H0 : Hid (decide (d.e = 0) = false) := Lib.hid (decide_eq_false h0)
    clear h0
    go_enter Tryz.func30, Tryz.ntmps30
    go_wp2_with fail
    go_ret
    exact ⟨by rw [H0.out]; rfl, HO.out⟩
/-- a block that holds a number, one that holds a function -/
def BoxF (w : World) (B C : Nat) (h : Int) (f : Nat) : Prop := B < w.heap.size ∧ C < w.heap.size ∧ w.cell? ⟨B, 0, none⟩ = some (.int .i64 h) ∧ w.cell? ⟨C, 0, none⟩ = some (.func (.func f) #[] #[])
theorem BoxF.own {W w : World} {B C : Nat} {h : Int} {f : Nat} {m : List (Nat × Obj)} (H : BoxF W B C h f) (hO : Own W m w) : BoxF w B C h f :=
  ⟨Nat.lt_of_lt_of_le H.1 hO.size_le, Nat.lt_of_lt_of_le H.2.1 hO.size_le, (hO.old (a := ⟨B, 0, none⟩) H.1).trans H.2.2.1, (hO.old (a := ⟨C, 0, none⟩) H.2.1).trans H.2.2.2⟩
set_option maxHeartbeats 4000000 in
theorem givT_spec {w : World} {B C : Nat} {h : Int} (hb : BoxF w B C h 12) {d : Dd} {Av : Option Addr} {cv : Nat} (hs : IntsB w (.slice Av d.hs.length cv) d.hs) : Calls Tryz.prog 28 #[ddAgg d (.slice Av d.hs.length cv), .pointer (some ⟨B, 0, none⟩), .pointer (some ⟨C, 0, none⟩)] w fun e w' => e = .returned (.bool (isGive h d)) ∧ Own w [] w' := by
  have hO := (Own.self w).new (ddObj d (.slice Av d.hs.length cv))
  have HX := Lib.hid (hb.own hO)
  have HS := Lib.hid (hs.own hO)
  have HO := Lib.hid (hO.sub (List.nil_sublist _))
  obtain ⟨-, -, x1, x2⟩ := HX.out
  obtain ⟨g0, g1, g2, g3, g4, g5⟩ := dd_at hO
  clear hb hs hO
  by_cases hm : h ∈ d.hs
  · have HM : Hid (decide (h ∈ d.hs) = true) := Lib.hid (decide_eq_true hm)
    clear hm
    go_enter Tryz.func28, Tryz.ntmps28
    go_wp2_with (first
      | (go_at_call 29; refine (contains_spec HS.out h).mono ?_; rintro e w2 ⟨rfl, rfl⟩; rw [HM.out])
      | (go_at_call 12; refine (jgives_spec _).mono ?_; rintro e w3 ⟨rfl, h3⟩))
    go_ret
    exact ⟨by unfold isGive; rw [HM.out]; rfl, HO.out.of_self h3⟩
  · have HM : Hid (decide (h ∈ d.hs) = false) := Lib.hid (decide_eq_false hm)
    clear hm
    go_enter Tryz.func28, Tryz.ntmps28
    go_wp2_with (go_at_call 29; refine (contains_spec HS.out h).mono ?_; rintro e w2 ⟨rfl, rfl⟩; rw [HM.out])
    go_ret
    exact ⟨by unfold isGive; rw [HM.out]; rfl, HO.out⟩
set_option maxHeartbeats 4000000 in
theorem takT_spec {w : World} {B C : Nat} {h : Int} (hb : BoxF w B C h 30) {d : Dd} {Av : Option Addr} {cv : Nat} (hs : IntsB w (.slice Av d.hs.length cv) d.hs) : Calls Tryz.prog 28 #[ddAgg d (.slice Av d.hs.length cv), .pointer (some ⟨B, 0, none⟩), .pointer (some ⟨C, 0, none⟩)] w fun e w' => e = .returned (.bool (isTake h d)) ∧ Own w [] w' := by
  have hO := (Own.self w).new (ddObj d (.slice Av d.hs.length cv))
  have HX := Lib.hid (hb.own hO)
  have HS := Lib.hid (hs.own hO)
  have HO := Lib.hid (hO.sub (List.nil_sublist _))
  obtain ⟨-, -, x1, x2⟩ := HX.out
  obtain ⟨g0, g1, g2, g3, g4, g5⟩ := dd_at hO
  clear hb hs hO
  by_cases hm : h ∈ d.hs
  · have HM : Hid (decide (h ∈ d.hs) = true) := Lib.hid (decide_eq_true hm)
    clear hm
    go_enter Tryz.func28, Tryz.ntmps28
    go_wp2_with (first
      | (go_at_call 29; refine (contains_spec HS.out h).mono ?_; rintro e w2 ⟨rfl, rfl⟩; rw [HM.out])
      | (go_at_call 30; refine (jtakes_spec _).mono ?_; rintro e w3 ⟨rfl, h3⟩))
    go_ret
    exact ⟨by unfold isTake; rw [HM.out]; rfl, HO.out.of_self h3⟩
  · have HM : Hid (decide (h ∈ d.hs) = false) := Lib.hid (decide_eq_false hm)
    clear hm
    go_enter Tryz.func28, Tryz.ntmps28
    go_wp2_with (go_at_call 29; refine (contains_spec HS.out h).mono ?_; rintro e w2 ⟨rfl, rfl⟩; rw [HM.out])
    go_ret
    exact ⟨by unfold isTake; rw [HM.out]; rfl, HO.out⟩
set_option maxHeartbeats 4000000 in
set_option maxRecDepth 100000 in
theorem giv_ix {w : World} {s : Sn} {v : Value} {l : List Dd} {B C : Nat} {h : Int} (hv : DidsV w v l) (hb : BoxF w B C h 12) : Calls Tryz.prog 27 #[v, .func (.func 28) #[] #[.pointer (some ⟨B, 0, none⟩), .pointer (some ⟨C, 0, none⟩)]] w fun e w' => e = .returned (.int .i64 (ixOf (fun y => isGive h y) l)) ∧ Own w [] w' := by
  have HB : Hid ((l.length : Int) < 9223372036854775807) := (by have : l.length * 64 ≤ 140737488351232 := hv.bytes; show (l.length : Int) < _; omega)
  have X_hb := Lib.hid hb
  obtain ⟨A, c, rfl⟩ := hv.form
  have HV := Lib.hid hv
  clear hv hb
  go_enter Tryz.func27, Tryz.ntmps27
  go_wp2_with fail
  go_loopw [8] (fun k wr => ∃ i : Nat, i ≤ l.length ∧ k = .int .i64 i ∧ Hid (∀ (j : Nat) y, j < i → l[j]? = some y → (isGive h y) = false) ∧ Own w [] wr) (fun k _ => l.length - (intOf k).toNat)
  case atStart => exact ⟨0, Nat.zero_le _, rfl, fun j y hj => absurd hj (by omega), Own.self w⟩
  case round =>
    obtain ⟨i, hi, rfl, HN, hr⟩ := hrel
    by_cases hlt : i < l.length
    · obtain ⟨y, hy⟩ : ∃ y, l[i]? = some y := ⟨_, List.getElem?_eq_getElem hlt⟩
      obtain ⟨g, o, c', he, _, hc⟩ := (HV.out.own hr).at_ (by omega)
      cases he
      obtain ⟨sv, hsv, c0, c1, c2, c3, c4, c5⟩ := hc i _ hy
      obtain ⟨Av, cv, rfl⟩ := hsv.form
      have HSV := Lib.hid hsv
      clear hsv
      have HY := Lib.hid hy
      have hw := wrap_succ hlt HB.out
      have Y_hb := Lib.hid (X_hb.out.own hr)
      clear hy hc
      cases hq : isGive h y with
      | true =>
        have HQ := Lib.hid hq
        have HR := Lib.hid hr
        clear hr hq
        go_wp2_with (go_at_call 28; refine (givT_spec Y_hb.out HSV.out).mono ?_; rintro e w' ⟨rfl, h3⟩; rw [HQ.out])
        go_ret
        exact ⟨by rw [ixOf_yes HY.out HQ.out HN.out]; rfl, HR.out.of_self h3⟩
      | false =>
        have HQ := Lib.hid hq
        have HR := Lib.hid hr
        clear hr hq
        go_wp2_with (go_at_call 28; refine (givT_spec Y_hb.out HSV.out).mono ?_; rintro e w' ⟨rfl, h3⟩; rw [HQ.out])
        go_roundw
        case rel =>
          refine ⟨i + 1, by omega, by rw [hw], fun j z hj hz => ?_, HR.out.of_self h3⟩
          by_cases hji : j < i
          · exact HN.out j z hji hz
          · obtain rfl : j = i := by omega
            rw [HY.out] at hz
            cases hz
            exact HQ.out
        case measure => rw [hw]; simp [intOf]; omega
    · obtain rfl : i = l.length := by omega
      go_wp2_with fail
      go_ret
      exact ⟨by rw [ixOf_no fun j y hy => HN.out j y (List.getElem?_eq_some_iff.1 hy).1 hy]; rfl, hr⟩
set_option maxHeartbeats 4000000 in
set_option maxRecDepth 100000 in
theorem tak_ix {w : World} {s : Sn} {v : Value} {l : List Dd} {B C : Nat} {h : Int} (hv : DidsV w v l) (hb : BoxF w B C h 30) : Calls Tryz.prog 27 #[v, .func (.func 28) #[] #[.pointer (some ⟨B, 0, none⟩), .pointer (some ⟨C, 0, none⟩)]] w fun e w' => e = .returned (.int .i64 (ixOf (fun y => isTake h y) l)) ∧ Own w [] w' := by
  have HB : Hid ((l.length : Int) < 9223372036854775807) := (by have : l.length * 64 ≤ 140737488351232 := hv.bytes; show (l.length : Int) < _; omega)
  have X_hb := Lib.hid hb
  obtain ⟨A, c, rfl⟩ := hv.form
  have HV := Lib.hid hv
  clear hv hb
  go_enter Tryz.func27, Tryz.ntmps27
  go_wp2_with fail
  go_loopw [8] (fun k wr => ∃ i : Nat, i ≤ l.length ∧ k = .int .i64 i ∧ Hid (∀ (j : Nat) y, j < i → l[j]? = some y → (isTake h y) = false) ∧ Own w [] wr) (fun k _ => l.length - (intOf k).toNat)
  case atStart => exact ⟨0, Nat.zero_le _, rfl, fun j y hj => absurd hj (by omega), Own.self w⟩
  case round =>
    obtain ⟨i, hi, rfl, HN, hr⟩ := hrel
    by_cases hlt : i < l.length
    · obtain ⟨y, hy⟩ : ∃ y, l[i]? = some y := ⟨_, List.getElem?_eq_getElem hlt⟩
      obtain ⟨g, o, c', he, _, hc⟩ := (HV.out.own hr).at_ (by omega)
      cases he
      obtain ⟨sv, hsv, c0, c1, c2, c3, c4, c5⟩ := hc i _ hy
      obtain ⟨Av, cv, rfl⟩ := hsv.form
      have HSV := Lib.hid hsv
      clear hsv
      have HY := Lib.hid hy
      have hw := wrap_succ hlt HB.out
      have Y_hb := Lib.hid (X_hb.out.own hr)
      clear hy hc
      cases hq : isTake h y with
      | true =>
        have HQ := Lib.hid hq
        have HR := Lib.hid hr
        clear hr hq
        go_wp2_with (go_at_call 28; refine (takT_spec Y_hb.out HSV.out).mono ?_; rintro e w' ⟨rfl, h3⟩; rw [HQ.out])
        go_ret
        exact ⟨by rw [ixOf_yes HY.out HQ.out HN.out]; rfl, HR.out.of_self h3⟩
      | false =>
        have HQ := Lib.hid hq
        have HR := Lib.hid hr
        clear hr hq
        go_wp2_with (go_at_call 28; refine (takT_spec Y_hb.out HSV.out).mono ?_; rintro e w' ⟨rfl, h3⟩; rw [HQ.out])
        go_roundw
        case rel =>
          refine ⟨i + 1, by omega, by rw [hw], fun j z hj hz => ?_, HR.out.of_self h3⟩
          by_cases hji : j < i
          · exact HN.out j z hji hz
          · obtain rfl : j = i := by omega
            rw [HY.out] at hz
            cases hz
            exact HQ.out
        case measure => rw [hw]; simp [intOf]; omega
    · obtain rfl : i = l.length := by omega
      go_wp2_with fail
      go_ret
      exact ⟨by rw [ixOf_no fun j y hy => HN.out j y (List.getElem?_eq_some_iff.1 hy).1 hy]; rfl, hr⟩
theorem ix_find {α : Type} (f : α → Bool) : ∀ (l : List α), (ixOf f l = -1 ∧ l.find? f = none) ∨ ∃ (i : Nat) (x : α), ixOf f l = i ∧ l[i]? = some x ∧ l.find? f = some x := by
  intro l
  unfold ixOf
  cases h : l.findIdx? f with
  | none =>
    rw [List.findIdx?_eq_none_iff] at h
    exact Or.inl ⟨rfl, List.find?_eq_none.2 fun x hx => by simp [h x hx]⟩
  | some i =>
    rw [List.findIdx?_eq_some_iff_getElem] at h
    obtain ⟨hlt, he, hn⟩ := h
    refine Or.inr ⟨i, l[i], rfl, List.getElem?_eq_getElem hlt, ?_⟩
    exact find_at (List.getElem?_eq_getElem hlt) he fun j y hj hy => by
      obtain ⟨hl, rfl⟩ := List.getElem?_eq_some_iff.1 hy
      simpa using hn j hj
/-- a snap's cells, one behind the other -/
theorem snap_cells {w : World} {s : Sn} {cs : Array Value} (h : SnapV w (.agg cs) s) : ∃ v1 v2 v3 v4 v5 v6 v7 v8 v9 v10 v11, cs = #[.int .i64 s.now, v1, v2, v3, v4, v5, v6, v7, v8, v9, v10, v11] ∧ IntsB w v1 s.depths ∧ PathsV w v2 s.paths ∧ IntsB w v3 s.used ∧ IntsB w v4 s.most ∧ IntsB w v5 s.owned ∧ IntsB w v6 s.held ∧ IntsB w v7 s.flies ∧ IntsB w v8 s.tags ∧ CachesV w v9 s.nc ∧ HansV w v10 s.hn ∧ DidsV w v11 s.ds := by
  obtain ⟨v1, v2, v3, v4, v5, v6, v7, v8, v9, v10, v11, e, k⟩ := h.out
  exact ⟨v1, v2, v3, v4, v5, v6, v7, v8, v9, v10, v11, by injection e, k⟩
end Go.Proofs.YthjjpmoifgcepaaGreat.Jh
