import Derived.Test.YthjjpmoifgcepaaGreatJhJhV
import Derived.Test.YthjjpmoifgcepaaGreatJh4
/-
  Contracts: judge.object, judge.taken. No condition.
-/
namespace Go.Proofs.YthjjpmoifgcepaaGreat.Jh
open Go.RowKit
attribute [local go_sem ↓] Go.wp_at_zero Go.wp_at_succ
abbrev O3 (c s o : Int) : Value := .agg #[.int .i64 c, .int .i64 s, .int .i64 o]
abbrev spA (k c s o f t : Int) : Value := .agg #[.int .i64 k, .int .i64 c, .int .i64 s, .int .i64 o, .int .i64 f, .int .i64 t]
abbrev spO (k c s o f t : Int) : Obj := .cells #[.int .i64 k, .int .i64 c, .int .i64 s, .int .i64 o, .int .i64 f, .int .i64 t] 37
abbrev hnA (x : Hn) : Value := .agg #[.int .i64 x.cache, .int .i64 x.slab, .int .i64 x.obj, .int .i64 x.group, .bool x.out]
abbrev hnO (x : Hn) : Obj := .cells #[.int .i64 x.cache, .int .i64 x.slab, .int .i64 x.obj, .int .i64 x.group, .bool x.out] 41
abbrev obO (c s o : Int) : Obj := .cells #[.int .i64 c, .int .i64 s, .int .i64 o] 33
theorem own_all3 {W w : World} {m : List (Nat × Obj)} {b : Nat} {a0 a1 a2 : Int} (h : Own W ((b, obO a0 a1 a2) :: m) w) (x0 x1 x2 : Int) : Own W ((b, obO x0 x1 x2) :: m) (((w.setCell ⟨b, 0, none⟩ (.int .i64 x0)).setCell ⟨b, 1, none⟩ (.int .i64 x1)).setCell ⟨b, 2, none⟩ (.int .i64 x2)) := by
  have h1 := ((h.set 0 (.int .i64 x0)).set 1 (.int .i64 x1)).set 2 (.int .i64 x2)
  have e : (((#[.int .i64 a0, .int .i64 a1, .int .i64 a2] : Array Value).setIfInBounds 0 (.int .i64 x0)).setIfInBounds 1 (.int .i64 x1)).setIfInBounds 2 (.int .i64 x2) = #[.int .i64 x0, .int .i64 x1, .int .i64 x2] := by simp
  rw [e] at h1
  exact h1
set_option maxHeartbeats 1000000 in
theorem object_spec (w : World) (x : Hn) : Calls Tryz.prog 10 #[hnA x] w fun e w' => e = .returned (O3 x.cache x.slab x.obj) ∧ Own w [] w' := by
  have hO := ((Own.self w).new (hnO x)).new (obO 0 0 0)
  simp only [al_size] at hO
  go_enter Tryz.func10, Tryz.ntmps10
  go_upto_region 1 with fail
  obtain ⟨B, hB⟩ : ∃ B, w.heap.size = B := ⟨_, rfl⟩
  rw [hB] at hO ⊢
  generalize (w.alloc (hnO x)).alloc (obO 0 0 0) = w1 at hO ⊢
  have c0 : w1.cell? ⟨B + 1, 0, none⟩ = some (.int .i64 0) := hO.cell List.mem_cons_self 0
  have c1 : w1.cell? ⟨B + 1, 1, none⟩ = some (.int .i64 0) := hO.cell List.mem_cons_self 1
  have c2 : w1.cell? ⟨B + 1, 2, none⟩ = some (.int .i64 0) := hO.cell List.mem_cons_self 2
  have d0 : w1.cell? ⟨B, 0, none⟩ = some (.int .i64 x.cache) := hO.cell mem1 0
  have d1 : w1.cell? ⟨B, 1, none⟩ = some (.int .i64 x.slab) := hO.cell mem1 1
  have d2 : w1.cell? ⟨B, 2, none⟩ = some (.int .i64 x.obj) := hO.cell mem1 2
  have f0 : w1.frozen? ⟨B + 1, 0, none⟩ = false := hO.frozen List.mem_cons_self 0
  have f1 : w1.frozen? ⟨B + 1, 1, none⟩ = false := hO.frozen List.mem_cons_self 1
  have f2 : w1.frozen? ⟨B + 1, 2, none⟩ = false := hO.frozen List.mem_cons_self 2
  have HO := Lib.hid hO
  clear hO hB
  go_wp2_with fail
  have h3 := own_all3 HO.out x.cache x.slab x.obj
  clear c0 c1 c2 d0 d1 d2 f0 f1 f2
  generalize ((w1.setCell ⟨B + 1, 0, none⟩ (.int .i64 x.cache)).setCell ⟨B + 1, 1, none⟩ (.int .i64 x.slab)).setCell ⟨B + 1, 2, none⟩ (.int .i64 x.obj) = w4 at h3 ⊢
  have c0 := h3.cell List.mem_cons_self 0
  have c1 := h3.cell List.mem_cons_self 1
  have c2 := h3.cell List.mem_cons_self 2
  exact bodyPost_ret (v := O3 x.cache x.slab x.obj) (by simp [results, Tryz.f10, go_sem, c0, c1, c2]) rfl ⟨rfl, h3.sub (List.nil_sublist _)⟩
theorem own_sp {W w : World} {m1 m2 : List (Nat × Obj)} {b : Nat} {k c s o f t : Int} (h : Own W (m1 ++ (b, spO k c s o f t) :: m2) w) (f' t' : Int) : Own W (m1 ++ (b, spO k c s o f' t') :: m2) ((w.setCell ⟨b, 4, none⟩ (.int .i64 f')).setCell ⟨b, 5, none⟩ (.int .i64 t')) := by
  have h1 := (h.setIn 4 (.int .i64 f')).setIn 5 (.int .i64 t')
  have e : ((#[.int .i64 k, .int .i64 c, .int .i64 s, .int .i64 o, .int .i64 f, .int .i64 t] : Array Value).setIfInBounds 4 (.int .i64 f')).setIfInBounds 5 (.int .i64 t') = #[.int .i64 k, .int .i64 c, .int .i64 s, .int .i64 o, .int .i64 f', .int .i64 t'] := by simp
  rw [e] at h1
  exact h1
theorem own_sp1 {W w : World} {m1 m2 : List (Nat × Obj)} {b : Nat} {k c s o f t : Int} (h : Own W (m1 ++ (b, spO k c s o f t) :: m2) w) (f' : Int) : Own W (m1 ++ (b, spO k c s o f' t) :: m2) (w.setCell ⟨b, 4, none⟩ (.int .i64 f')) := by
  have h1 := (h.setIn 4 (.int .i64 f'))
  have e : ((#[.int .i64 k, .int .i64 c, .int .i64 s, .int .i64 o, .int .i64 f, .int .i64 t] : Array Value).setIfInBounds 4 (.int .i64 f')) = #[.int .i64 k, .int .i64 c, .int .i64 s, .int .i64 o, .int .i64 f', .int .i64 t] := by simp
  rw [e] at h1
  exact h1
theorem own_sp6 {W w : World} {m1 m2 : List (Nat × Obj)} {b : Nat} {a0 a1 a2 a3 a4 a5 : Int} (h : Own W (m1 ++ (b, spO a0 a1 a2 a3 a4 a5) :: m2) w) (k c s o f t : Int) : Own W (m1 ++ (b, spO k c s o f t) :: m2) ((((((w.setCell ⟨b, 0, none⟩ (.int .i64 k)).setCell ⟨b, 1, none⟩ (.int .i64 c)).setCell ⟨b, 2, none⟩ (.int .i64 s)).setCell ⟨b, 3, none⟩ (.int .i64 o)).setCell ⟨b, 4, none⟩ (.int .i64 f)).setCell ⟨b, 5, none⟩ (.int .i64 t)) := by
  have h1 := (((((h.setIn 0 (.int .i64 k)).setIn 1 (.int .i64 c)).setIn 2 (.int .i64 s)).setIn 3 (.int .i64 o)).setIn 4 (.int .i64 f)).setIn 5 (.int .i64 t)
  have e : ((((((#[.int .i64 a0, .int .i64 a1, .int .i64 a2, .int .i64 a3, .int .i64 a4, .int .i64 a5] : Array Value).setIfInBounds 0 (.int .i64 k)).setIfInBounds 1 (.int .i64 c)).setIfInBounds 2 (.int .i64 s)).setIfInBounds 3 (.int .i64 o)).setIfInBounds 4 (.int .i64 f)).setIfInBounds 5 (.int .i64 t) = #[.int .i64 k, .int .i64 c, .int .i64 s, .int .i64 o, .int .i64 f, .int .i64 t] := by simp
  rw [e] at h1
  exact h1
theorem sp_at {W w : World} {m : List (Nat × Obj)} {b : Nat} {k c s o f t : Int} (h : Own W m w) (hm : (b, spO k c s o f t) ∈ m) : (w.cell? ⟨b, 0, none⟩ = some (.int .i64 k) ∧ w.cell? ⟨b, 1, none⟩ = some (.int .i64 c) ∧ w.cell? ⟨b, 2, none⟩ = some (.int .i64 s) ∧ w.cell? ⟨b, 3, none⟩ = some (.int .i64 o) ∧ w.cell? ⟨b, 4, none⟩ = some (.int .i64 f) ∧ w.cell? ⟨b, 5, none⟩ = some (.int .i64 t)) ∧ (w.frozen? ⟨b, 0, none⟩ = false ∧ w.frozen? ⟨b, 1, none⟩ = false ∧ w.frozen? ⟨b, 2, none⟩ = false ∧ w.frozen? ⟨b, 3, none⟩ = false ∧ w.frozen? ⟨b, 4, none⟩ = false ∧ w.frozen? ⟨b, 5, none⟩ = false) :=
  ⟨⟨h.cell hm 0, h.cell hm 1, h.cell hm 2, h.cell hm 3, h.cell hm 4, h.cell hm 5⟩, ⟨h.frozen hm 0, h.frozen hm 1, h.frozen hm 2, h.frozen hm 3, h.frozen hm 4, h.frozen hm 5⟩⟩
/-- the least so far, as the program keeps it -/
def lv : Option Int → Int | none => -1 | some x => x
set_option maxHeartbeats 4000000 in
set_option maxRecDepth 100000 in
theorem taken_spec {w : World} {s : Sn} {cs : Array Value} (hs : SnapV w (.agg cs) s) (hc : ∀ d ∈ s.ds, 0 ≤ d.fr) (h c sl ob : Int) : Calls Tryz.prog 13 #[.agg cs, .int .i64 h, O3 c sl ob] w fun e w' => e = .returned (spA 3 c sl ob (tak s.ds h).1 (tak s.ds h).2) ∧ Own w [] w' := by
  have HC := Lib.hid hc
  have hX : BoxS (w.alloc (.cells cs 28)) w.heap.size s := BoxS.new hs
  have hO := (((((Own.self w).new (.cells cs 28)).new (obO c sl ob)).new (spO 0 0 0 0 0 0)).new (spO 3 c sl ob 0 (-1)))
  have hX2 := hX.own ((((Own.self _).new (obO c sl ob)).new (spO 0 0 0 0 0 0)).new (spO 3 c sl ob 0 (-1)))
  simp only [al_size] at hO
  clear hs hc hX
  go_enter Tryz.func13, Tryz.ntmps13
  go_upto_region 2 with fail
  obtain ⟨B, hB⟩ : ∃ B, w.heap.size = B := ⟨_, rfl⟩
  rw [hB] at hO hX2 ⊢
  generalize (((w.alloc (.cells cs 28)).alloc (obO c sl ob)).alloc (spO 0 0 0 0 0 0)).alloc (spO 3 c sl ob 0 (-1)) = W1 at hO hX2 ⊢
  have HX := Lib.hid hX2
  have HO := Lib.hid hO
  clear hX2 hO hB
  obtain ⟨B1, d1, B2, d2, B3, d3, B4, d4, B5, d5, B6, d6, B7, d7, B8, d8, B9, d9, B10, d10, B11, d11, ⟨f0, f1, f2, f3, f4, f5, f6, f7, f8, f9, f10, f11⟩, -, -, -, -, gs⟩ := box_all HX.out
  have GS := Lib.hid gs
  clear gs
  go_upto_region 3 with (go_at_call 11; refine (first_tak GS.out h).mono ?_; rintro e w2 ⟨d, Av, nv, cv, b, rfl, hr, h2⟩; have HR := Lib.hid hr; have HO2 := Lib.hid ((HO.out.of_self h2).new (ddObj d (.slice Av nv cv))); have HX2 := Lib.hid ((HX.out.own h2).own ((Own.self w2).alloc (ddObj d (.slice Av nv cv)))); clear hr h2)
  clear f0 f1 f2 f3 f4 f5 f6 f7 f8 f9 f10 f11
  obtain ⟨D, hD⟩ : ∃ D, w2.heap.size = D := ⟨_, rfl⟩
  have hO3 := HO2.out
  have hX3 := HX2.out
  rw [hD] at hO3 ⊢
  clear HO2 HX2
  generalize w2.alloc (ddObj d (.slice Av nv cv)) = W3 at hO3 hX3 ⊢
  have HO3 := Lib.hid hO3
  have HX3 := Lib.hid hX3
  obtain ⟨a0, a1, a2, a3, a4, a5⟩ : W3.cell? ⟨B + 1 + 1 + 1, 0, none⟩ = some (.int .i64 3) ∧ W3.cell? ⟨B + 1 + 1 + 1, 1, none⟩ = some (.int .i64 c) ∧ W3.cell? ⟨B + 1 + 1 + 1, 2, none⟩ = some (.int .i64 sl) ∧ W3.cell? ⟨B + 1 + 1 + 1, 3, none⟩ = some (.int .i64 ob) ∧ W3.cell? ⟨B + 1 + 1 + 1, 4, none⟩ = some (.int .i64 0) ∧ W3.cell? ⟨B + 1 + 1 + 1, 5, none⟩ = some (.int .i64 (-1)) := ⟨hO3.cell mem1 0, hO3.cell mem1 1, hO3.cell mem1 2, hO3.cell mem1 3, hO3.cell mem1 4, hO3.cell mem1 5⟩
  clear hX3
  rcases HR.out with ⟨rfl, hf⟩ | ⟨rfl, hf, hd1, hd2⟩
  · have HF : Hid (tak s.ds h = (d.fr, d.tp)) := Lib.hid (by unfold tak; rw [hf])
    obtain ⟨x0, x1, x2, x3, x4, x5⟩ := dd_at hO3
    have z4 : W3.frozen? ⟨B + 1 + 1 + 1, 4, none⟩ = false := hO3.frozen mem1 4
    have z5 : W3.frozen? ⟨B + 1 + 1 + 1, 5, none⟩ = false := hO3.frozen mem1 5
    have hne : D ≠ B + 1 + 1 + 1 := (hO3.ne List.mem_cons_self).symm
    have hne2 : B + 1 + 1 + 1 ≠ D := hne.symm
    clear hf hO3 hD
    go_upto_region 4 with fail
    go_region
    have h4 : Own w ([(D, ddObj d (.slice Av nv cv))] ++ (B + 1 + 1 + 1, spO 3 c sl ob d.fr d.tp) :: [(B + 1 + 1, spO 0 0 0 0 0 0), (B + 1, obO c sl ob), (B, .cells cs 28)]) _ := (own_sp (m1 := [(D, ddObj d (.slice Av nv cv))]) HO3.out d.fr d.tp).drew
    clear a0 a1 a2 a3 a4 a5 x0 x1 x2 x3 x4 x5 z4 z5
    generalize ((W3.setCell ⟨B + 1 + 1 + 1, 4, none⟩ (.int .i64 d.fr)).setCell ⟨B + 1 + 1 + 1, 5, none⟩ (.int .i64 d.tp)).drew = w5 at h4 ⊢
    obtain ⟨⟨a0, a1, a2, a3, a4, a5⟩, -⟩ := sp_at h4 mem1
    obtain ⟨⟨v0, v1, v2, v3, v4, v5⟩, u0, u1, u2, u3, u4, u5⟩ := sp_at h4 mem2
    have H4 := Lib.hid h4
    clear h4
    go_wp2_with fail
    have h6 := own_sp6 (m1 := [(D, ddObj d (.slice Av nv cv)), (B + 1 + 1 + 1, spO 3 c sl ob d.fr d.tp)]) H4.out 3 c sl ob d.fr d.tp
    clear a0 a1 a2 a3 a4 a5 v0 v1 v2 v3 v4 v5 u0 u1 u2 u3 u4 u5
    generalize (((((w5.setCell ⟨B + 1 + 1, 0, none⟩ (.int .i64 3)).setCell ⟨B + 1 + 1, 1, none⟩ (.int .i64 c)).setCell ⟨B + 1 + 1, 2, none⟩ (.int .i64 sl)).setCell ⟨B + 1 + 1, 3, none⟩ (.int .i64 ob)).setCell ⟨B + 1 + 1, 4, none⟩ (.int .i64 d.fr)).setCell ⟨B + 1 + 1, 5, none⟩ (.int .i64 d.tp) = w6 at h6 ⊢
    obtain ⟨⟨a0, a1, a2, a3, a4, a5⟩, -⟩ := sp_at h6 mem2
    exact bodyPost_ret (v := spA 3 c sl ob d.fr d.tp) (by simp [results, Tryz.f13, go_sem, a0, a1, a2, a3, a4, a5]) rfl ⟨by rw [HF.out], h6.sub (List.nil_sublist _)⟩
  · have HF : Hid (tak s.ds h = ((least h none s.ds).getD 0, -1)) := Lib.hid (by unfold tak; rw [hf])
    obtain ⟨A1, n1, A2, n2, A3, n3, A4, n4, A5, n5, A6, n6, A7, n7, A8, n8, A9, n9, A10, n10, A11, n11, ⟨-, -, -, -, -, -, -, -, -, -, -, f11⟩, -, -, -, g11, -⟩ := box_all HX3.out
    have HG := Lib.hid g11
    have HDB : Hid ((s.ds.length : Int) < 9223372036854775807) := Lib.hid (by have : s.ds.length * 64 ≤ 140737488351232 := g11.bytes; omega)
    have HLT : Hid (∀ x, leastT h s.ds s.ds.length = some x → 0 ≤ x) := Lib.hid (fun x hx => least_pos (h := h) (o := none) (fun d hd => HC.out d hd) (fun y hy => nomatch hy) x (by rw [← leastT_end]; exact hx))
    have HLP : Hid (∀ i x, leastT h s.ds i = some x → 0 ≤ x) := Lib.hid (fun i x hx => least_pos (h := h) (o := none) (fun d hd => HC.out d (List.mem_of_mem_take hd)) (fun y hy => nomatch hy) x hx)
    clear hf hd1 hd2 g11 hO3 hD a0 a1 a2 a3 a4 a5
    go_upto_region 8 with fail
    go_loopw [10, 33] (fun k10 k33 wr => ∃ i : Nat, i ≤ s.ds.length ∧ k10 = .int .i64 (lv (leastT h s.ds i)) ∧ k33 = .int .i64 i ∧ Hid (Own W3 [] wr)) (fun _ k _ => s.ds.length - (intOf k).toNat)
    case atStart => exact ⟨0, Nat.zero_le _, rfl, rfl, Lib.hid (Own.self _)⟩
    case round =>
      obtain ⟨i, hi, rfl, rfl, HW⟩ := hrel
      clear f11
      by_cases hlt : i < s.ds.length
      · obtain ⟨e, he⟩ : ∃ e, s.ds[i]? = some e := ⟨_, List.getElem?_eq_getElem hlt⟩
        obtain ⟨g, o, cc, heq, hg, hcl⟩ := (HG.out.own HW.out).at_ (by omega)
        cases heq
        obtain ⟨sv, hsv, x0, x1, x2, x3, x4, x5⟩ := hcl i e he
        obtain ⟨Ae, ce, rfl⟩ := hsv.form
        have HE := Lib.hid he
        have HWN := Lib.hid ((Own.self wr).new (ddObj e (.slice Ae e.hs.length ce)))
        have HS := Lib.hid (hsv.own HWN.out)
        have HW2 := Lib.hid (HW.out.alloc (ddObj e (.slice Ae e.hs.length ce)))
        obtain ⟨y0, y1, y2, y3, y4, y5⟩ := dd_at HWN.out
        have hi0 : (0 : Int) ≤ (i : Int) ∧ (i : Int) < (s.ds.length : Int) := by omega
        have HLS := Lib.hid (leastT_succ (h := h) HE.out)
        obtain ⟨lo, HL⟩ : ∃ lo, Hid (leastT h s.ds i = lo) := ⟨_, rfl⟩
        have HLP2 := Lib.hid (HLP.out i)
        rw [HL.out] at HLS HLP2 ⊢
        obtain ⟨L, hL⟩ : ∃ L, lv lo = L := ⟨_, rfl⟩
        have HLV := Lib.hid hL
        rw [hL]
        clear hL
        have HWR := Lib.hid (wrap_succ hlt HDB.out)
        clear hsv he hcl hg
        by_cases hm : h ∈ e.hs
        · have HM : Hid (decide (h ∈ e.hs) = true) := Lib.hid (decide_eq_true hm)
          have HLS2 := HLS
          rw [if_pos hm] at HLS2
          clear HLS hm
          cases lo with
          | none =>
            have hd0 : decide (L < 0) = true := decide_eq_true (by rw [← HLV.out]; decide)
            go_wp2_with (go_at_call 29; refine (contains_spec HS.out h).mono ?_; rintro e w5 ⟨rfl, rfl⟩; rw [HM.out])
            go_roundw
            case rel => exact ⟨i + 1, by omega, by rw [HLS2.out]; rfl, by rw [HWR.out], HW2⟩
            case measure => rw [HWR.out]; simp [intOf]; omega
          | some x =>
            have hx0 : 0 ≤ x := HLP2.out x rfl
            have hLx : L = x := HLV.out.symm
            subst hLx
            have hd0 : decide (L < 0) = false := decide_eq_false (by omega)
            clear hx0
            by_cases hlt2 : e.fr < L
            · have hd1 : decide (e.fr < L) = true := decide_eq_true hlt2
              have HLS3 : Hid (leastT h s.ds (i + 1) = some e.fr) := Lib.hid (by rw [HLS2.out]; simp [hlt2])
              clear hlt2 HLS2
              go_wp2_with (go_at_call 29; refine (contains_spec HS.out h).mono ?_; rintro e w5 ⟨rfl, rfl⟩; rw [HM.out])
              go_roundw
              case rel => exact ⟨i + 1, by omega, by rw [HLS3.out]; rfl, by rw [HWR.out], HW2⟩
              case measure => rw [HWR.out]; simp [intOf]; omega
            · have hd1 : decide (e.fr < L) = false := decide_eq_false hlt2
              have HLS3 : Hid (leastT h s.ds (i + 1) = some L) := Lib.hid (by rw [HLS2.out]; simp [hlt2])
              clear hlt2 HLS2
              go_wp2_with (go_at_call 29; refine (contains_spec HS.out h).mono ?_; rintro e w5 ⟨rfl, rfl⟩; rw [HM.out])
              go_roundw
              case rel => exact ⟨i + 1, by omega, by rw [HLS3.out]; rfl, by rw [HWR.out], HW2⟩
              case measure => rw [HWR.out]; simp [intOf]; omega
        · have HM : Hid (decide (h ∈ e.hs) = false) := Lib.hid (decide_eq_false hm)
          have HLS2 := HLS
          rw [if_neg hm] at HLS2
          clear HLS hm
          go_wp2_with (go_at_call 29; refine (contains_spec HS.out h).mono ?_; rintro e w5 ⟨rfl, rfl⟩; rw [HM.out])
          go_roundw
          case rel => exact ⟨i + 1, by omega, by rw [HLS2.out, HLV.out], by rw [HWR.out], HW2⟩
          case measure => rw [HWR.out]; simp [intOf]; omega
      · obtain rfl : i = s.ds.length := by omega
        have HO4 := Lib.hid (HO3.out.of_self HW.out)
        obtain ⟨⟨a0, a1, a2, a3, a4, a5⟩, -, -, -, -, z4, -⟩ := sp_at HO4.out mem1
        have HFE : Hid (tak s.ds h = ((leastT h s.ds s.ds.length).getD 0, -1)) := Lib.hid (by rw [HF.out, leastT_end])
        go_upto_region 14 with fail
        have h4 : Own w ([(D, ddObj d (.slice Av nv cv))] ++ (B + 1 + 1 + 1, spO 3 c sl ob (if lv (leastT h s.ds s.ds.length) < 0 then 0 else lv (leastT h s.ds s.ds.length)) (-1)) :: [(B + 1 + 1, spO 0 0 0 0 0 0), (B + 1, obO c sl ob), (B, .cells cs 28)]) _ := own_sp1 (m1 := [(D, ddObj d (.slice Av nv cv))]) HO4.out (if lv (leastT h s.ds s.ds.length) < 0 then 0 else lv (leastT h s.ds s.ds.length))
        have HV : Hid ((if lv (leastT h s.ds s.ds.length) < 0 then 0 else lv (leastT h s.ds s.ds.length)) = (leastT h s.ds s.ds.length).getD 0) := Lib.hid (by
          cases hl : leastT h s.ds s.ds.length with
          | none => rfl
          | some x =>
            have := HLT.out x hl
            show (if x < 0 then 0 else x) = x
            rw [if_neg (by omega)])
        clear a0 a1 a2 a3 a4 a5 z4
        rw [HV.out] at h4 ⊢
        obtain ⟨F, hF⟩ : ∃ F, (leastT h s.ds s.ds.length).getD 0 = F := ⟨_, rfl⟩
        rw [hF] at HFE h4 ⊢
        clear hF HV
        generalize wr.setCell ⟨B + 1 + 1 + 1, 4, none⟩ (.int .i64 F) = w5 at h4 ⊢
        obtain ⟨⟨a0, a1, a2, a3, a4, a5⟩, -⟩ := sp_at h4 mem1
        obtain ⟨⟨v0, v1, v2, v3, v4, v5⟩, u0, u1, u2, u3, u4, u5⟩ := sp_at h4 mem2
        have H4 := Lib.hid h4
        clear h4
        go_wp2_with fail
        have h6 := own_sp6 (m1 := [(D, ddObj d (.slice Av nv cv)), (B + 1 + 1 + 1, spO 3 c sl ob F (-1))]) H4.out 3 c sl ob F (-1)
        clear a0 a1 a2 a3 a4 a5 v0 v1 v2 v3 v4 v5 u0 u1 u2 u3 u4 u5
        generalize (((((w5.setCell ⟨B + 1 + 1, 0, none⟩ (.int .i64 3)).setCell ⟨B + 1 + 1, 1, none⟩ (.int .i64 c)).setCell ⟨B + 1 + 1, 2, none⟩ (.int .i64 sl)).setCell ⟨B + 1 + 1, 3, none⟩ (.int .i64 ob)).setCell ⟨B + 1 + 1, 4, none⟩ (.int .i64 F)).setCell ⟨B + 1 + 1, 5, none⟩ (.int .i64 (-1)) = w6 at h6 ⊢
        obtain ⟨⟨a0, a1, a2, a3, a4, a5⟩, -⟩ := sp_at h6 mem2
        exact bodyPost_ret (v := spA 3 c sl ob F (-1)) (by simp [results, Tryz.f13, go_sem, a0, a1, a2, a3, a4, a5]) rfl ⟨by rw [HFE.out], h6.sub (List.nil_sublist _)⟩
end Go.Proofs.YthjjpmoifgcepaaGreat.Jh
