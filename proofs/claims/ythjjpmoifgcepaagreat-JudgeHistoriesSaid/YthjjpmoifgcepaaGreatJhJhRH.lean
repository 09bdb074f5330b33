import Derived.Test.YthjjpmoifgcepaaGreatJhJhRG
import Derived.Test.YthjjpmoifgcepaaGreatJhJtW
import Derived.Laws.StructEq
/-
  wainscotlaw30.JudgeHistories: it answers true, of all snaps of lists as long as there may be. No condition.
-/
namespace Go.Proofs.YthjjpmoifgcepaaGreat.Jh
open Go.RowKit
attribute [local go_sem ↓] Go.wp_at_zero Go.wp_at_succ
/-- the cells of a snap in a block -/
structure C12 (w : World) (B : Nat) (n : Int) (v1 v2 v3 v4 v5 v6 v7 v8 v9 v10 v11 : Value) : Prop where
  c0 : w.cell? ⟨B, 0, none⟩ = some (.int .i64 n)
  c1 : w.cell? ⟨B, 1, none⟩ = some v1
  c2 : w.cell? ⟨B, 2, none⟩ = some v2
  c3 : w.cell? ⟨B, 3, none⟩ = some v3
  c4 : w.cell? ⟨B, 4, none⟩ = some v4
  c5 : w.cell? ⟨B, 5, none⟩ = some v5
  c6 : w.cell? ⟨B, 6, none⟩ = some v6
  c7 : w.cell? ⟨B, 7, none⟩ = some v7
  c8 : w.cell? ⟨B, 8, none⟩ = some v8
  c9 : w.cell? ⟨B, 9, none⟩ = some v9
  c10 : w.cell? ⟨B, 10, none⟩ = some v10
  c11 : w.cell? ⟨B, 11, none⟩ = some v11
theorem C12.own {W w : World} {m : List (Nat × Obj)} {B : Nat} {n : Int} {v1 v2 v3 v4 v5 v6 v7 v8 v9 v10 v11 : Value} (h : C12 W B n v1 v2 v3 v4 v5 v6 v7 v8 v9 v10 v11) (hB : B < W.heap.size) (hO : Own W m w) : C12 w B n v1 v2 v3 v4 v5 v6 v7 v8 v9 v10 v11 :=
  ⟨(hO.old (a := ⟨B, 0, none⟩) hB).trans h.c0, (hO.old (a := ⟨B, 1, none⟩) hB).trans h.c1, (hO.old (a := ⟨B, 2, none⟩) hB).trans h.c2, (hO.old (a := ⟨B, 3, none⟩) hB).trans h.c3, (hO.old (a := ⟨B, 4, none⟩) hB).trans h.c4, (hO.old (a := ⟨B, 5, none⟩) hB).trans h.c5, (hO.old (a := ⟨B, 6, none⟩) hB).trans h.c6, (hO.old (a := ⟨B, 7, none⟩) hB).trans h.c7, (hO.old (a := ⟨B, 8, none⟩) hB).trans h.c8, (hO.old (a := ⟨B, 9, none⟩) hB).trans h.c9, (hO.old (a := ⟨B, 10, none⟩) hB).trans h.c10, (hO.old (a := ⟨B, 11, none⟩) hB).trans h.c11⟩
/-- 12 cells are written -/
theorem own_put12 {W w : World} {m : List (Nat × Obj)} {b : Nat} {n : Int} {v1 v2 v3 v4 v5 v6 v7 v8 v9 v10 v11 : Value} (h : Own W ((b, S12 n v1 v2 v3 v4 v5 v6 v7 v8 v9 v10 v11) :: m) w) (xx x1 x2 x3 x4 x5 x6 x7 x8 x9 x10 x11 : Value) : Own W ((b, .cells #[xx, x1, x2, x3, x4, x5, x6, x7, x8, x9, x10, x11] 28) :: m) ((((((((((((w.setCell ⟨b, 0, none⟩ xx).setCell ⟨b, 1, none⟩ x1).setCell ⟨b, 2, none⟩ x2).setCell ⟨b, 3, none⟩ x3).setCell ⟨b, 4, none⟩ x4).setCell ⟨b, 5, none⟩ x5).setCell ⟨b, 6, none⟩ x6).setCell ⟨b, 7, none⟩ x7).setCell ⟨b, 8, none⟩ x8).setCell ⟨b, 9, none⟩ x9).setCell ⟨b, 10, none⟩ x10).setCell ⟨b, 11, none⟩ x11) := by
  have h1 := ((((((((((((h.set 0 xx).set 1 x1).set 2 x2).set 3 x3).set 4 x4).set 5 x5).set 6 x6).set 7 x7).set 8 x8).set 9 x9).set 10 x10).set 11 x11)
  have e : ((((((((((((#[.int .i64 n, v1, v2, v3, v4, v5, v6, v7, v8, v9, v10, v11] : Array Value).setIfInBounds 0 xx).setIfInBounds 1 x1).setIfInBounds 2 x2).setIfInBounds 3 x3).setIfInBounds 4 x4).setIfInBounds 5 x5).setIfInBounds 6 x6).setIfInBounds 7 x7).setIfInBounds 8 x8).setIfInBounds 9 x9).setIfInBounds 10 x10).setIfInBounds 11 x11 = #[xx, x1, x2, x3, x4, x5, x6, x7, x8, x9, x10, x11] := by simp
  rw [e] at h1
  exact h1
theorem row6_len (l : List Int) : (row6 l).length = l.length := by simp [row6]
theorem sps_rows {w : World} {v : Value} {L : List (List Int)} (h : Src w 6 v L.length (flat6 L)) (h6 : ∀ x ∈ L, x.length = 6) : Rows w 6 v (L.map row6) := by
  refine ⟨by rw [List.length_map]; exact h, fun r hr => ?_, fun r hr u hu => ?_⟩
  · obtain ⟨x, hx, rfl⟩ := List.mem_map.1 hr
    rw [row6_len]
    exact h6 x hx
  · obtain ⟨x, _, rfl⟩ := List.mem_map.1 hr
    obtain ⟨n, _, rfl⟩ := List.mem_map.1 hu
    rfl
/-- the cells of one span -/
theorem row_at {w : World} {A : Option Addr} {N c : Nat} {L : List (List Int)} (h : Rows w 6 (.slice A N c) (L.map row6)) (hN : L.length = N) (h6 : ∀ x ∈ L, x.length = 6) {i : Nat} (hi : i < N) : ∃ g o, A = some ⟨g, o, none⟩ ∧ g < w.heap.size ∧ ∃ x0 x1 x2 x3 x4 x5, L[i]? = some [x0, x1, x2, x3, x4, x5] ∧ (w.cell? ⟨g, o + i * 6, none⟩ = some (.int .i64 x0) ∧ w.cell? ⟨g, o + i * 6 + 1, none⟩ = some (.int .i64 x1) ∧ w.cell? ⟨g, o + i * 6 + 2, none⟩ = some (.int .i64 x2) ∧ w.cell? ⟨g, o + i * 6 + 3, none⟩ = some (.int .i64 x3) ∧ w.cell? ⟨g, o + i * 6 + 4, none⟩ = some (.int .i64 x4) ∧ w.cell? ⟨g, o + i * 6 + 5, none⟩ = some (.int .i64 x5)) := by
  obtain ⟨g, o, c', he, hg, hc⟩ := h.at_ (by omega) (by rw [List.length_map]; omega)
  injection he with e1 e2 e3
  obtain ⟨l, hl⟩ : ∃ l, L[i]? = some l := ⟨_, List.getElem?_eq_getElem (by omega)⟩
  have hm := h6 l (List.mem_of_getElem? hl)
  match l, hm, hl with
  | [x0, x1, x2, x3, x4, x5], _, hl =>
    have hr : (L.map row6)[i]? = some (row6 [x0, x1, x2, x3, x4, x5]) := by rw [List.getElem?_map, hl]; rfl
    exact ⟨g, o, e1, hg, x0, x1, x2, x3, x4, x5, hl, hc i _ hr 0 _ rfl, hc i _ hr 1 _ rfl, hc i _ hr 2 _ rfl, hc i _ hr 3 _ rfl, hc i _ hr 4 _ rfl, hc i _ hr 5 _ rfl⟩
set_option maxHeartbeats 16000000 in
set_option maxRecDepth 100000 in
theorem law_walk {w : World} {s : Sn} {cs : Array Value} (hs : SnapV w (.agg cs) s) : Calls Tryz.prog 3 #[.agg cs] w fun e w' => e = .returned (.bool true) ∧ Own w [] w' := by
  obtain ⟨v1, v2, v3, v4, v5, v6, v7, v8, v9, v10, v11, rfl, k1, k2, k3, k4, k5, k6, k7, k8, k9, k10, k11⟩ := snap_cells hs
  have hX : BoxS (w.alloc (S12 s.now v1 v2 v3 v4 v5 v6 v7 v8 v9 v10 v11)) w.heap.size s := BoxS.new hs
  have hO := (Own.self w).new (S12 s.now v1 v2 v3 v4 v5 v6 v7 v8 v9 v10 v11)
  clear hs k1 k2 k3 k4 k5 k6 k7 k8 k9 k10 k11
  go_enter Tryz.func3, Tryz.ntmps3
  go_upto_region 1 with fail
  obtain ⟨B, hB⟩ : ∃ B, w.heap.size = B := ⟨_, rfl⟩
  rw [hB] at hO hX ⊢
  generalize w.alloc (S12 s.now v1 v2 v3 v4 v5 v6 v7 v8 v9 v10 v11) = W1 at hO hX ⊢
  obtain ⟨B1, d1, B2, d2, B3, d3, B4, d4, B5, d5, B6, d6, B7, d7, B8, d8, B9, d9, B10, d10, B11, d11, ⟨f0, f1, f2, f3, f4, f5, f6, f7, f8, f9, f10, f11⟩, -, -, -, -, gs⟩ := box_all hX
  have HO := Lib.hid hO
  have GS := Lib.hid gs
  clear hX hO hB gs
  go_upto_region 2 with (go_at_call 4; refine (short_spec GS.out).mono ?_; rintro e w2 ⟨A1, c1, A2, c2, A3, c3, A4, c4, A5, c5, A6, c6, A7, c7, A8, c8, A9, c9, A10, c10, A11, c11, M, -, rfl, hK, h2⟩; have h3 := (HO.out.join h2).perm List.perm_middle; obtain ⟨⟨b0, b1, b2, b3, b4, b5, b6, b7, b8, b9, b10, b11⟩, fz⟩ := box12 h3; have fz0 := fz 0; have fz1 := fz 1; have fz2 := fz 2; have fz3 := fz 3; have fz4 := fz 4; have fz5 := fz 5; have fz6 := fz 6; have fz7 := fz 7; have fz8 := fz 8; have fz9 := fz 9; have fz10 := fz 10; have fz11 := fz 11; clear fz)
  have h150 : s.short.hn.length ≤ 150 := by
    show (s.hn.take 150).length ≤ 150
    rw [List.length_take]
    exact Nat.min_le_left _ _
  have H150 := Lib.hid h150
  generalize s.short = s2 at hK H150 ⊢
  have h4 := own_put12 h3 (.int .i64 s2.now) (.slice A1 s2.depths.length c1) (.slice A2 s2.paths.length c2) (.slice A3 s2.used.length c3) (.slice A4 s2.most.length c4) (.slice A5 s2.owned.length c5) (.slice A6 s2.held.length c6) (.slice A7 s2.flies.length c7) (.slice A8 s2.tags.length c8) (.slice A9 s2.nc c9) (.slice A10 s2.hn.length c10) (.slice A11 s2.ds.length c11)
  clear h2 h3 h150 b0 b1 b2 b3 b4 b5 b6 b7 b8 b9 b10 b11 fz0 fz1 fz2 fz3 fz4 fz5 fz6 fz7 fz8 fz9 fz10 fz11 f0 f1 f2 f3 f4 f5 f6 f7 f8 f9 f10 f11 GS HO
  obtain ⟨w3, hw3⟩ : ∃ w3, w3 = ((((((((((((w2.setCell ⟨B, 0, none⟩ (.int .i64 s2.now)).setCell ⟨B, 1, none⟩ (.slice A1 s2.depths.length c1)).setCell ⟨B, 2, none⟩ (.slice A2 s2.paths.length c2)).setCell ⟨B, 3, none⟩ (.slice A3 s2.used.length c3)).setCell ⟨B, 4, none⟩ (.slice A4 s2.most.length c4)).setCell ⟨B, 5, none⟩ (.slice A5 s2.owned.length c5)).setCell ⟨B, 6, none⟩ (.slice A6 s2.held.length c6)).setCell ⟨B, 7, none⟩ (.slice A7 s2.flies.length c7)).setCell ⟨B, 8, none⟩ (.slice A8 s2.tags.length c8)).setCell ⟨B, 9, none⟩ (.slice A9 s2.nc c9)).setCell ⟨B, 10, none⟩ (.slice A10 s2.hn.length c10)).setCell ⟨B, 11, none⟩ (.slice A11 s2.ds.length c11)) := ⟨_, rfl⟩
  rw [← hw3] at h4 ⊢
  have hsn : SnapV w3 (SA s2.now (.slice A1 s2.depths.length c1) (.slice A2 s2.paths.length c2) (.slice A3 s2.used.length c3) (.slice A4 s2.most.length c4) (.slice A5 s2.owned.length c5) (.slice A6 s2.held.length c6) (.slice A7 s2.flies.length c7) (.slice A8 s2.tags.length c8) (.slice A9 s2.nc c9) (.slice A10 s2.hn.length c10) (.slice A11 s2.ds.length c11)) s2 := hK w3 fun p hp => (h4.at_ p (List.mem_cons_of_mem _ (List.mem_append_left _ hp))).2
  have hC : C12 w3 B s2.now (.slice A1 s2.depths.length c1) (.slice A2 s2.paths.length c2) (.slice A3 s2.used.length c3) (.slice A4 s2.most.length c4) (.slice A5 s2.owned.length c5) (.slice A6 s2.held.length c6) (.slice A7 s2.flies.length c7) (.slice A8 s2.tags.length c8) (.slice A9 s2.nc c9) (.slice A10 s2.hn.length c10) (.slice A11 s2.ds.length c11) := ⟨h4.cell List.mem_cons_self 0, h4.cell List.mem_cons_self 1, h4.cell List.mem_cons_self 2, h4.cell List.mem_cons_self 3, h4.cell List.mem_cons_self 4, h4.cell List.mem_cons_self 5, h4.cell List.mem_cons_self 6, h4.cell List.mem_cons_self 7, h4.cell List.mem_cons_self 8, h4.cell List.mem_cons_self 9, h4.cell List.mem_cons_self 10, h4.cell List.mem_cons_self 11⟩
  have hlt := h4.lt List.mem_cons_self
  have HW := Lib.hid (h4.sub (List.nil_sublist _))
  have HC := Lib.hid hC
  have HL := Lib.hid hlt
  have HS := Lib.hid hsn
  clear hw3 h4 hC hlt hsn hK
  have HO := Lib.hid ((Own.self w3).drew)
  have hC := HC.out.own HL.out HO.out
  obtain ⟨e0, e1, e2, e3, e4, e5, e6, e7, e8, e9, e10, e11⟩ := hC
  go_region_law (first
    | (go_simp; go_at_call 6; refine (copySnap_spec (HS.out.own HO.out)).mono ?_; rintro _ wA ⟨X1, y1, X2, y2, X3, y3, X4, y4, X5, y5, X6, y6, X7, y7, X8, y8, X9, y9, X10, y10, X11, y11, MA, -, rfl, hKA, hA⟩; have HKA := Lib.hid hKA; replace HO := Lib.hid (HO.out.join hA); clear hKA hA; obtain ⟨e0, e1, e2, e3, e4, e5, e6, e7, e8, e9, e10, e11⟩ := HC.out.own HL.out HO.out)
    | (go_simp; go_at_call 5; refine (history_spec (HKA.out _ fun p hp => (HO.out.at_ p (by simp [hp])).2) H150.out).mono ?_; rintro _ wB ⟨va, bsa, La, rfl, hSa, hB, hLa, hNa⟩; have HSa := hSa; have HLa := Lib.hid (And.intro hLa hNa); replace HO := Lib.hid (HO.out.join hB); clear hB hLa hNa hSa; obtain ⟨e0, e1, e2, e3, e4, e5, e6, e7, e8, e9, e10, e11⟩ := HC.out.own HL.out HO.out)
    | (go_simp; go_at_call 7; refine (rhistory_spec (HS.out.own HO.out) H150.out).mono ?_; rintro _ wC ⟨vb, bsb, Lb, rfl, hSb, hD, hLb, hNb⟩; have HSb := hSb; have HLb := Lib.hid (And.intro hLb hNb); replace HO := Lib.hid (HO.out.join hD); clear hD hLb hNb hSb; obtain ⟨e0, e1, e2, e3, e4, e5, e6, e7, e8, e9, e10, e11⟩ := HC.out.own HL.out HO.out))
  all_goals
    have hEq : La = Lb := by
      by_cases hok : s2.Ok
      · rw [HLa.out.1 hok, HLb.out.1 hok]
      · rw [HLa.out.2 hok, HLb.out.2 hok]
    have h6 : ∀ x ∈ La, x.length = 6 := by
      by_cases hok : s2.Ok
      · rw [HLa.out.1 hok]
        exact histF_six
      · rw [HLa.out.2 hok]
        intro x hx
        cases hx
    have h300 : La.length ≤ 300 := by
      by_cases hok : s2.Ok
      · rw [HLa.out.1 hok]
        have := hist_len H150.out s2.hn.length
        rwa [List.take_length] at this
      · rw [HLa.out.2 hok]
        exact Nat.zero_le _
    subst hEq
    have hra := sps_rows (slo_kp HSa.out _ (fun p hp => (HO.out.at_ p (by simp [hp])).2)) h6
    have hrb := sps_rows (slo_kp HSb.out _ (fun p hp => (HO.out.at_ p (by simp [hp])).2)) h6
    have HF := Lib.hid (HW.out.of_self (HO.out.sub (List.nil_sublist _)))
    obtain ⟨Aa, ca, rfl, -, -⟩ := HSa.out.slice
    obtain ⟨Ab, cb, rfl, -, -⟩ := HSb.out.slice
    have HRA := Lib.hid hra
    have HRB := Lib.hid hrb
    have H6 := Lib.hid h6
    have H300 := Lib.hid h300
    obtain ⟨N, hN⟩ : ∃ N, La.length = N := ⟨_, rfl⟩
    have HN := Lib.hid hN
    rw [hN] at HRA HRB H300 ⊢
    clear hra hrb h6 h300 hN HSa HSb HLa HLb HKA HO HS HC e0 e1 e2 e3 e4 e5 e6 e7 e8 e9 e10 e11
    go_upto_region 6 with fail
    go_loopw [5] (fun k wr => ∃ i : Nat, i ≤ N ∧ k = .int .i64 i ∧ Hid (Rows wr 6 (.slice Aa N ca) (La.map row6)) ∧ Hid (Rows wr 6 (.slice Ab N cb) (La.map row6)) ∧ Hid (Own w [] wr)) (fun k _ => N - (Go.RowKit.intOf k).toNat)
    case atStart => exact ⟨0, Nat.zero_le _, rfl, HRA, HRB, HF⟩
    case round =>
      clear HRA HRB HF
      obtain ⟨i, hi, rfl, HRA, HRB, HF⟩ := hrel
      by_cases hlt : i < N
      · obtain ⟨g, o, he, hg, x0, x1, x2, x3, x4, x5, hl, a0, a1, a2, a3, a4, a5⟩ := row_at HRA.out HN.out H6.out hlt
        subst he
        obtain ⟨g', o', he, hg', z0, z1, z2, z3, z4, z5, hl', b0, b1, b2, b3, b4, b5⟩ := row_at HRB.out HN.out H6.out hlt
        subst he
        rw [hl] at hl'
        injection hl' with hl'
        simp only [List.cons.injEq, and_true] at hl'
        obtain ⟨rfl, rfl, rfl, rfl, rfl, rfl⟩ := hl'
        have hi0 : (0 : Int) ≤ (i : Int) ∧ (i : Int) < (N : Int) := by omega
        have HWR : Hid (wrap64 ((i : Int) + 1) = ((i + 1 : Nat) : Int)) := Lib.hid (wrap_succ hlt (by have := H300.out; omega))
        clear hl hg hg'
        go_wp2_with fail
        go_quiet (fail)
        go_wp2_with fail
        go_roundw
        case rel => exact ⟨i + 1, by omega, by rw [HWR.out], Lib.hid (HRA.out.own ((Own.self wr).drewN _)), Lib.hid (HRB.out.own ((Own.self wr).drewN _)), Lib.hid (HF.out.drewN _)⟩
        case measure => rw [HWR.out]; simp [Go.RowKit.intOf]; omega
      · obtain rfl : N = i := by omega
        clear hi hlt
        go_wp2_with (go_at_call 8; refine (Jt.works_walk _).mono ?_; rintro e w9 ⟨rfl, h9⟩; have HF9 := Lib.hid (HF.out.of_self h9); clear h9)
        go_ret
        exact ⟨rfl, HF9.out⟩
end Go.Proofs.YthjjpmoifgcepaaGreat.Jh
