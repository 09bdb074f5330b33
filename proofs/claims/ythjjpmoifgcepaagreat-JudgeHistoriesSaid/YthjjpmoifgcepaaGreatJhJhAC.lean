import Derived.Test.YthjjpmoifgcepaaGreatJhJhAA
import Derived.Test.YthjjpmoifgcepaaGreatJhJhAB
import Derived.Test.YthjjpmoifgcepaaGreatJhJhK
/-
  Contract: judge.History: a snap's history. No condition.
-/
namespace Go.Proofs.YthjjpmoifgcepaaGreat.Jh
open Go.RowKit
attribute [local go_sem ↓] Go.wp_at_zero Go.wp_at_succ
theorem span_info : (Tryz.prog.info? 37).map (fun i => (i.zero, i.size, i.bytes)) = some (some (spA 0 0 0 0 0 0), 6, 48) := by kernel_rfl
theorem one_row (a b c d e f : Int) : ∀ u ∈ (#[.int .i64 a, .int .i64 b, .int .i64 c, .int .i64 d, .int .i64 e, .int .i64 f] : Array Value).toList, u.oneCell' = true := fun u hu => by
  simp at hu
  rcases hu with rfl | rfl | rfl | rfl | rfl | rfl <;> rfl
def row6 (l : List Int) : List Value := l.map fun n => .int .i64 n
def flat6 (L : List (List Int)) : List Value := (L.map row6).flatten
theorem flat6_app (a b : List (List Int)) : flat6 (a ++ b) = flat6 a ++ flat6 b := by simp [flat6]
/-- a slice of spans that was made -/
abbrev SpsO (v : Value) (L : List (List Int)) (bs : List (Nat × Obj)) : Prop := SlO true 37 6 v L.length (flat6 L) bs
theorem sps_nil : SpsO (.slice none 0 0) [] [] := SlO.nil _ _ _
/-- what History answers -/
def HistP (W : World) (s : Sn) (e : Ending) (w' : World) : Prop := ∃ v bs L, e = .returned v ∧ Hid (SpsO v L bs) ∧ Own W bs w' ∧ (s.Ok → L = s.hist) ∧ (¬ s.Ok → L = [])
theorem find_giv {ds : List Dd} {h : Int} {d : Dd} {b : Bool} (hr : (b = true ∧ ds.find? (isGive h) = some d) ∨ (b = false ∧ ds.find? (isGive h) = none ∧ d.fr = 0 ∧ d.tp = -1)) : giv ds h = (d.fr, d.tp) := by
  unfold giv
  rcases hr with ⟨-, h1⟩ | ⟨-, h1, h2, h3⟩
  · rw [h1]
  · rw [h1, h2, h3]
theorem hist_len {s : Sn} (h : s.hn.length ≤ 150) (i : Nat) : (histF s.ds 0 (s.hn.take i)).length ≤ 300 := by
  have := histF_len (ds := s.ds) (L := s.hn.take i) (i := 0)
  have h2 : (s.hn.take i).length ≤ 150 := by rw [List.length_take]; omega
  omega
set_option maxHeartbeats 8000000 in
set_option maxRecDepth 100000 in
theorem history_spec {w : World} {s : Sn} {cs : Array Value} (hs : SnapV w (.agg cs) s) (h150 : s.hn.length ≤ 150) : Calls Tryz.prog 5 #[.agg cs] w (HistP w s) := by
  have hX : BoxS (w.alloc (.cells cs 28)) w.heap.size s := BoxS.new hs
  have hO := (Own.self w).new (.cells cs 28)
  clear hs
  go_enter Tryz.func5, Tryz.ntmps5
  go_upto_region 1 with fail
  obtain ⟨B, hB⟩ : ∃ B, w.heap.size = B := ⟨_, rfl⟩
  rw [hB] at hO hX ⊢
  generalize w.alloc (.cells cs 28) = W1 at hO hX ⊢
  have HX := Lib.hid hX
  have HO := Lib.hid hO
  have H150 := Lib.hid h150
  clear hX hO hB h150
  obtain ⟨B1, d1, B2, d2, B3, d3, B4, d4, B5, d5, B6, d6, B7, d7, B8, d8, B9, d9, B10, d10, B11, d11, ⟨f0, f1, f2, f3, f4, f5, f6, f7, f8, f9, f10, f11⟩, -, -, g10, -, gs⟩ := box_all HX.out
  have GS := Lib.hid gs
  have G10 := Lib.hid g10
  clear gs g10
  by_cases hok : s.Ok
  · have HOK := Lib.hid hok
    have HOB : Hid (true = true ↔ s.Ok) := Lib.hid (by simp [hok])
    clear hok
    go_upto_region 4 with (go_at_call 9; refine (shaped_b GS.out HOB.out).mono ?_; rintro e w2 ⟨rfl, h2⟩; have HO2 := Lib.hid (HO.out.of_self h2); have HX2 := Lib.hid (HX.out.own h2); have HG := Lib.hid (G10.out.own h2); have f10 := (h2.old (a := ⟨B, 10, none⟩) HX.out.1).trans f10; clear h2)
    clear f0 f1 f2 f3 f4 f5 f6 f7 f8 f9 f11 GS HX HO HOB G10
    have HFR : Hid (∀ d ∈ s.ds, 0 ≤ d.fr) := Lib.hid (fun d hd => (HOK.out.2.2.2.2.2 d hd).2.2.1.1)
    go_loopw [2, 14] (fun k2 k14 wr => ∃ (i : Nat) (A2 : Option Addr) (c2 : Nat) (L : List (List Int)) (bs0 m : List (Nat × Obj)), i ≤ s.hn.length ∧ k2 = .slice A2 L.length c2 ∧ k14 = .int .i64 i ∧ Hid (L = histF s.ds 0 (s.hn.take i)) ∧ Hid (SpsO (.slice A2 L.length c2) L bs0) ∧ Hid (Own w2 (bs0 ++ m) wr)) (fun _ k _ => s.hn.length - (intOf k).toNat)
    case atStart => exact ⟨0, none, 0, [], [], [], Nat.zero_le _, rfl, rfl, Lib.hid rfl, Lib.hid sps_nil, Lib.hid (Own.self _)⟩
    case round =>
      obtain ⟨i, A2, c2, L, bs0, m, hi, rfl, rfl, HL, HS, HO⟩ := hrel
      clear f10
      have HX := Lib.hid (HX2.out.own HO.out)
      by_cases hlt : i < s.hn.length
      · obtain ⟨x, hx⟩ : ∃ x, s.hn[i]? = some x := ⟨_, List.getElem?_eq_getElem hlt⟩
        obtain ⟨g, o, cc, heq, hg, hcl⟩ := (HG.out.own HO.out).at_ (by omega)
        cases heq
        obtain ⟨x0, x1, x2, x3, x4⟩ := hcl i x hx
        have HE := Lib.hid hx
        have hi0 : (0 : Int) ≤ (i : Int) ∧ (i : Int) < (s.hn.length : Int) := by omega
        clear hx hcl hg
        go_upto_region 6 with fail
        have h4 := HO.out.new1 (hnO x)
        have w4 := (Own.self wr).alloc (hnO x)
        obtain ⟨b4, hb4⟩ : ∃ b, wr.heap.size = b := ⟨_, rfl⟩
        rw [hb4] at h4 ⊢
        replace HX := Lib.hid (HX.out.own w4)
        clear w4 hb4 x0 x1 x2 x3 x4 HO
        generalize wr.alloc (hnO x) = w4 at h4 HX ⊢
        have hm4 : (b4, hnO x) ∈ bs0 ++ (b4, hnO x) :: m := List.mem_append_right _ List.mem_cons_self
        have y0 : w4.cell? ⟨b4, 0, none⟩ = some (.int .i64 x.cache) := h4.cell hm4 0
        have y1 : w4.cell? ⟨b4, 1, none⟩ = some (.int .i64 x.slab) := h4.cell hm4 1
        have y2 : w4.cell? ⟨b4, 2, none⟩ = some (.int .i64 x.obj) := h4.cell hm4 2
        have y3 : w4.cell? ⟨b4, 3, none⟩ = some (.int .i64 x.group) := h4.cell hm4 3
        have y4 : w4.cell? ⟨b4, 4, none⟩ = some (.bool x.out) := h4.cell hm4 4
        have HO := Lib.hid h4
        clear hm4 h4
        go_upto_region 7 with (go_at_call 10; refine (object_spec w4 x).mono ?_; rintro e w5 ⟨rfl, h5⟩; have h6 := (HO.out.of_self h5).new1 (obO x.cache x.slab x.obj); have h7 := h5.of_self ((Own.self w5).alloc (obO x.cache x.slab x.obj)))
        obtain ⟨b5, hb5⟩ : ∃ b, w5.heap.size = b := ⟨_, rfl⟩
        rw [hb5] at h6 ⊢
        replace HX := Lib.hid (HX.out.own h7)
        clear h5 h7 hb5 y0 y1 y2 y3 y4 HO
        generalize w5.alloc (obO x.cache x.slab x.obj) = w6 at h6 HX ⊢
        have HO := Lib.hid h6
        clear h6
        obtain ⟨B1, d1, B2, d2, B3, d3, B4, d4, B5, d5, B6, d6, B7, d7, B8, d8, B9, d9, B10, d10, B11, d11, ⟨f0, f1, f2, f3, f4, f5, f6, f7, f8, f9, f10, f11⟩, -, -, -, -, gs⟩ := box_all HX.out
        have GS := Lib.hid gs
        clear gs
        go_upto_region 8 with (go_at_call 11; refine (first_giv GS.out i).mono ?_; rintro e w7 ⟨d, Av, nv, cv, b, rfl, hr, h7⟩; have HR := Lib.hid (find_giv hr); have h8 := (HO.out.of_self h7).new1 (ddObj d (.slice Av nv cv)); have h9 := h7.of_self ((Own.self w7).alloc (ddObj d (.slice Av nv cv))); clear hr)
        obtain ⟨b6, hb6⟩ : ∃ b, w7.heap.size = b := ⟨_, rfl⟩
        rw [hb6] at h8 ⊢
        replace HX := Lib.hid (HX.out.own h9)
        clear h7 h9 hb6 f0 f1 f2 f3 f4 f5 f6 f7 f8 f9 f10 f11 GS HO
        generalize w7.alloc (ddObj d (.slice Av nv cv)) = w8 at h8 HX ⊢
        have m6 : (b6, ddObj d (.slice Av nv cv)) ∈ bs0 ++ (b6, ddObj d (.slice Av nv cv)) :: (b5, obO x.cache x.slab x.obj) :: (b4, hnO x) :: m := List.mem_append_right _ List.mem_cons_self
        have m5 : (b5, obO x.cache x.slab x.obj) ∈ bs0 ++ (b6, ddObj d (.slice Av nv cv)) :: (b5, obO x.cache x.slab x.obj) :: (b4, hnO x) :: m := List.mem_append_right _ mem1
        have y0 : w8.cell? ⟨b5, 0, none⟩ = some (.int .i64 x.cache) := h8.cell m5 0
        have y1 : w8.cell? ⟨b5, 1, none⟩ = some (.int .i64 x.slab) := h8.cell m5 1
        have y2 : w8.cell? ⟨b5, 2, none⟩ = some (.int .i64 x.obj) := h8.cell m5 2
        have y3 : w8.cell? ⟨b6, 2, none⟩ = some (.int .i64 d.fr) := h8.cell m6 2
        have y4 : w8.cell? ⟨b6, 3, none⟩ = some (.int .i64 d.tp) := h8.cell m6 3
        have HO := Lib.hid h8
        have HB1 : Hid ((L.length + 1) * 48 ≤ BB) := Lib.hid (by
          have := hist_len H150.out i
          rw [← HL.out] at this
          unfold BB
          omega)
        clear h8 m5 m6
        obtain ⟨d0, hd0⟩ : ∃ p : Int × Int, (d.fr, d.tp) = p := ⟨_, rfl⟩
        go_upto_region 9 with (at_builtin; refine wpList_app1 (by rfl) _ _ _ (by rfl) (by rfl) (by rfl) 37 Tryz.underlying30 span_info (by rfl) (by omega) (by omega) HS.out (HO.out.alloc _) (src_row w8 37 #[.int .i64 1, .int .i64 x.cache, .int .i64 x.slab, .int .i64 x.obj, .int .i64 d.fr, .int .i64 d.tp]) (one_row _ _ _ _ _ _) (by exact HB1.out) ?_; intro A9 c9 w9 bs9 k1 k2)
        clear y0 y1 y2 y3 y4 HO hd0 HS
        have HS : Hid (SpsO (.slice A9 (L ++ [[1, x.cache, x.slab, x.obj, d.fr, d.tp]]).length c9) (L ++ [[1, x.cache, x.slab, x.obj, d.fr, d.tp]]) bs9) := Lib.hid (by
          have e1 : (L ++ [[1, x.cache, x.slab, x.obj, d.fr, d.tp]]).length = L.length + 1 := by rw [List.length_append]; rfl
          unfold SpsO
          rw [e1, flat6_app]
          exact k1)
        have HO := Lib.hid k2
        have hm4 : (b4, hnO x) ∈ bs9 ++ (b6, ddObj d (.slice Av nv cv)) :: (b5, obO x.cache x.slab x.obj) :: (b4, hnO x) :: m := List.mem_append_right _ mem2
        have y4 : w9.cell? ⟨b4, 4, none⟩ = some (.bool x.out) := k2.cell hm4 4
        have HLN := Lib.hid (histF_succ (ds := s.ds) HE.out)
        have HWR : Hid (wrap64 ((i : Int) + 1) = ((i + 1 : Nat) : Int)) := Lib.hid (wrap_succ hlt (by have := H150.out; omega))
        clear k1 hm4
        cases hout : x.out with
        | true =>
          rw [hout] at y4
          have HOUT := Lib.hid hout
          clear hout
          go_wp2_with fail
          go_roundw
          case rel =>
            refine ⟨i + 1, A9, c9, L ++ [[1, x.cache, x.slab, x.obj, d.fr, d.tp]], bs9, _, by omega, (by rw [List.length_append]; rfl), by rw [HWR.out], Lib.hid ?_, HS, HO⟩
            rw [HLN.out, HL.out]
            unfold spans
            rw [HR.out, if_pos HOUT.out]
          case measure => rw [HWR.out]; simp [intOf]; omega
        | false =>
          rw [hout] at y4
          have HOUT := Lib.hid hout
          clear hout
          have HX9 := Lib.hid (HX2.out.own k2)
          clear HX
          have HX := HX9
          clear HX9
          obtain ⟨B1, d1, B2, d2, B3, d3, B4, d4, B5, d5, B6, d6, B7, d7, B8, d8, B9, d9, B10, d10, B11, d11, ⟨f0, f1, f2, f3, f4, f5, f6, f7, f8, f9, f10, f11⟩, -, -, -, -, gs⟩ := box_all HX.out
          have GS := Lib.hid gs
          clear gs
          have m5 : (b5, obO x.cache x.slab x.obj) ∈ bs9 ++ (b6, ddObj d (.slice Av nv cv)) :: (b5, obO x.cache x.slab x.obj) :: (b4, hnO x) :: m := List.mem_append_right _ mem1
          have y0 : w9.cell? ⟨b5, 0, none⟩ = some (.int .i64 x.cache) := k2.cell m5 0
          have y1 : w9.cell? ⟨b5, 1, none⟩ = some (.int .i64 x.slab) := k2.cell m5 1
          have y2 : w9.cell? ⟨b5, 2, none⟩ = some (.int .i64 x.obj) := k2.cell m5 2
          clear k2 m5
          have HB2 : Hid (((L ++ [[1, x.cache, x.slab, x.obj, d.fr, d.tp]]).length + 1) * 48 ≤ BB) := Lib.hid (by
            have := hist_len H150.out i
            rw [← HL.out] at this
            rw [List.length_append]
            simp only [List.length_singleton]
            unfold BB
            omega)
          obtain ⟨L1, hL1⟩ : ∃ L1, L ++ [[1, x.cache, x.slab, x.obj, d.fr, d.tp]] = L1 := ⟨_, rfl⟩
          have HL1 := Lib.hid hL1
          have hlen1 : L.length + 1 = L1.length := by rw [← hL1, List.length_append]; rfl
          rw [hL1] at HS HB2
          rw [hlen1]
          clear hL1 hlen1
          obtain ⟨tf, HTF⟩ : ∃ p, Hid ((tak s.ds i).1 = p) := ⟨_, rfl⟩
          obtain ⟨tt, HTT⟩ : ∃ p, Hid ((tak s.ds i).2 = p) := ⟨_, rfl⟩
          go_upto_region 11 with (first
            | (go_at_call 13; refine (taken_spec GS.out HFR.out i x.cache x.slab x.obj).mono ?_; rintro e wA ⟨rfl, hA⟩; rw [HTF.out, HTT.out]; replace HO := Lib.hid (HO.out.of_self hA); clear hA)
            | (at_builtin; refine wpList_app1 (by rfl) _ _ _ (by rfl) (by rfl) (by rfl) 37 Tryz.underlying30 span_info (by rfl) (by omega) (by omega) HS.out (HO.out.alloc _) (src_row wA 37 #[.int .i64 3, .int .i64 x.cache, .int .i64 x.slab, .int .i64 x.obj, .int .i64 tf, .int .i64 tt]) (one_row _ _ _ _ _ _) (by exact HB2.out) ?_; intro AB cB wB bsB k1 k2))
          have HSB : Hid (SpsO (.slice AB (L1 ++ [[3, x.cache, x.slab, x.obj, tf, tt]]).length cB) (L1 ++ [[3, x.cache, x.slab, x.obj, tf, tt]]) bsB) := Lib.hid (by
            have e1 : (L1 ++ [[3, x.cache, x.slab, x.obj, tf, tt]]).length = L1.length + 1 := by rw [List.length_append]; rfl
            unfold SpsO
            rw [e1, flat6_app]
            exact k1)
          have HOB := Lib.hid k2
          clear k1 k2 f0 f1 f2 f3 f4 f5 f6 f7 f8 f9 f10 f11 y0 y1 y2 y4 HO HS GS
          go_wp2_with fail
          go_roundw
          case rel =>
            refine ⟨i + 1, AB, cB, L1 ++ [[3, x.cache, x.slab, x.obj, tf, tt]], bsB, _, by omega, (by rw [List.length_append]; rfl), by rw [HWR.out], Lib.hid ?_, HSB, HOB⟩
            rw [HLN.out, ← HL1.out, HL.out]
            unfold spans
            rw [HR.out, HOUT.out, HTF.out, HTT.out, List.append_assoc]
            rfl
          case measure => rw [HWR.out]; simp [intOf]; omega
      · obtain rfl : i = s.hn.length := by omega
        have HF := Lib.hid (HO2.out.join HO.out)
        have HL2 : Hid (L = s.hist) := Lib.hid (by rw [HL.out, List.take_length]; rfl)
        clear HO HX
        go_wp2_with fail
        go_ret
        exact ⟨_, bs0, L, rfl, HS, HF.out.sub (by rw [List.append_assoc]; exact List.sublist_append_left _ _), fun _ => HL2.out, fun h => absurd HOK.out h⟩
  · have HOK := Lib.hid hok
    have HOB : Hid (false = true ↔ s.Ok) := Lib.hid (by simp [hok])
    clear hok
    go_wp2_with (go_at_call 9; refine (shaped_b GS.out HOB.out).mono ?_; rintro e w2 ⟨rfl, h2⟩; have HO2 := Lib.hid (HO.out.of_self h2); clear h2)
    go_ret
    exact ⟨.slice none 0 0, [], [], rfl, Lib.hid sps_nil, HO2.out.sub (List.nil_sublist _), fun h => absurd h HOK.out, fun _ => rfl⟩
end Go.Proofs.YthjjpmoifgcepaaGreat.Jh
