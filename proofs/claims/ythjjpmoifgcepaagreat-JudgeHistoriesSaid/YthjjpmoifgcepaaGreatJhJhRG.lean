import Derived.Test.YthjjpmoifgcepaaGreatJhJhRF
import Derived.Test.YthjjpmoifgcepaaGreatJhJhD
/-
  Contracts: wainscotlaw30.copySnap, short, of snaps. No condition.
-/
namespace Go.Proofs.YthjjpmoifgcepaaGreat.Jh
open Go.RowKit
attribute [local go_sem ↓] Go.wp_at_zero Go.wp_at_succ
/-- a snap comes back -/
def SnapP (W : World) (s : Sn) (e : Ending) (w' : World) : Prop := ∃ A1 c1 A2 c2 A3 c3 A4 c4 A5 c5 A6 c6 A7 c7 A8 c8 A9 c9 A10 c10 A11 c11 M, (s.hn.length ≤ c10 ∧ s.ds.length ≤ c11) ∧ e = .returned (SA s.now (.slice A1 s.depths.length c1) (.slice A2 s.paths.length c2) (.slice A3 s.used.length c3) (.slice A4 s.most.length c4) (.slice A5 s.owned.length c5) (.slice A6 s.held.length c6) (.slice A7 s.flies.length c7) (.slice A8 s.tags.length c8) (.slice A9 s.nc c9) (.slice A10 s.hn.length c10) (.slice A11 s.ds.length c11)) ∧
  Kp M (fun ws => SnapV ws (SA s.now (.slice A1 s.depths.length c1) (.slice A2 s.paths.length c2) (.slice A3 s.used.length c3) (.slice A4 s.most.length c4) (.slice A5 s.owned.length c5) (.slice A6 s.held.length c6) (.slice A7 s.flies.length c7) (.slice A8 s.tags.length c8) (.slice A9 s.nc c9) (.slice A10 s.hn.length c10) (.slice A11 s.ds.length c11)) s) ∧ Own W M w'
theorem copySnap_spec {w : World} {s : Sn} {cs : Array Value} (hs : SnapV w (.agg cs) s) : Calls Tryz.prog 6 #[.agg cs] w (SnapP w s) := by
  obtain ⟨v1, v2, v3, v4, v5, v6, v7, v8, v9, v10, v11, rfl, k1, k2, k3, k4, k5, k6, k7, k8, ⟨Cs, Ls, k9, hn⟩, k10, k11⟩ := snap_cells hs
  obtain ⟨A1, c1, rfl⟩ := k1.form
  obtain ⟨A2, c2, rfl⟩ := k2.form
  obtain ⟨A3, c3, rfl⟩ := k3.form
  obtain ⟨A4, c4, rfl⟩ := k4.form
  obtain ⟨A5, c5, rfl⟩ := k5.form
  obtain ⟨A6, c6, rfl⟩ := k6.form
  obtain ⟨A7, c7, rfl⟩ := k7.form
  obtain ⟨A8, c8, rfl⟩ := k8.form
  obtain ⟨A9, c9, rfl⟩ := k9.form
  obtain ⟨A10, c10, rfl⟩ := k10.form
  obtain ⟨A11, c11, rfl⟩ := k11.form
  refine (copySnap_walk (n0 := s.now) k1 k2 k3 k4 k5 k6 k7 k8 k9 k10 k11).mono ?_
  rintro e w' ⟨x1, x2, x3, x4, x5, x6, x7, x8, x9, x10, x11, M, rfl, hK, hO, hc10, hc11⟩
  obtain ⟨r1, r2, r3, r4, r5, r6, r7, r8, r9, r10, r11⟩ := hK w' fun p hp => (hO.at_ p hp).2
  obtain ⟨X1, y1, rfl⟩ := r1.form
  obtain ⟨X2, y2, rfl⟩ := r2.form
  obtain ⟨X3, y3, rfl⟩ := r3.form
  obtain ⟨X4, y4, rfl⟩ := r4.form
  obtain ⟨X5, y5, rfl⟩ := r5.form
  obtain ⟨X6, y6, rfl⟩ := r6.form
  obtain ⟨X7, y7, rfl⟩ := r7.form
  obtain ⟨X8, y8, rfl⟩ := r8.form
  obtain ⟨X9, y9, rfl⟩ := r9.form
  obtain ⟨X10, y10, rfl⟩ := r10.form
  obtain ⟨X11, y11, rfl⟩ := r11.form
  refine ⟨X1, y1, X2, y2, X3, y3, X4, y4, X5, y5, X6, y6, X7, y7, X8, y8, X9, y9, X10, y10, X11, y11, M, ⟨hc10 _ _ _ rfl, hc11 _ _ _ rfl⟩, by rw [← hn], fun ws hw => ?_, hO⟩
  obtain ⟨r1, r2, r3, r4, r5, r6, r7, r8, r9, r10, r11⟩ := hK ws hw
  exact ⟨_, _, _, _, _, _, _, _, _, _, _, rfl, r1, r2, r3, r4, r5, r6, r7, r8, ⟨Cs, Ls, by rw [← hn]; exact r9, hn⟩, r10, r11⟩
def Sn.short (s : Sn) : Sn := { s with hn := s.hn.take 150, ds := s.ds.take 150 }
theorem Src.take {w : World} {size n : Nat} {A : Option Addr} {c : Nat} {xs : List Value} (h : Src w size (.slice A n c) n xs) (k : Nat) (hk : k ≤ n) : Src w size (.slice A k c) k (xs.take (k * size)) := by
  refine ⟨by rw [List.length_take, h.1, Nat.min_eq_left (Nat.mul_le_mul_right _ hk)], ?_⟩
  rcases h.2 with ⟨he, hn⟩ | ⟨a, c', he, hc⟩
  · injection he with h1 h2 h3
    subst h1 h3
    left
    exact ⟨by rw [show k = 0 by omega], by omega⟩
  · injection he with h1 h2 h3
    subst h1 h3
    right
    refine ⟨a, c, rfl, fun j u hj => hc j u ?_⟩
    rw [List.getElem?_take] at hj
    split at hj
    · exact hj
    · cases hj
theorem Rows.take {w : World} {size : Nat} {A : Option Addr} {c n : Nat} {R : List (List Value)} (h : Rows w size (.slice A n c) R) (hn : R.length = n) (k : Nat) (hk : k ≤ n) : Rows w size (.slice A k c) (R.take k) := by
  have hs := h.src
  rw [hn] at hs
  have e : R.flatten.take (k * size) = (R.take k).flatten := by
    have : ∀ (R : List (List Value)) (k : Nat), (∀ r ∈ R, r.length = size) → R.flatten.take (k * size) = (R.take k).flatten := by
      intro R
      induction R with
      | nil => intro k _; simp
      | cons r R ih =>
        intro k hR
        cases k with
        | zero => simp
        | succ k =>
          have hr := hR r List.mem_cons_self
          rw [List.flatten_cons, List.take_succ_cons, List.flatten_cons, Nat.succ_mul, Nat.add_comm, ← ih k fun r hr => hR r (List.mem_cons_of_mem _ hr), ← hr, List.take_length_add_append]
    exact this R k h.len
  have h2 := Src.take hs k hk
  rw [e] at h2
  refine ⟨?_, fun r hr => h.len r (List.mem_of_mem_take hr), fun r hr => h.one r (List.mem_of_mem_take hr)⟩
  rw [List.length_take, hn, Nat.min_eq_left hk]
  exact h2
theorem HansV.take {w : World} {A : Option Addr} {c : Nat} {hs : List Hn} (h : HansV w (.slice A hs.length c) hs) (k : Nat) (hk : k ≤ hs.length) : HansV w (.slice A k c) (hs.take k) := by
  refine ⟨?_, ?_⟩
  · have := Rows.take h.1 (by rw [List.length_map]) k hk
    rw [← List.map_take] at this
    exact this
  · have := h.2
    rw [List.length_take, Nat.min_eq_left hk]
    exact Nat.le_trans (Nat.mul_le_mul_right _ hk) this
theorem DidsV.take {w : World} {A : Option Addr} {c : Nat} {ds : List Dd} (h : DidsV w (.slice A ds.length c) ds) (k : Nat) (hk : k ≤ ds.length) : DidsV w (.slice A k c) (ds.take k) := by
  obtain ⟨svs, hl, h⟩ := h
  have hz : (List.zipWith ddCells ds svs).length = ds.length := by rw [List.length_zipWith, hl, Nat.min_self]
  have e : (List.zipWith ddCells ds svs).take k = List.zipWith ddCells (ds.take k) (svs.take k) := by rw [List.take_zipWith]
  refine ⟨svs.take k, by rw [List.length_take, List.length_take, hl], ⟨?_, ?_, ?_, ?_⟩⟩
  · have := Rows.take h.rows hz k hk
    rwa [e] at this
  · rw [← e, List.length_take, hz, List.length_map, List.length_take]
  · rw [← e, List.length_take, hz, Nat.min_eq_left hk]
    have := h.bytes
    rw [hz] at this
    exact Nat.le_trans (Nat.mul_le_mul_right _ hk) this
  · intro i r l hr hlx
    rw [← e] at hr
    have hik : i < k := by
      have := (List.getElem?_eq_some_iff.1 hr).1
      rw [List.length_take] at this
      omega
    rw [List.getElem?_take_of_lt hik] at hr
    rw [List.map_take, List.getElem?_take_of_lt hik] at hlx
    exact h.cell i r l hr hlx
theorem own_s12 {W w : World} {m : List (Nat × Obj)} {b : Nat} {n : Int} {v1 v2 v3 v4 v5 v6 v7 v8 v9 v10 v11 : Value} (h : Own W ((b, S12 n v1 v2 v3 v4 v5 v6 v7 v8 v9 v10 v11) :: m) w) (x10 x11 : Value) : Own W ((b, S12 n v1 v2 v3 v4 v5 v6 v7 v8 v9 x10 x11) :: m) ((w.setCell ⟨b, 10, none⟩ x10).setCell ⟨b, 11, none⟩ x11) := by
  have h1 := (h.set 10 x10).set 11 x11
  have e : ((#[.int .i64 n, v1, v2, v3, v4, v5, v6, v7, v8, v9, v10, v11] : Array Value).setIfInBounds 10 x10).setIfInBounds 11 x11 = #[.int .i64 n, v1, v2, v3, v4, v5, v6, v7, v8, v9, x10, x11] := by simp
  rw [e] at h1
  exact h1
theorem perm_z {α : Type} {d z b : α} {M : List α} : (d :: (M ++ [z, b])).Perm (z :: d :: (M ++ [b])) := by
  classical
  rw [List.perm_iff_count]
  intro x
  simp only [List.count_append, List.count_cons, List.count_nil]
  omega
theorem to_min (n : Nat) : (if (150 : Int) < (n : Int) then 150 else (n : Int)).toNat = min n 150 := by
  split <;> omega
set_option maxHeartbeats 8000000 in
set_option maxRecDepth 100000 in
theorem short_spec {w : World} {s : Sn} {cs : Array Value} (hs : SnapV w (.agg cs) s) : Calls Tryz.prog 4 #[.agg cs] w (SnapP w s.short) := by
  have hX : BoxS (w.alloc (.cells cs 28)) w.heap.size s := BoxS.new hs
  have hO := ((Own.self w).new (.cells cs 28)).new (S12 0 (.slice none 0 0) (.slice none 0 0) (.slice none 0 0) (.slice none 0 0) (.slice none 0 0) (.slice none 0 0) (.slice none 0 0) (.slice none 0 0) (.slice none 0 0) (.slice none 0 0) (.slice none 0 0))
  have hX2 := hX.own ((Own.self _).new (S12 0 (.slice none 0 0) (.slice none 0 0) (.slice none 0 0) (.slice none 0 0) (.slice none 0 0) (.slice none 0 0) (.slice none 0 0) (.slice none 0 0) (.slice none 0 0) (.slice none 0 0) (.slice none 0 0)))
  simp only [al_size] at hO
  clear hs hX
  go_enter Tryz.func4, Tryz.ntmps4
  go_upto_region 1 with fail
  obtain ⟨B, hB⟩ : ∃ B, w.heap.size = B := ⟨_, rfl⟩
  rw [hB] at hO hX2 ⊢
  generalize (w.alloc (.cells cs 28)).alloc (S12 0 (.slice none 0 0) (.slice none 0 0) (.slice none 0 0) (.slice none 0 0) (.slice none 0 0) (.slice none 0 0) (.slice none 0 0) (.slice none 0 0) (.slice none 0 0) (.slice none 0 0) (.slice none 0 0)) = W1 at hO hX2 ⊢
  obtain ⟨B1, d1, B2, d2, B3, d3, B4, d4, B5, d5, B6, d6, B7, d7, B8, d8, B9, d9, B10, d10, B11, d11, ⟨f0, f1, f2, f3, f4, f5, f6, f7, f8, f9, f10, f11⟩, -, -, -, -, gs⟩ := box_all hX2
  have HO := Lib.hid hO
  have GS := Lib.hid gs
  clear hX2 hO hB gs
  go_upto_region 2 with (go_at_call 6; refine (copySnap_spec GS.out).mono ?_; rintro e w2 ⟨A1, c1, A2, c2, A3, c3, A4, c4, A5, c5, A6, c6, A7, c7, A8, c8, A9, c9, A10, c10, A11, c11, M, ⟨hc10, hc11⟩, rfl, hK, h2⟩)
  have h3 := (HO.out.join h2).new (S12 s.now (.slice A1 s.depths.length c1) (.slice A2 s.paths.length c2) (.slice A3 s.used.length c3) (.slice A4 s.most.length c4) (.slice A5 s.owned.length c5) (.slice A6 s.held.length c6) (.slice A7 s.flies.length c7) (.slice A8 s.tags.length c8) (.slice A9 s.nc c9) (.slice A10 s.hn.length c10) (.slice A11 s.ds.length c11))
  obtain ⟨D, hD⟩ : ∃ D, w2.heap.size = D := ⟨_, rfl⟩
  rw [hD] at h3 ⊢
  have HK := Lib.hid hK
  clear h2 hD hK HO GS f0 f1 f2 f3 f4 f5 f6 f7 f8 f9 f10 f11
  generalize w2.alloc (S12 s.now (.slice A1 s.depths.length c1) (.slice A2 s.paths.length c2) (.slice A3 s.used.length c3) (.slice A4 s.most.length c4) (.slice A5 s.owned.length c5) (.slice A6 s.held.length c6) (.slice A7 s.flies.length c7) (.slice A8 s.tags.length c8) (.slice A9 s.nc c9) (.slice A10 s.hn.length c10) (.slice A11 s.ds.length c11)) = w3 at h3 ⊢
  obtain ⟨⟨a0, a1, a2, a3, a4, a5, a6, a7, a8, a9, a10, a11⟩, fz⟩ := box12 h3
  have fz10 := fz 10
  have fz11 := fz 11
  have H3 := Lib.hid h3
  clear h3 fz
  go_upto_region 4 with fail
  have h6 := own_s12 H3.out (.slice A10 (min s.hn.length 150) c10) (.slice A11 (min s.ds.length 150) c11)
  clear a0 a1 a2 a3 a4 a5 a6 a7 a8 a9 a10 a11 fz10 fz11
  simp only [to_min]
  generalize (if (150 : Int) < (s.hn.length : Int) then 150 else (s.hn.length : Int)) = z10
  generalize (if (150 : Int) < (s.ds.length : Int) then 150 else (s.ds.length : Int)) = z11
  generalize (w3.setCell ⟨D, 10, none⟩ (.slice A10 (min s.hn.length 150) c10)).setCell ⟨D, 11, none⟩ (.slice A11 (min s.ds.length 150) c11) = w5 at h6 ⊢
  obtain ⟨⟨a0, a1, a2, a3, a4, a5, a6, a7, a8, a9, a10, a11⟩, -⟩ := box12 h6
  have h7 : Own w ((B + 1, Z12) :: ((D, S12 s.now (.slice A1 s.depths.length c1) (.slice A2 s.paths.length c2) (.slice A3 s.used.length c3) (.slice A4 s.most.length c4) (.slice A5 s.owned.length c5) (.slice A6 s.held.length c6) (.slice A7 s.flies.length c7) (.slice A8 s.tags.length c8) (.slice A9 s.nc c9) (.slice A10 (min s.hn.length 150) c10) (.slice A11 (min s.ds.length 150) c11)) :: (M ++ [(B, .cells cs 28)]))) w5 := by
    exact h6.perm perm_z
  obtain ⟨⟨b0, b1, b2, b3, b4, b5, b6, b7, b8, b9, b10, b11⟩, fz⟩ := box12 h7
  have fz0 := fz 0
  have fz1 := fz 1
  have fz2 := fz 2
  have fz3 := fz 3
  have fz4 := fz 4
  have fz5 := fz 5
  have fz6 := fz 6
  have fz7 := fz 7
  have fz8 := fz 8
  have fz9 := fz 9
  have fz10 := fz 10
  have fz11 := fz 11
  have H7 := Lib.hid h7
  have hne : D ≠ B + 1 := h7.ne List.mem_cons_self
  have HC10 := Lib.hid hc10
  have HC11 := Lib.hid hc11
  clear fz h6 h7 H3 hc10 hc11
  go_wp2_with fail
  have h8 := own_all12 H7.out (.int .i64 s.now) (.slice A1 s.depths.length c1) (.slice A2 s.paths.length c2) (.slice A3 s.used.length c3) (.slice A4 s.most.length c4) (.slice A5 s.owned.length c5) (.slice A6 s.held.length c6) (.slice A7 s.flies.length c7) (.slice A8 s.tags.length c8) (.slice A9 s.nc c9) (.slice A10 (min s.hn.length 150) c10) (.slice A11 (min s.ds.length 150) c11)
  clear a0 a1 a2 a3 a4 a5 a6 a7 a8 a9 a10 a11 b0 b1 b2 b3 b4 b5 b6 b7 b8 b9 b10 b11 fz0 fz1 fz2 fz3 fz4 fz5 fz6 fz7 fz8 fz9 fz10 fz11
  have HO8 := Lib.hid h8
  obtain ⟨we, hwe⟩ : ∃ we, we = ((((((((((((w5.setCell ⟨B + 1, 0, none⟩ (.int .i64 s.now)).setCell ⟨B + 1, 1, none⟩ (.slice A1 s.depths.length c1)).setCell ⟨B + 1, 2, none⟩ (.slice A2 s.paths.length c2)).setCell ⟨B + 1, 3, none⟩ (.slice A3 s.used.length c3)).setCell ⟨B + 1, 4, none⟩ (.slice A4 s.most.length c4)).setCell ⟨B + 1, 5, none⟩ (.slice A5 s.owned.length c5)).setCell ⟨B + 1, 6, none⟩ (.slice A6 s.held.length c6)).setCell ⟨B + 1, 7, none⟩ (.slice A7 s.flies.length c7)).setCell ⟨B + 1, 8, none⟩ (.slice A8 s.tags.length c8)).setCell ⟨B + 1, 9, none⟩ (.slice A9 s.nc c9)).setCell ⟨B + 1, 10, none⟩ (.slice A10 (min s.hn.length 150) c10)).setCell ⟨B + 1, 11, none⟩ (.slice A11 (min s.ds.length 150) c11)) := ⟨_, rfl⟩
  rw [← hwe] at h8 ⊢
  have HE : Own w ((B + 1, (.cells (sn12 s.now (.slice A1 s.depths.length c1) (.slice A2 s.paths.length c2) (.slice A3 s.used.length c3) (.slice A4 s.most.length c4) (.slice A5 s.owned.length c5) (.slice A6 s.held.length c6) (.slice A7 s.flies.length c7) (.slice A8 s.tags.length c8) (.slice A9 s.nc c9) (.slice A10 (min s.hn.length 150) c10) (.slice A11 (min s.ds.length 150) c11)) 28)) :: (D, S12 s.now (.slice A1 s.depths.length c1) (.slice A2 s.paths.length c2) (.slice A3 s.used.length c3) (.slice A4 s.most.length c4) (.slice A5 s.owned.length c5) (.slice A6 s.held.length c6) (.slice A7 s.flies.length c7) (.slice A8 s.tags.length c8) (.slice A9 s.nc c9) (.slice A10 (min s.hn.length 150) c10) (.slice A11 (min s.ds.length 150) c11)) :: (M ++ [(B, .cells cs 28)])) we := h8
  clear h8 hwe HO8
  obtain ⟨⟨t0, t1, t2, t3, t4, t5, t6, t7, t8, t9, t10, t11⟩, -⟩ := box12 HE
  have hl1 : min s.hn.length 150 = (s.hn.take 150).length := by rw [List.length_take, Nat.min_comm]
  have hl2 : min s.ds.length 150 = (s.ds.take 150).length := by rw [List.length_take, Nat.min_comm]
  have hkp : Kp M (fun ws => SnapV ws (SA s.now (.slice A1 s.depths.length c1) (.slice A2 s.paths.length c2) (.slice A3 s.used.length c3) (.slice A4 s.most.length c4) (.slice A5 s.owned.length c5) (.slice A6 s.held.length c6) (.slice A7 s.flies.length c7) (.slice A8 s.tags.length c8) (.slice A9 s.nc c9) (.slice A10 (s.hn.take 150).length c10) (.slice A11 (s.ds.take 150).length c11)) s.short) := fun ws hw => by
    obtain ⟨v1, v2, v3, v4, v5, v6, v7, v8, v9, v10, v11, e, r1, r2, r3, r4, r5, r6, r7, r8, r9, r10, r11⟩ := snap_cells (HK.out ws hw)
    injection e with e
    simp only [List.cons.injEq, and_true, true_and] at e
    obtain ⟨rfl, rfl, rfl, rfl, rfl, rfl, rfl, rfl, rfl, rfl, rfl⟩ := e
    refine ⟨_, _, _, _, _, _, _, _, _, _, _, rfl, r1, r2, r3, r4, r5, r6, r7, r8, r9, ?_, ?_⟩
    · have := HansV.take r10 (min s.hn.length 150) (Nat.min_le_left _ _)
      rw [hl1] at this
      rw [show s.hn.take (s.hn.take 150).length = s.hn.take 150 by rw [List.length_take, List.take_eq_take_iff]; omega] at this
      exact this
    · have := DidsV.take r11 (min s.ds.length 150) (Nat.min_le_left _ _)
      rw [hl2] at this
      rw [show s.ds.take (s.ds.take 150).length = s.ds.take 150 by rw [List.length_take, List.take_eq_take_iff]; omega] at this
      exact this
  rw [hl1] at t10
  rw [hl2] at t11
  have hfin : Own w M we := HE.skip.skip.dropR
  exact bodyPost_ret (v := SA s.now (.slice A1 s.depths.length c1) (.slice A2 s.paths.length c2) (.slice A3 s.used.length c3) (.slice A4 s.most.length c4) (.slice A5 s.owned.length c5) (.slice A6 s.held.length c6) (.slice A7 s.flies.length c7) (.slice A8 s.tags.length c8) (.slice A9 s.nc c9) (.slice A10 (s.hn.take 150).length c10) (.slice A11 (s.ds.take 150).length c11)) (by simp [results, Tryz.f4, go_sem, t0, t1, t2, t3, t4, t5, t6, t7, t8, t9, t10, t11]) rfl ⟨A1, c1, A2, c2, A3, c3, A4, c4, A5, c5, A6, c6, A7, c7, A8, c8, A9, c9, A10, c10, A11, c11, M, ⟨Nat.le_trans (by show (s.hn.take 150).length ≤ s.hn.length; rw [← hl1]; exact Nat.min_le_left _ _) HC10.out, Nat.le_trans (by show (s.ds.take 150).length ≤ s.ds.length; rw [← hl2]; exact Nat.min_le_left _ _) HC11.out⟩, rfl, hkp, hfin⟩
end Go.Proofs.YthjjpmoifgcepaaGreat.Jh
