import Derived.Test.YthjjpmoifgcepaaGreatJhJhU
/-
  Contracts: judge.first at judge.gives and at judge.takes; judge.object. No condition.
-/
namespace Go.Proofs.YthjjpmoifgcepaaGreat.Jh
open Go.RowKit
attribute [local go_sem ↓] Go.wp_at_zero Go.wp_at_succ
theorem al_size (w : World) (o : Obj) : (w.alloc o).heap.size = w.heap.size + 1 := by simp
theorem mem1 {α : Type} {a b : α} {l : List α} : b ∈ a :: b :: l := List.mem_cons_of_mem _ List.mem_cons_self
theorem mem2 {α : Type} {a b c : α} {l : List α} : c ∈ a :: b :: c :: l := List.mem_cons_of_mem _ mem1
theorem mem3 {α : Type} {a b c d : α} {l : List α} : d ∈ a :: b :: c :: d :: l := List.mem_cons_of_mem _ mem2
abbrev Z6 : Obj := .cells #[.int .i64 0, .int .i64 0, .int .i64 0, .int .i64 0, .int .i64 0, .slice none 0 0] 45
/-- the first that is so, or one of which only the end is laid: -1 -/
def FirstP (W : World) (f : Dd → Bool) (l : List Dd) (e : Ending) (w' : World) : Prop := ∃ d A n c b, e = .returned (.tuple #[ddAgg d (.slice A n c), .bool b]) ∧ ((b = true ∧ l.find? f = some d) ∨ (b = false ∧ l.find? f = none ∧ d.fr = 0 ∧ d.tp = -1)) ∧ Own W [] w'
theorem own_all6 {W w : World} {m : List (Nat × Obj)} {b : Nat} (h : Own W ((b, Z6) :: m) w) (x0 x1 x2 x3 x4 x5 : Value) : Own W ((b, .cells #[x0, x1, x2, x3, x4, x5] 45) :: m) ((((((w.setCell ⟨b, 0, none⟩ x0).setCell ⟨b, 1, none⟩ x1).setCell ⟨b, 2, none⟩ x2).setCell ⟨b, 3, none⟩ x3).setCell ⟨b, 4, none⟩ x4).setCell ⟨b, 5, none⟩ x5) := by
  have h1 := ((((((h.set 0 x0).set 1 x1).set 2 x2).set 3 x3).set 4 x4).set 5 x5)
  have e : ((((((#[.int .i64 0, .int .i64 0, .int .i64 0, .int .i64 0, .int .i64 0, .slice none 0 0] : Array Value).setIfInBounds 0 x0).setIfInBounds 1 x1).setIfInBounds 2 x2).setIfInBounds 3 x3).setIfInBounds 4 x4).setIfInBounds 5 x5 = #[x0, x1, x2, x3, x4, x5] := by simp
  rw [e] at h1
  exact h1
abbrev S12 (n : Int) (v1 v2 v3 v4 v5 v6 v7 v8 v9 v10 v11 : Value) : Obj := .cells #[.int .i64 n, v1, v2, v3, v4, v5, v6, v7, v8, v9, v10, v11] 28
abbrev SA (n : Int) (v1 v2 v3 v4 v5 v6 v7 v8 v9 v10 v11 : Value) : Value := .agg #[.int .i64 n, v1, v2, v3, v4, v5, v6, v7, v8, v9, v10, v11]
set_option maxHeartbeats 4000000 in
set_option maxRecDepth 100000 in
theorem first_giv {w : World} {s : Sn} {cs : Array Value} (hs : SnapV w (.agg cs) s) (h : Int) : Calls Tryz.prog 11 #[.agg cs, .int .i64 h, .func (.func 12) #[] #[]] w (FirstP w (isGive h) s.ds) := by
  obtain ⟨v1, v2, v3, v4, v5, v6, v7, v8, v9, v10, v11, rfl, -, -, -, -, -, -, -, -, -, -, k11⟩ := snap_cells hs
  obtain ⟨A11, c11, rfl⟩ := k11.form
  have hO := ((((Own.self w).new (S12 s.now v1 v2 v3 v4 v5 v6 v7 v8 v9 v10 (.slice A11 s.ds.length c11))).new (.cells #[.int .i64 h] 3)).new (.cells #[.func (.func 12) #[] #[]] 48)).new Z6
  simp only [al_size] at hO
  have HS := Lib.hid k11
  clear hs k11
  go_enter Tryz.func11, Tryz.ntmps11
  go_upto_region 1 with fail
  obtain ⟨B, hB⟩ : ∃ B, w.heap.size = B := ⟨_, rfl⟩
  rw [hB] at hO ⊢
  generalize (((w.alloc (S12 s.now v1 v2 v3 v4 v5 v6 v7 v8 v9 v10 (.slice A11 s.ds.length c11))).alloc (.cells #[.int .i64 h] 3)).alloc (.cells #[.func (.func 12) #[] #[]] 48)).alloc Z6 = W1 at hO ⊢
  have HO := Lib.hid hO
  have HB : Hid (BoxF W1 (B + 1) (B + 1 + 1) h 12) := Lib.hid ⟨hO.lt mem2, hO.lt mem1, hO.cell mem2 0, hO.cell mem1 0⟩
  have e11 : W1.cell? ⟨B, 11, none⟩ = some (.slice A11 s.ds.length c11) := hO.cell mem3 11
  clear hO
  have HF := Lib.hid (ix_find (isGive h) s.ds)
  obtain ⟨ix, HI⟩ : ∃ ix, Hid (ixOf (fun y => isGive h y) s.ds = ix) := ⟨_, rfl⟩
  have HF2 : Hid ((ix = -1 ∧ s.ds.find? (isGive h) = none) ∨ ∃ (i : Nat) (x : Dd), ix = i ∧ s.ds[i]? = some x ∧ s.ds.find? (isGive h) = some x) := by rw [← HI.out]; exact HF
  clear HF
  have HSB := Lib.hid HS.out.bytes
  go_upto_region 2 with (go_at_call 27; refine (giv_ix (s := s) (HS.out.own HO.out) HB.out).mono ?_; rintro e w2 ⟨rfl, h3⟩; rw [HI.out]; have HO2 := Lib.hid (HO.out.of_self h3); clear h3)
  have hO2 := HO2.out
  rcases HF2.out with ⟨rfl, hn⟩ | ⟨i, d, rfl, hi, hn⟩
  · have HN := Lib.hid hn
    clear hn e11
    obtain ⟨c0, c1, c2, c3, c4, c5⟩ : w2.cell? ⟨B + 1 + 1 + 1, 0, none⟩ = some (.int .i64 0) ∧ w2.cell? ⟨B + 1 + 1 + 1, 1, none⟩ = some (.int .i64 0) ∧ w2.cell? ⟨B + 1 + 1 + 1, 2, none⟩ = some (.int .i64 0) ∧ w2.cell? ⟨B + 1 + 1 + 1, 3, none⟩ = some (.int .i64 0) ∧ w2.cell? ⟨B + 1 + 1 + 1, 4, none⟩ = some (.int .i64 0) ∧ w2.cell? ⟨B + 1 + 1 + 1, 5, none⟩ = some (.slice none 0 0) := ⟨hO2.cell List.mem_cons_self 0, hO2.cell List.mem_cons_self 1, hO2.cell List.mem_cons_self 2, hO2.cell List.mem_cons_self 3, hO2.cell List.mem_cons_self 4, hO2.cell List.mem_cons_self 5⟩
    have fz : ∀ j, w2.frozen? ⟨B + 1 + 1 + 1, j, none⟩ = false := fun j => hO2.frozen List.mem_cons_self j
    have f0 := fz 0
    have f1 := fz 1
    have f2 := fz 2
    have f3 := fz 3
    have f4 := fz 4
    have f5 := fz 5
    clear fz hO2
    go_wp2_with fail
    have h3 := own_all6 HO2.out (.int .i64 0) (.int .i64 0) (.int .i64 0) (.int .i64 (-1)) (.int .i64 0) (.slice none 0 0)
    clear c0 c1 c2 c3 c4 c5 f0 f1 f2 f3 f4 f5
    generalize (((((w2.setCell ⟨B + 1 + 1 + 1, 0, none⟩ (.int .i64 0)).setCell ⟨B + 1 + 1 + 1, 1, none⟩ (.int .i64 0)).setCell ⟨B + 1 + 1 + 1, 2, none⟩ (.int .i64 0)).setCell ⟨B + 1 + 1 + 1, 3, none⟩ (.int .i64 (-1))).setCell ⟨B + 1 + 1 + 1, 4, none⟩ (.int .i64 0)).setCell ⟨B + 1 + 1 + 1, 5, none⟩ (.slice none 0 0) = w4 at h3 ⊢
    have c0 := h3.cell List.mem_cons_self 0
    have c1 := h3.cell List.mem_cons_self 1
    have c2 := h3.cell List.mem_cons_self 2
    have c3 := h3.cell List.mem_cons_self 3
    have c4 := h3.cell List.mem_cons_self 4
    have c5 := h3.cell List.mem_cons_self 5
    exact bodyPost_ret (v := .tuple #[ddAgg ⟨0, 0, 0, -1, 0, []⟩ (.slice none 0 0), .bool false]) (by simp [results, Tryz.f11, go_sem, c0, c1, c2, c3, c4, c5]) rfl ⟨⟨0, 0, 0, -1, 0, []⟩, none, 0, 0, false, rfl, Or.inr ⟨rfl, HN.out, rfl, rfl⟩, h3.sub (List.nil_sublist _)⟩
  · have hlt := (List.getElem?_eq_some_iff.1 hi).1
    have HN := Lib.hid hn
    obtain ⟨g, o, cc, he, hg, hc⟩ := (HS.out).at_ (by omega)
    cases he
    obtain ⟨sv, hsv, x0, x1, x2, x3, x4, x5⟩ := hc i d hi
    have y0 := (hO2.old (a := ⟨g, o + i * 6, none⟩) hg).trans x0
    have y1 := (hO2.old (a := ⟨g, o + i * 6 + 1, none⟩) hg).trans x1
    have y2 := (hO2.old (a := ⟨g, o + i * 6 + 2, none⟩) hg).trans x2
    have y3 := (hO2.old (a := ⟨g, o + i * 6 + 3, none⟩) hg).trans x3
    have y4 := (hO2.old (a := ⟨g, o + i * 6 + 4, none⟩) hg).trans x4
    have y5 := (hO2.old (a := ⟨g, o + i * 6 + 5, none⟩) hg).trans x5
    obtain ⟨Av, cv, rfl⟩ := hsv.form
    have z11 : w2.cell? ⟨B, 11, none⟩ = some (.slice (some ⟨g, o, none⟩) s.ds.length c11) := hO2.cell mem3 11
    have hne : g ≠ B + 1 + 1 + 1 := by have := hO2.ge List.mem_cons_self; omega
    have hi0 : (0 : Int) ≤ (i : Int) ∧ (i : Int) < (s.ds.length : Int) := by omega
    obtain ⟨c0, c1, c2, c3, c4, c5⟩ : w2.cell? ⟨B + 1 + 1 + 1, 0, none⟩ = some (.int .i64 0) ∧ w2.cell? ⟨B + 1 + 1 + 1, 1, none⟩ = some (.int .i64 0) ∧ w2.cell? ⟨B + 1 + 1 + 1, 2, none⟩ = some (.int .i64 0) ∧ w2.cell? ⟨B + 1 + 1 + 1, 3, none⟩ = some (.int .i64 0) ∧ w2.cell? ⟨B + 1 + 1 + 1, 4, none⟩ = some (.int .i64 0) ∧ w2.cell? ⟨B + 1 + 1 + 1, 5, none⟩ = some (.slice none 0 0) := ⟨hO2.cell List.mem_cons_self 0, hO2.cell List.mem_cons_self 1, hO2.cell List.mem_cons_self 2, hO2.cell List.mem_cons_self 3, hO2.cell List.mem_cons_self 4, hO2.cell List.mem_cons_self 5⟩
    have fz : ∀ j, w2.frozen? ⟨B + 1 + 1 + 1, j, none⟩ = false := fun j => hO2.frozen List.mem_cons_self j
    have f0 := fz 0
    have f1 := fz 1
    have f2 := fz 2
    have f3 := fz 3
    have f4 := fz 4
    have f5 := fz 5
    clear fz hO2 hn hi hc x0 x1 x2 x3 x4 x5 hsv e11 hlt hg
    go_wp2_with fail
    have h3 := own_all6 HO2.out (.int .i64 d.cpu) (.int .i64 d.op) (.int .i64 d.fr) (.int .i64 d.tp) (.int .i64 d.e) (.slice Av d.hs.length cv)
    clear c0 c1 c2 c3 c4 c5 f0 f1 f2 f3 f4 f5 y0 y1 y2 y3 y4 y5
    generalize (((((w2.setCell ⟨B + 1 + 1 + 1, 0, none⟩ (.int .i64 d.cpu)).setCell ⟨B + 1 + 1 + 1, 1, none⟩ (.int .i64 d.op)).setCell ⟨B + 1 + 1 + 1, 2, none⟩ (.int .i64 d.fr)).setCell ⟨B + 1 + 1 + 1, 3, none⟩ (.int .i64 d.tp)).setCell ⟨B + 1 + 1 + 1, 4, none⟩ (.int .i64 d.e)).setCell ⟨B + 1 + 1 + 1, 5, none⟩ (.slice Av d.hs.length cv) = w4 at h3 ⊢
    have c0 := h3.cell List.mem_cons_self 0
    have c1 := h3.cell List.mem_cons_self 1
    have c2 := h3.cell List.mem_cons_self 2
    have c3 := h3.cell List.mem_cons_self 3
    have c4 := h3.cell List.mem_cons_self 4
    have c5 := h3.cell List.mem_cons_self 5
    exact bodyPost_ret (v := .tuple #[ddAgg d (.slice Av d.hs.length cv), .bool true]) (by simp [results, Tryz.f11, go_sem, c0, c1, c2, c3, c4, c5]) rfl ⟨d, Av, d.hs.length, cv, true, rfl, Or.inl ⟨rfl, HN.out⟩, h3.sub (List.nil_sublist _)⟩
set_option maxHeartbeats 4000000 in
set_option maxRecDepth 100000 in
theorem first_tak {w : World} {s : Sn} {cs : Array Value} (hs : SnapV w (.agg cs) s) (h : Int) : Calls Tryz.prog 11 #[.agg cs, .int .i64 h, .func (.func 30) #[] #[]] w (FirstP w (isTake h) s.ds) := by
  obtain ⟨v1, v2, v3, v4, v5, v6, v7, v8, v9, v10, v11, rfl, -, -, -, -, -, -, -, -, -, -, k11⟩ := snap_cells hs
  obtain ⟨A11, c11, rfl⟩ := k11.form
  have hO := ((((Own.self w).new (S12 s.now v1 v2 v3 v4 v5 v6 v7 v8 v9 v10 (.slice A11 s.ds.length c11))).new (.cells #[.int .i64 h] 3)).new (.cells #[.func (.func 30) #[] #[]] 48)).new Z6
  simp only [al_size] at hO
  have HS := Lib.hid k11
  clear hs k11
  go_enter Tryz.func11, Tryz.ntmps11
  go_upto_region 1 with fail
  obtain ⟨B, hB⟩ : ∃ B, w.heap.size = B := ⟨_, rfl⟩
  rw [hB] at hO ⊢
  generalize (((w.alloc (S12 s.now v1 v2 v3 v4 v5 v6 v7 v8 v9 v10 (.slice A11 s.ds.length c11))).alloc (.cells #[.int .i64 h] 3)).alloc (.cells #[.func (.func 30) #[] #[]] 48)).alloc Z6 = W1 at hO ⊢
  have HO := Lib.hid hO
  have HB : Hid (BoxF W1 (B + 1) (B + 1 + 1) h 30) := Lib.hid ⟨hO.lt mem2, hO.lt mem1, hO.cell mem2 0, hO.cell mem1 0⟩
  have e11 : W1.cell? ⟨B, 11, none⟩ = some (.slice A11 s.ds.length c11) := hO.cell mem3 11
  clear hO
  have HF := Lib.hid (ix_find (isTake h) s.ds)
  obtain ⟨ix, HI⟩ : ∃ ix, Hid (ixOf (fun y => isTake h y) s.ds = ix) := ⟨_, rfl⟩
  have HF2 : Hid ((ix = -1 ∧ s.ds.find? (isTake h) = none) ∨ ∃ (i : Nat) (x : Dd), ix = i ∧ s.ds[i]? = some x ∧ s.ds.find? (isTake h) = some x) := by rw [← HI.out]; exact HF
  clear HF
  have HSB := Lib.hid HS.out.bytes
  go_upto_region 2 with (go_at_call 27; refine (tak_ix (s := s) (HS.out.own HO.out) HB.out).mono ?_; rintro e w2 ⟨rfl, h3⟩; rw [HI.out]; have HO2 := Lib.hid (HO.out.of_self h3); clear h3)
  have hO2 := HO2.out
  rcases HF2.out with ⟨rfl, hn⟩ | ⟨i, d, rfl, hi, hn⟩
  · have HN := Lib.hid hn
    clear hn e11
    obtain ⟨c0, c1, c2, c3, c4, c5⟩ : w2.cell? ⟨B + 1 + 1 + 1, 0, none⟩ = some (.int .i64 0) ∧ w2.cell? ⟨B + 1 + 1 + 1, 1, none⟩ = some (.int .i64 0) ∧ w2.cell? ⟨B + 1 + 1 + 1, 2, none⟩ = some (.int .i64 0) ∧ w2.cell? ⟨B + 1 + 1 + 1, 3, none⟩ = some (.int .i64 0) ∧ w2.cell? ⟨B + 1 + 1 + 1, 4, none⟩ = some (.int .i64 0) ∧ w2.cell? ⟨B + 1 + 1 + 1, 5, none⟩ = some (.slice none 0 0) := ⟨hO2.cell List.mem_cons_self 0, hO2.cell List.mem_cons_self 1, hO2.cell List.mem_cons_self 2, hO2.cell List.mem_cons_self 3, hO2.cell List.mem_cons_self 4, hO2.cell List.mem_cons_self 5⟩
    have fz : ∀ j, w2.frozen? ⟨B + 1 + 1 + 1, j, none⟩ = false := fun j => hO2.frozen List.mem_cons_self j
    have f0 := fz 0
    have f1 := fz 1
    have f2 := fz 2
    have f3 := fz 3
    have f4 := fz 4
    have f5 := fz 5
    clear fz hO2
    go_wp2_with fail
    have h3 := own_all6 HO2.out (.int .i64 0) (.int .i64 0) (.int .i64 0) (.int .i64 (-1)) (.int .i64 0) (.slice none 0 0)
    clear c0 c1 c2 c3 c4 c5 f0 f1 f2 f3 f4 f5
    generalize (((((w2.setCell ⟨B + 1 + 1 + 1, 0, none⟩ (.int .i64 0)).setCell ⟨B + 1 + 1 + 1, 1, none⟩ (.int .i64 0)).setCell ⟨B + 1 + 1 + 1, 2, none⟩ (.int .i64 0)).setCell ⟨B + 1 + 1 + 1, 3, none⟩ (.int .i64 (-1))).setCell ⟨B + 1 + 1 + 1, 4, none⟩ (.int .i64 0)).setCell ⟨B + 1 + 1 + 1, 5, none⟩ (.slice none 0 0) = w4 at h3 ⊢
    have c0 := h3.cell List.mem_cons_self 0
    have c1 := h3.cell List.mem_cons_self 1
    have c2 := h3.cell List.mem_cons_self 2
    have c3 := h3.cell List.mem_cons_self 3
    have c4 := h3.cell List.mem_cons_self 4
    have c5 := h3.cell List.mem_cons_self 5
    exact bodyPost_ret (v := .tuple #[ddAgg ⟨0, 0, 0, -1, 0, []⟩ (.slice none 0 0), .bool false]) (by simp [results, Tryz.f11, go_sem, c0, c1, c2, c3, c4, c5]) rfl ⟨⟨0, 0, 0, -1, 0, []⟩, none, 0, 0, false, rfl, Or.inr ⟨rfl, HN.out, rfl, rfl⟩, h3.sub (List.nil_sublist _)⟩
  · have hlt := (List.getElem?_eq_some_iff.1 hi).1
    have HN := Lib.hid hn
    obtain ⟨g, o, cc, he, hg, hc⟩ := (HS.out).at_ (by omega)
    cases he
    obtain ⟨sv, hsv, x0, x1, x2, x3, x4, x5⟩ := hc i d hi
    have y0 := (hO2.old (a := ⟨g, o + i * 6, none⟩) hg).trans x0
    have y1 := (hO2.old (a := ⟨g, o + i * 6 + 1, none⟩) hg).trans x1
    have y2 := (hO2.old (a := ⟨g, o + i * 6 + 2, none⟩) hg).trans x2
    have y3 := (hO2.old (a := ⟨g, o + i * 6 + 3, none⟩) hg).trans x3
    have y4 := (hO2.old (a := ⟨g, o + i * 6 + 4, none⟩) hg).trans x4
    have y5 := (hO2.old (a := ⟨g, o + i * 6 + 5, none⟩) hg).trans x5
    obtain ⟨Av, cv, rfl⟩ := hsv.form
    have z11 : w2.cell? ⟨B, 11, none⟩ = some (.slice (some ⟨g, o, none⟩) s.ds.length c11) := hO2.cell mem3 11
    have hne : g ≠ B + 1 + 1 + 1 := by have := hO2.ge List.mem_cons_self; omega
    have hi0 : (0 : Int) ≤ (i : Int) ∧ (i : Int) < (s.ds.length : Int) := by omega
    obtain ⟨c0, c1, c2, c3, c4, c5⟩ : w2.cell? ⟨B + 1 + 1 + 1, 0, none⟩ = some (.int .i64 0) ∧ w2.cell? ⟨B + 1 + 1 + 1, 1, none⟩ = some (.int .i64 0) ∧ w2.cell? ⟨B + 1 + 1 + 1, 2, none⟩ = some (.int .i64 0) ∧ w2.cell? ⟨B + 1 + 1 + 1, 3, none⟩ = some (.int .i64 0) ∧ w2.cell? ⟨B + 1 + 1 + 1, 4, none⟩ = some (.int .i64 0) ∧ w2.cell? ⟨B + 1 + 1 + 1, 5, none⟩ = some (.slice none 0 0) := ⟨hO2.cell List.mem_cons_self 0, hO2.cell List.mem_cons_self 1, hO2.cell List.mem_cons_self 2, hO2.cell List.mem_cons_self 3, hO2.cell List.mem_cons_self 4, hO2.cell List.mem_cons_self 5⟩
    have fz : ∀ j, w2.frozen? ⟨B + 1 + 1 + 1, j, none⟩ = false := fun j => hO2.frozen List.mem_cons_self j
    have f0 := fz 0
    have f1 := fz 1
    have f2 := fz 2
    have f3 := fz 3
    have f4 := fz 4
    have f5 := fz 5
    clear fz hO2 hn hi hc x0 x1 x2 x3 x4 x5 hsv e11 hlt hg
    go_wp2_with fail
    have h3 := own_all6 HO2.out (.int .i64 d.cpu) (.int .i64 d.op) (.int .i64 d.fr) (.int .i64 d.tp) (.int .i64 d.e) (.slice Av d.hs.length cv)
    clear c0 c1 c2 c3 c4 c5 f0 f1 f2 f3 f4 f5 y0 y1 y2 y3 y4 y5
    generalize (((((w2.setCell ⟨B + 1 + 1 + 1, 0, none⟩ (.int .i64 d.cpu)).setCell ⟨B + 1 + 1 + 1, 1, none⟩ (.int .i64 d.op)).setCell ⟨B + 1 + 1 + 1, 2, none⟩ (.int .i64 d.fr)).setCell ⟨B + 1 + 1 + 1, 3, none⟩ (.int .i64 d.tp)).setCell ⟨B + 1 + 1 + 1, 4, none⟩ (.int .i64 d.e)).setCell ⟨B + 1 + 1 + 1, 5, none⟩ (.slice Av d.hs.length cv) = w4 at h3 ⊢
    have c0 := h3.cell List.mem_cons_self 0
    have c1 := h3.cell List.mem_cons_self 1
    have c2 := h3.cell List.mem_cons_self 2
    have c3 := h3.cell List.mem_cons_self 3
    have c4 := h3.cell List.mem_cons_self 4
    have c5 := h3.cell List.mem_cons_self 5
    exact bodyPost_ret (v := .tuple #[ddAgg d (.slice Av d.hs.length cv), .bool true]) (by simp [results, Tryz.f11, go_sem, c0, c1, c2, c3, c4, c5]) rfl ⟨d, Av, d.hs.length, cv, true, rfl, Or.inl ⟨rfl, HN.out⟩, h3.sub (List.nil_sublist _)⟩
/-- what a box's cells are, where lengths are asked -/
theorem box_all {w : World} {B : Nat} {s : Sn} (h : BoxS w B s) : ∃ A1 c1 A2 c2 A3 c3 A4 c4 A5 c5 A6 c6 A7 c7 A8 c8 A9 c9 A10 c10 A11 c11,
    (w.cell? ⟨B, 0, none⟩ = some (.int .i64 s.now) ∧ w.cell? ⟨B, 1, none⟩ = some (.slice A1 s.depths.length c1) ∧ w.cell? ⟨B, 2, none⟩ = some (.slice A2 s.paths.length c2) ∧ w.cell? ⟨B, 3, none⟩ = some (.slice A3 s.used.length c3) ∧ w.cell? ⟨B, 4, none⟩ = some (.slice A4 s.most.length c4) ∧ w.cell? ⟨B, 5, none⟩ = some (.slice A5 s.owned.length c5) ∧ w.cell? ⟨B, 6, none⟩ = some (.slice A6 s.held.length c6) ∧ w.cell? ⟨B, 7, none⟩ = some (.slice A7 s.flies.length c7) ∧ w.cell? ⟨B, 8, none⟩ = some (.slice A8 s.tags.length c8) ∧ w.cell? ⟨B, 9, none⟩ = some (.slice A9 s.nc c9) ∧ w.cell? ⟨B, 10, none⟩ = some (.slice A10 s.hn.length c10) ∧ w.cell? ⟨B, 11, none⟩ = some (.slice A11 s.ds.length c11)) ∧
    PathsV w (.slice A2 s.paths.length c2) s.paths ∧ IntsB w (.slice A8 s.tags.length c8) s.tags ∧ HansV w (.slice A10 s.hn.length c10) s.hn ∧ DidsV w (.slice A11 s.ds.length c11) s.ds ∧
    SnapV w (.agg #[.int .i64 s.now, .slice A1 s.depths.length c1, .slice A2 s.paths.length c2, .slice A3 s.used.length c3, .slice A4 s.most.length c4, .slice A5 s.owned.length c5, .slice A6 s.held.length c6, .slice A7 s.flies.length c7, .slice A8 s.tags.length c8, .slice A9 s.nc c9, .slice A10 s.hn.length c10, .slice A11 s.ds.length c11]) s := by
  obtain ⟨v, hv⟩ := h.open_
  obtain ⟨A1, c1, e1⟩ := hv.v1.form
  obtain ⟨A2, c2, e2⟩ := hv.v2.form
  obtain ⟨A3, c3, e3⟩ := hv.v3.form
  obtain ⟨A4, c4, e4⟩ := hv.v4.form
  obtain ⟨A5, c5, e5⟩ := hv.v5.form
  obtain ⟨A6, c6, e6⟩ := hv.v6.form
  obtain ⟨A7, c7, e7⟩ := hv.v7.form
  obtain ⟨A8, c8, e8⟩ := hv.v8.form
  obtain ⟨A9, c9, e9⟩ := hv.v9.form
  obtain ⟨A10, c10, e10⟩ := hv.v10.form
  obtain ⟨A11, c11, e11⟩ := hv.v11.form
  have hs := hv.snap
  rw [e1, e2, e3, e4, e5, e6, e7, e8, e9, e10, e11] at hs
  exact ⟨A1, c1, A2, c2, A3, c3, A4, c4, A5, c5, A6, c6, A7, c7, A8, c8, A9, c9, A10, c10, A11, c11,
    ⟨(hv.at_ 0).trans (by rw [hv.v0]), (hv.at_ 1).trans (by rw [e1]), (hv.at_ 2).trans (by rw [e2]), (hv.at_ 3).trans (by rw [e3]), (hv.at_ 4).trans (by rw [e4]), (hv.at_ 5).trans (by rw [e5]), (hv.at_ 6).trans (by rw [e6]), (hv.at_ 7).trans (by rw [e7]), (hv.at_ 8).trans (by rw [e8]), (hv.at_ 9).trans (by rw [e9]), (hv.at_ 10).trans (by rw [e10]), (hv.at_ 11).trans (by rw [e11])⟩,
    e2 ▸ hv.v2, e8 ▸ hv.v8, e10 ▸ hv.v10, e11 ▸ hv.v11, hs⟩
end Go.Proofs.YthjjpmoifgcepaaGreat.Jh
