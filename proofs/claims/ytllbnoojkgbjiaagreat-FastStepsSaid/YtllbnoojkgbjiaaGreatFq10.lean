/-
  Texts of this claim, joined. No condition.
-/
import Derived.Test.YtllbnoojkgbjiaaGreatFq9
import Derived.Test.YtllbnoojkgbjiaaGreatFq8
/-
  Contract: a processor's slot (reader.slot). No condition.
-/
namespace Go.Proofs.YtllbnoojkgbjiaaGreat.See
open Go.RowKit
open chartPlaces (Ok)
attribute [local go_sem ↓] Go.wp_at_zero Go.wp_at_succ
section
variable {W w : World} {M m : List (Nat × Obj)} {B o N k b : Nat} {g : List Nat} {c : Ch} {d e : Int}
/-- what slot answers -/
def SlotPost (W : World) (m : List (Nat × Obj)) (r : Option SlotP) (e : Ending) (w' : World) : Prop := match r with
  | some x => ∃ lv lb pv pb, e = .returned (.tuple #[.agg #[.int .i64 x.slab, lv, .int .u64 x.turn, pv], .bool true]) ∧ Hid (IntsOwn true lv x.list lb) ∧ Hid (IntsOwn true pv x.parts pb) ∧ Own W (lb ++ (pb ++ m)) w'
  | none => e = .returned (.tuple #[.agg #[.int .i64 0, .slice none 0 0, .int .u64 0, .slice none 0 0], .bool false]) ∧ Own W m w'
/-- a slot's block -/
def sBlk (b : Nat) (s : Int) (lv : Value) (t : Int) (pv : Value) : Nat × Obj := (b, .cells #[.int .i64 s, lv, .int .u64 t, pv] 105)
theorem box4 {s t : Int} {lv pv : Value} (h : Own W (sBlk b s lv t pv :: m) w) : (w.cell? ⟨b, 0, none⟩ = some (.int .i64 s) ∧ w.cell? ⟨b, 1, none⟩ = some lv ∧ w.cell? ⟨b, 2, none⟩ = some (.int .u64 t) ∧ w.cell? ⟨b, 3, none⟩ = some pv) ∧ (w.frozen? ⟨b, 0, none⟩ = false ∧ w.frozen? ⟨b, 1, none⟩ = false ∧ w.frozen? ⟨b, 2, none⟩ = false ∧ w.frozen? ⟨b, 3, none⟩ = false) :=
  ⟨⟨h.cell List.mem_cons_self 0, h.cell List.mem_cons_self 1, h.cell List.mem_cons_self 2, h.cell List.mem_cons_self 3⟩, ⟨h.frozen List.mem_cons_self 0, h.frozen List.mem_cons_self 1, h.frozen List.mem_cons_self 2, h.frozen List.mem_cons_self 3⟩⟩
theorem slot_perm {α : Type} (b6 lb : List α) (x y : α) (m : List α) : (b6 ++ (lb ++ (x :: y :: m))).Perm (x :: (y :: (b6 ++ (lb ++ m)))) := by
  have h1 : (b6 ++ (lb ++ (x :: y :: m))).Perm (x :: (b6 ++ (lb ++ (y :: m)))) := by
    rw [← List.append_assoc, ← List.append_assoc]
    exact List.perm_middle
  refine h1.trans (List.Perm.cons x ?_)
  rw [← List.append_assoc, ← List.append_assoc]
  exact List.perm_middle
theorem sset {b : Nat} {s t s' t' : Int} {lv pv lv' pv' : Value} (h : Own W (sBlk b s lv t pv :: m) w) : Own W (sBlk b s' lv' t' pv' :: m) ((((w.setCell ⟨b, 0, none⟩ (.int .i64 s')).setCell ⟨b, 1, none⟩ lv').setCell ⟨b, 2, none⟩ (.int .u64 t')).setCell ⟨b, 3, none⟩ pv') := by
  have h1 := (((h.set 0 (.int .i64 s')).set 1 lv').set 2 (.int .u64 t')).set 3 pv'
  exact h1
theorem sset1 {b : Nat} {s t : Int} {lv pv lv' : Value} (h : Own W (sBlk b s lv t pv :: m) w) : Own W (sBlk b s lv' t pv :: m) (w.setCell ⟨b, 1, none⟩ lv') := h.set 1 lv'
theorem sset3 {b : Nat} {s t : Int} {lv pv pv' : Value} (h : Own W (sBlk b s lv t pv :: m) w) : Own W (sBlk b s lv t pv' :: m) (w.setCell ⟨b, 3, none⟩ pv') := h.set 3 pv'
set_option maxRecDepth 100000 in
set_option maxHeartbeats 4000000 in
theorem rslot_spec (h : Own W m w) (hc : COk c d e) (hw : WOk W m B o N k g c) (i : Nat) (hi : i < c.C) :
    Calls Tryz.prog 88 #[rV B o N k c d e, .int .i64 i] w (SlotPost W m (slotP c g i)) := by
  obtain ⟨n1, n2, n3, n4, n5, n6⟩ := hc.nums
  have h1 := (h.new (.cells #[.slice (some ⟨B, o, none⟩) N k, .int .i64 c.C, .int .i64 c.S, .int .i64 c.O, .int .i64 d, .int .i64 e, .int .u64 c.key] 122)).new (.cells #[.int .i64 0, .slice none 0 0, .int .u64 0, .slice none 0 0] 105)
  obtain ⟨b, hb⟩ : ∃ b, w.heap.size = b := ⟨_, rfl⟩
  simp only [World.size_alloc] at h1
  rw [hb] at h1
  have h1 : Own W (sBlk (b + 1) 0 (.slice none 0 0) 0 (.slice none 0 0) :: (rBlk b B o N k c d e :: m)) _ := h1
  obtain ⟨y0, y1, y2, y3, y4, y5, y6⟩ := box7 h1.skip
  have hN := hw.n
  unfold Ch.words at hN
  have hii : 0 ≤ (i : Int) ∧ (i : Int) < (c.C : Int) := by omega
  obtain ⟨p, hp⟩ : ∃ p : Nat, 4 * i = p := ⟨_, rfl⟩
  have hpi : 4 * (i : Int) = (p : Int) := by omega
  have HPI := Lib.hid hpi
  have hpN : p + 2 < N := by omega
  have hpb : p ≤ 32 := by omega
  have hp0 : (0 : Int) ≤ (p : Int) := by omega
  have hp1 : (p : Int) < (N : Int) := by omega
  have hp2 : (p : Int) + 1 < (N : Int) := by omega
  have hp3 : (p : Int) + 2 < (N : Int) := by omega
  obtain ⟨x0, hx0⟩ : ∃ x, g[p]? = some x := ⟨_, List.getElem?_eq_getElem (by rw [hw.len]; omega)⟩
  obtain ⟨x1, hx1⟩ : ∃ x, g[p + 1]? = some x := ⟨_, List.getElem?_eq_getElem (by rw [hw.len]; omega)⟩
  obtain ⟨p2, hpp2⟩ : ∃ p2 : Nat, p + 2 = p2 := ⟨_, rfl⟩
  have hp6 : (0 : Int) ≤ (p2 : Int) := by omega
  have hp7 : (p2 : Int) < (N : Int) := by omega
  have hw2 : IntKind.i64.wrap ((p : Int) + 2) = (p2 : Int) := by rw [IntWalk.i64_in] <;> omega
  obtain ⟨x2, hx2⟩ : ∃ x, g[p2]? = some x := ⟨_, List.getElem?_eq_getElem (by rw [hw.len]; omega)⟩
  have a0 : at_ g (4 * i) = x0 := by unfold at_; rw [hp, List.getD_eq_getElem?_getD, hx0]; rfl
  have a1 : at_ g (4 * i + 1) = x1 := by unfold at_; rw [hp, List.getD_eq_getElem?_getD, hx1]; rfl
  have a2 : at_ g (4 * i + 2) = x2 := by unfold at_; rw [hp, hpp2, List.getD_eq_getElem?_getD, hx2]; rfl
  have hBlt : B < w.heap.size := World.block_lt_of_cell? w _ (hw.rd w h p x0 hx0)
  rw [hb] at hBlt
  have hBn1 : B ≠ b + 1 := by omega
  have hBn2 : b + 1 ≠ B := by omega
  have hbn1 : b ≠ b + 1 := by omega
  have hbn2 : b + 1 ≠ b := by omega
  have hp4 : (0 : Int) ≤ (p : Int) + 2 := by omega
  have hp5 : (0 : Int) ≤ (p : Int) + 1 := by omega
  have hho := fun w => headOf_spec x0 (hw.w64 x0 (List.mem_of_getElem? hx0)) w
  have HX2 : Hid (x2 < 18446744073709551616) := hw.w64 x2 (List.mem_of_getElem? hx2)
  have HG : Hid (∀ ws, Own W m ws → ws.cell? ⟨B, o + p, none⟩ = some (.int .u64 (x0 : Int)) ∧ ws.cell? ⟨B, o + (p + 1), none⟩ = some (.int .u64 (x1 : Int)) ∧ ws.cell? ⟨B, o + p2, none⟩ = some (.int .u64 (x2 : Int))) := fun ws hws => ⟨hw.rd ws hws p x0 hx0, hw.rd ws hws (p + 1) x1 hx1, hw.rd ws hws p2 x2 hx2⟩
  unfold slotP
  rw [a0, a1, a2]
  unfold headV at hho
  have HC := Lib.hid hc
  have HW := Lib.hid hw
  have HI := Lib.hid hii
  have H1 := Lib.hid h1
  clear hpp2 hp3 hN hp hpi hx0 hx1 hx2 a0 a1 a2 hw hc hii h1 h
  obtain ⟨q0, q1, q2⟩ := HG.out _ H1.out.skip.skip
  cases hh : headOf x0 with
  | none =>
    rw [hh] at hho
    have HH := Lib.hid hho
    clear hh hho
    unfold rV
    go_enter Tryz.func88, Tryz.ntmps88
    go_wp2_with fail
    refine (Apart.head_ok HC.out.ok HI.out H1.out).mono ?_
    rintro r w2 ⟨rfl, h2⟩
    rw [HPI.out]
    clear y0 y1 y2 y3 y4 y5 y6 q0 q1 q2
    obtain ⟨y0, y1, y2, y3, y4, y5, y6⟩ := box7 h2.skip
    obtain ⟨q0, q1, q2⟩ := HG.out _ h2.skip.skip
    obtain ⟨⟨z0, z1, z2, z3⟩, ⟨f0, f1, f2, f3⟩⟩ := box4 h2
-- BODY
    go_wp2_with (go_at_call 94; refine (HH.out _).mono ?_; rintro r w3 ⟨rfl, rfl⟩)
    have h9 := sset (s' := 0) (lv' := .slice none 0 0) (t' := 0) (pv' := .slice none 0 0) h2
    obtain ⟨⟨e0, e1, e2, e3⟩, -⟩ := box4 h9
    exact bodyPost_ret (v := .tuple #[.agg #[.int .i64 0, .slice none 0 0, .int .u64 0, .slice none 0 0], .bool false]) (by simp [results, Tryz.f88, go_sem, e0, e1, e2, e3]) rfl ⟨rfl, h9.skip.skip⟩
  | some v =>
    obtain ⟨s, ob⟩ := v
    rw [hh] at hho
    have hge := headOf_ge hh
    simp only at hho ⊢
    have HH := Lib.hid hho
    clear hh hho
    by_cases hsS : (c.S : Int) ≤ s
    · have hlp : listP c g s ob = none := by
        unfold listP
        rw [if_neg (by omega)]
      rw [if_neg (by omega), hlp]
      simp only
      clear hlp hge
      unfold rV
      go_enter Tryz.func88, Tryz.ntmps88
      go_wp2_with fail
      refine (Apart.head_ok HC.out.ok HI.out H1.out).mono ?_
      rintro r w2 ⟨rfl, h2⟩
      rw [HPI.out]
      clear y0 y1 y2 y3 y4 y5 y6 q0 q1 q2
      obtain ⟨y0, y1, y2, y3, y4, y5, y6⟩ := box7 h2.skip
      obtain ⟨q0, q1, q2⟩ := HG.out _ h2.skip.skip
      obtain ⟨⟨z0, z1, z2, z3⟩, ⟨f0, f1, f2, f3⟩⟩ := box4 h2
      go_wp2_with (go_at_call 94; refine (HH.out _).mono ?_; rintro r w3 ⟨rfl, rfl⟩)
      have h9 := sset (s' := 0) (lv' := .slice none 0 0) (t' := 0) (pv' := .slice none 0 0) h2
      obtain ⟨⟨e0, e1, e2, e3⟩, -⟩ := box4 h9
      exact bodyPost_ret (v := .tuple #[.agg #[.int .i64 0, .slice none 0 0, .int .u64 0, .slice none 0 0], .bool false]) (by simp [results, Tryz.f88, go_sem, e0, e1, e2, e3]) rfl ⟨rfl, h9.skip.skip⟩
    · have hsn : ¬ (c.S : Int) ≤ s := hsS
      by_cases hm1 : s = -1
      · subst hm1
        rw [if_pos rfl]
        simp only
        clear hge
        cases hpp : partsP c g x2 with
        | none =>
          simp only
          have HPP := Lib.hid hpp
          clear hpp
          unfold rV
          go_enter Tryz.func88, Tryz.ntmps88
          go_wp2_with fail
          refine (Apart.head_ok HC.out.ok HI.out H1.out).mono ?_
          rintro r w2 ⟨rfl, h2⟩
          rw [HPI.out]
          clear y0 y1 y2 y3 y4 y5 y6 q0 q1 q2
          obtain ⟨y0, y1, y2, y3, y4, y5, y6⟩ := box7 h2.skip
          obtain ⟨q0, q1, q2⟩ := HG.out _ h2.skip.skip
          obtain ⟨⟨z0, z1, z2, z3⟩, ⟨f0, f1, f2, f3⟩⟩ := box4 h2
          go_wp2_with (go_at_call 94; refine (HH.out _).mono ?_; rintro r w3 ⟨rfl, rfl⟩)
          have h5 := sset (s' := -1) (lv' := .slice none 0 0) (t' := (x1 : Int)) (pv' := .slice none 0 0) h2
          obtain ⟨w5, hw5⟩ : ∃ w5, (((w2.setCell ⟨b + 1, 0, none⟩ (.int .i64 (-1))).setCell ⟨b + 1, 1, none⟩ (.slice none 0 0)).setCell ⟨b + 1, 2, none⟩ (.int .u64 (x1 : Int))).setCell ⟨b + 1, 3, none⟩ (.slice none 0 0) = w5 := ⟨_, rfl⟩
          rw [hw5] at h5 ⊢
          have H5 : Hid (Own W (([] : List (Nat × Obj)) ++ (sBlk (b + 1) (-1) (.slice none 0 0) x1 (.slice none 0 0) :: (rBlk b B o N k c d e :: m))) w5) := h5
          clear h5 hw5 y0 y1 y2 y3 y4 y5 y6 q0 q1 q2 z0 z1 z2 z3 f0 f1 f2 f3 h2
          have hch := fun ws (hws : Own W ([] ++ (sBlk (b + 1) (-1) (.slice none 0 0) x1 (.slice none 0 0) :: (rBlk b B o N k c d e :: m))) ws) => rchain_p hws HC.out (((HW.out.more (m' := [rBlk b B o N k c d e])).more (m' := [sBlk (b + 1) (-1) (.slice none 0 0) x1 (.slice none 0 0)])).more (m' := [])) x2 HX2.out
          have hpe : chain ofP (nextAt c g) c.S (c.S + 1) [] x2 = partsP c g x2 := rfl
          rw [hpe, HPP.out] at hch
          have h5 := H5.out
          have hw5 := h5.dropL
          obtain ⟨y0, y1, y2, y3, y4, y5, y6⟩ := box7 hw5.skip
          obtain ⟨q0, q1, q2⟩ := HG.out _ hw5.skip.skip
          obtain ⟨⟨z0, z1, z2, z3⟩, ⟨f0, f1, f2, f3⟩⟩ := box4 hw5
          have HCH := Lib.hid hch
          clear hpe hch h5 hw5
          go_region_held3 (fun w' => w'.cell? ⟨b, 0, none⟩ = some (.slice (some ⟨B, o, none⟩) N k) ∧ w'.cell? ⟨b, 1, none⟩ = some (.int .i64 c.C) ∧ w'.cell? ⟨b, 2, none⟩ = some (.int .i64 c.S) ∧ w'.cell? ⟨b, 3, none⟩ = some (.int .i64 c.O) ∧ w'.cell? ⟨b, 4, none⟩ = some (.int .i64 d) ∧ w'.cell? ⟨b, 5, none⟩ = some (.int .i64 e) ∧ w'.cell? ⟨b, 6, none⟩ = some (.int .u64 c.key) ∧ w'.cell? ⟨B, o + p2, none⟩ = some (.int .u64 (x2 : Int))) (first | (refine ⟨?_, ?_, ?_, ?_, ?_, ?_, ?_, ?_⟩ <;> assumption) | go_keep)
            (first | (go_at_call 89; refine (HCH.out _ H5.out.drew).mono ?_; rintro r w6 ⟨rfl, h6⟩; have h7 := h6.dropL; obtain ⟨y0, y1, y2, y3, y4, y5, y6⟩ := box7 h7.skip; obtain ⟨q0, q1, q2⟩ := HG.out _ h7.skip.skip; obtain ⟨⟨z0, z1, z2, z3⟩, ⟨f0, f1, f2, f3⟩⟩ := box4 h7))
          have h8 := sset3 (pv' := .slice none 0 0) h7
          obtain ⟨w8, hw8⟩ : ∃ w8, w6.setCell ⟨b + 1, 3, none⟩ (.slice none 0 0) = w8 := ⟨_, rfl⟩
          rw [hw8] at h8 ⊢
          clear y0 y1 y2 y3 y4 y5 y6 q0 q1 q2 z0 z1 z2 z3 f0 f1 f2 f3 hw8
          obtain ⟨⟨z0, z1, z2, z3⟩, ⟨f0, f1, f2, f3⟩⟩ := box4 h8
          go_wp2_with fail
          have h9 := sset (s' := 0) (lv' := .slice none 0 0) (t' := 0) (pv' := .slice none 0 0) h8
          obtain ⟨⟨e0, e1, e2, e3⟩, -⟩ := box4 h9
          exact bodyPost_ret (v := .tuple #[.agg #[.int .i64 0, .slice none 0 0, .int .u64 0, .slice none 0 0], .bool false]) (by simp [results, Tryz.f88, go_sem, e0, e1, e2, e3]) rfl ⟨rfl, h9.skip.skip⟩
        | some l2 =>
          simp only
          have HPP := Lib.hid hpp
          clear hpp
          unfold rV
          go_enter Tryz.func88, Tryz.ntmps88
          go_wp2_with fail
          refine (Apart.head_ok HC.out.ok HI.out H1.out).mono ?_
          rintro r w2 ⟨rfl, h2⟩
          rw [HPI.out]
          clear y0 y1 y2 y3 y4 y5 y6 q0 q1 q2
          obtain ⟨y0, y1, y2, y3, y4, y5, y6⟩ := box7 h2.skip
          obtain ⟨q0, q1, q2⟩ := HG.out _ h2.skip.skip
          obtain ⟨⟨z0, z1, z2, z3⟩, ⟨f0, f1, f2, f3⟩⟩ := box4 h2
          go_wp2_with (go_at_call 94; refine (HH.out _).mono ?_; rintro r w3 ⟨rfl, rfl⟩)
          have h5 := sset (s' := -1) (lv' := .slice none 0 0) (t' := (x1 : Int)) (pv' := .slice none 0 0) h2
          obtain ⟨w5, hw5⟩ : ∃ w5, (((w2.setCell ⟨b + 1, 0, none⟩ (.int .i64 (-1))).setCell ⟨b + 1, 1, none⟩ (.slice none 0 0)).setCell ⟨b + 1, 2, none⟩ (.int .u64 (x1 : Int))).setCell ⟨b + 1, 3, none⟩ (.slice none 0 0) = w5 := ⟨_, rfl⟩
          rw [hw5] at h5 ⊢
          have H5 : Hid (Own W (([] : List (Nat × Obj)) ++ (sBlk (b + 1) (-1) (.slice none 0 0) x1 (.slice none 0 0) :: (rBlk b B o N k c d e :: m))) w5) := h5
          clear h5 hw5 y0 y1 y2 y3 y4 y5 y6 q0 q1 q2 z0 z1 z2 z3 f0 f1 f2 f3 h2
          have hch := fun ws (hws : Own W ([] ++ (sBlk (b + 1) (-1) (.slice none 0 0) x1 (.slice none 0 0) :: (rBlk b B o N k c d e :: m))) ws) => rchain_p hws HC.out (((HW.out.more (m' := [rBlk b B o N k c d e])).more (m' := [sBlk (b + 1) (-1) (.slice none 0 0) x1 (.slice none 0 0)])).more (m' := [])) x2 HX2.out
          have hpe : chain ofP (nextAt c g) c.S (c.S + 1) [] x2 = partsP c g x2 := rfl
          rw [hpe, HPP.out] at hch
          have h5 := H5.out
          have hw5 := h5.dropL
          obtain ⟨y0, y1, y2, y3, y4, y5, y6⟩ := box7 hw5.skip
          obtain ⟨q0, q1, q2⟩ := HG.out _ hw5.skip.skip
          obtain ⟨⟨z0, z1, z2, z3⟩, ⟨f0, f1, f2, f3⟩⟩ := box4 hw5
          have HCH := Lib.hid hch
          clear hpe hch h5 hw5
          go_region_held3 (fun w' => w'.cell? ⟨b, 0, none⟩ = some (.slice (some ⟨B, o, none⟩) N k) ∧ w'.cell? ⟨b, 1, none⟩ = some (.int .i64 c.C) ∧ w'.cell? ⟨b, 2, none⟩ = some (.int .i64 c.S) ∧ w'.cell? ⟨b, 3, none⟩ = some (.int .i64 c.O) ∧ w'.cell? ⟨b, 4, none⟩ = some (.int .i64 d) ∧ w'.cell? ⟨b, 5, none⟩ = some (.int .i64 e) ∧ w'.cell? ⟨b, 6, none⟩ = some (.int .u64 c.key) ∧ w'.cell? ⟨B, o + p2, none⟩ = some (.int .u64 (x2 : Int))) (first | (refine ⟨?_, ?_, ?_, ?_, ?_, ?_, ?_, ?_⟩ <;> assumption) | go_keep)
            (first | (go_at_call 89; refine (HCH.out _ H5.out.drew).mono ?_; rintro r w6 ⟨v6, b6, rfl, K6, h6⟩; obtain ⟨A6, c6, hv6, -, -⟩ := K6.out.slice; subst hv6; have h7 := h6.dropL.dropL; obtain ⟨y0, y1, y2, y3, y4, y5, y6⟩ := box7 h7.skip; obtain ⟨q0, q1, q2⟩ := HG.out _ h7.skip.skip; obtain ⟨⟨z0, z1, z2, z3⟩, ⟨f0, f1, f2, f3⟩⟩ := box4 h7))
          have hq : Own W (sBlk (b + 1) (-1) (.slice none 0 0) x1 (.slice none 0 0) :: (rBlk b B o N k c d e :: (b6 ++ ([] ++ m)))) w6 := h6.perm (slot_perm _ _ _ _ _)
          have h8 := sset3 (pv' := .slice A6 l2.length c6) hq
          obtain ⟨w8, hw8⟩ : ∃ w8, w6.setCell ⟨b + 1, 3, none⟩ (.slice A6 l2.length c6) = w8 := ⟨_, rfl⟩
          rw [hw8] at h8 ⊢
          clear y0 y1 y2 y3 y4 y5 y6 q0 q1 q2 z0 z1 z2 z3 f0 f1 f2 f3 hw8
          obtain ⟨⟨z0, z1, z2, z3⟩, ⟨f0, f1, f2, f3⟩⟩ := box4 h8
          go_wp2_with fail
          have h9 := sset (s' := (-1)) (lv' := (.slice none 0 0)) (t' := (x1 : Int)) (pv' := .slice A6 l2.length c6) h8
          obtain ⟨⟨e0, e1, e2, e3⟩, -⟩ := box4 h9
          exact bodyPost_ret (v := .tuple #[.agg #[.int .i64 (-1), (.slice none 0 0), .int .u64 x1, .slice A6 l2.length c6], .bool true]) (by simp [results, Tryz.f88, go_sem, e0, e1, e2, e3]) rfl ⟨(.slice none 0 0), [], _, b6, rfl, SlO.nil _ _ _, K6, (h9.skip.skip).swap⟩
      · rw [if_neg hm1]
        have hsb : (s == -1) = false := beq_eq_false_iff_ne.2 hm1
        obtain ⟨j, rfl⟩ : ∃ j : Nat, s = j := ⟨s.toNat, by omega⟩
        have hjS : j < c.S := by omega
        have hob : -1 ≤ ob := by omega
        have hrl := fun ws (hws : Own W (sBlk (b + 1) j (.slice none 0 0) x1 (.slice none 0 0) :: (rBlk b B o N k c d e :: m)) ws) => rlist_spec hws HC.out ((HW.out.more (m' := [rBlk b B o N k c d e])).more (m' := [sBlk (b + 1) j (.slice none 0 0) x1 (.slice none 0 0)])) j hjS ob hob
        clear hge
        cases hl : listP c g j ob with
        | none =>
          rw [hl] at hrl
          have HRL := Lib.hid hrl
          simp only
          clear hl hrl
          unfold rV
          go_enter Tryz.func88, Tryz.ntmps88
          go_wp2_with fail
          refine (Apart.head_ok HC.out.ok HI.out H1.out).mono ?_
          rintro r w2 ⟨rfl, h2⟩
          rw [HPI.out]
          clear y0 y1 y2 y3 y4 y5 y6 q0 q1 q2
          obtain ⟨y0, y1, y2, y3, y4, y5, y6⟩ := box7 h2.skip
          obtain ⟨q0, q1, q2⟩ := HG.out _ h2.skip.skip
          obtain ⟨⟨z0, z1, z2, z3⟩, ⟨f0, f1, f2, f3⟩⟩ := box4 h2
          go_wp2_with (go_at_call 94; refine (HH.out _).mono ?_; rintro r w3 ⟨rfl, rfl⟩)
          have h5 := sset (s' := (j : Int)) (lv' := .slice none 0 0) (t' := (x1 : Int)) (pv' := .slice none 0 0) h2
          refine (HRL.out _ h5).mono ?_
          rintro r w6 ⟨rfl, h6⟩
          clear y0 y1 y2 y3 y4 y5 y6 q0 q1 q2 z0 z1 z2 z3 f0 f1 f2 f3 h2
          obtain ⟨⟨z0, z1, z2, z3⟩, ⟨f0, f1, f2, f3⟩⟩ := box4 h6
          go_wp2_with fail
          have h8 := sset1 (lv' := .slice none 0 0) h6
          have h9 := sset (s' := 0) (lv' := .slice none 0 0) (t' := 0) (pv' := .slice none 0 0) h8
          obtain ⟨⟨e0, e1, e2, e3⟩, -⟩ := box4 h9
          exact bodyPost_ret (v := .tuple #[.agg #[.int .i64 0, .slice none 0 0, .int .u64 0, .slice none 0 0], .bool false]) (by simp [results, Tryz.f88, go_sem, e0, e1, e2, e3]) rfl ⟨rfl, h9.skip.skip⟩
        | some l1 =>
          rw [hl] at hrl
          have HRL := Lib.hid hrl
          simp only
          clear hl hrl
          cases hpp : partsP c g x2 with
          | none =>
            simp only
            have HPP := Lib.hid hpp
            clear hpp
            unfold rV
            go_enter Tryz.func88, Tryz.ntmps88
            go_wp2_with fail
            refine (Apart.head_ok HC.out.ok HI.out H1.out).mono ?_
            rintro r w2 ⟨rfl, h2⟩
            rw [HPI.out]
            clear y0 y1 y2 y3 y4 y5 y6 q0 q1 q2
            obtain ⟨y0, y1, y2, y3, y4, y5, y6⟩ := box7 h2.skip
            obtain ⟨q0, q1, q2⟩ := HG.out _ h2.skip.skip
            obtain ⟨⟨z0, z1, z2, z3⟩, ⟨f0, f1, f2, f3⟩⟩ := box4 h2
            go_wp2_with (go_at_call 94; refine (HH.out _).mono ?_; rintro r w3 ⟨rfl, rfl⟩)
            have h5 := sset (s' := (j : Int)) (lv' := .slice none 0 0) (t' := (x1 : Int)) (pv' := .slice none 0 0) h2
            refine (HRL.out _ h5).mono ?_
            rintro r w6 ⟨v7, b7, rfl, K7, h6⟩
            obtain ⟨A7, c7, hv7, -, -⟩ := K7.out.slice
            subst hv7
            clear y0 y1 y2 y3 y4 y5 y6 q0 q1 q2 z0 z1 z2 z3 f0 f1 f2 f3 h2
            have h7 : Own W (sBlk (b + 1) j (.slice none 0 0) x1 (.slice none 0 0) :: (b7 ++ (rBlk b B o N k c d e :: m))) w6 := h6.perm List.perm_middle
            obtain ⟨⟨z0, z1, z2, z3⟩, ⟨f0, f1, f2, f3⟩⟩ := box4 h7
            have h8 := sset1 (lv' := .slice A7 l1.length c7) h7
            obtain ⟨w5, hw5⟩ : ∃ w5, w6.setCell ⟨b + 1, 1, none⟩ (.slice A7 l1.length c7) = w5 := ⟨_, rfl⟩
            have H5 : Hid (Own W (b7 ++ (sBlk (b + 1) j (.slice A7 l1.length c7) x1 (.slice none 0 0) :: (rBlk b B o N k c d e :: m))) w5) := by rw [hw5] at h8; exact h8.perm List.perm_middle.symm
            go_wp2_with fail
            clear h6 h7 h8 hw5 z0 z1 z2 z3 f0 f1 f2 f3
            have hch := fun ws (hws : Own W (b7 ++ (sBlk (b + 1) (j) (.slice A7 l1.length c7) x1 (.slice none 0 0) :: (rBlk b B o N k c d e :: m))) ws) => rchain_p hws HC.out (((HW.out.more (m' := [rBlk b B o N k c d e])).more (m' := [sBlk (b + 1) (j) (.slice A7 l1.length c7) x1 (.slice none 0 0)])).more (m' := b7)) x2 HX2.out
            have hpe : chain ofP (nextAt c g) c.S (c.S + 1) [] x2 = partsP c g x2 := rfl
            rw [hpe, HPP.out] at hch
            have h5 := H5.out
            have hw5 := h5.dropL
            obtain ⟨y0, y1, y2, y3, y4, y5, y6⟩ := box7 hw5.skip
            obtain ⟨q0, q1, q2⟩ := HG.out _ hw5.skip.skip
            obtain ⟨⟨z0, z1, z2, z3⟩, ⟨f0, f1, f2, f3⟩⟩ := box4 hw5
            have HCH := Lib.hid hch
            clear hpe hch h5 hw5
            go_region_held3 (fun w' => w'.cell? ⟨b, 0, none⟩ = some (.slice (some ⟨B, o, none⟩) N k) ∧ w'.cell? ⟨b, 1, none⟩ = some (.int .i64 c.C) ∧ w'.cell? ⟨b, 2, none⟩ = some (.int .i64 c.S) ∧ w'.cell? ⟨b, 3, none⟩ = some (.int .i64 c.O) ∧ w'.cell? ⟨b, 4, none⟩ = some (.int .i64 d) ∧ w'.cell? ⟨b, 5, none⟩ = some (.int .i64 e) ∧ w'.cell? ⟨b, 6, none⟩ = some (.int .u64 c.key) ∧ w'.cell? ⟨B, o + p2, none⟩ = some (.int .u64 (x2 : Int))) (first | (refine ⟨?_, ?_, ?_, ?_, ?_, ?_, ?_, ?_⟩ <;> assumption) | go_keep)
              (first | (go_at_call 89; refine (HCH.out _ H5.out.drew).mono ?_; rintro r w6 ⟨rfl, h6⟩; have h7 := h6.dropL; obtain ⟨y0, y1, y2, y3, y4, y5, y6⟩ := box7 h7.skip; obtain ⟨q0, q1, q2⟩ := HG.out _ h7.skip.skip; obtain ⟨⟨z0, z1, z2, z3⟩, ⟨f0, f1, f2, f3⟩⟩ := box4 h7))
            have h8 := sset3 (pv' := .slice none 0 0) h7
            obtain ⟨w8, hw8⟩ : ∃ w8, w6.setCell ⟨b + 1, 3, none⟩ (.slice none 0 0) = w8 := ⟨_, rfl⟩
            rw [hw8] at h8 ⊢
            clear y0 y1 y2 y3 y4 y5 y6 q0 q1 q2 z0 z1 z2 z3 f0 f1 f2 f3 hw8
            obtain ⟨⟨z0, z1, z2, z3⟩, ⟨f0, f1, f2, f3⟩⟩ := box4 h8
            go_wp2_with fail
            have h9 := sset (s' := 0) (lv' := .slice none 0 0) (t' := 0) (pv' := .slice none 0 0) h8
            obtain ⟨⟨e0, e1, e2, e3⟩, -⟩ := box4 h9
            exact bodyPost_ret (v := .tuple #[.agg #[.int .i64 0, .slice none 0 0, .int .u64 0, .slice none 0 0], .bool false]) (by simp [results, Tryz.f88, go_sem, e0, e1, e2, e3]) rfl ⟨rfl, h9.skip.skip⟩
          | some l2 =>
            simp only
            have HPP := Lib.hid hpp
            clear hpp
            unfold rV
            go_enter Tryz.func88, Tryz.ntmps88
            go_wp2_with fail
            refine (Apart.head_ok HC.out.ok HI.out H1.out).mono ?_
            rintro r w2 ⟨rfl, h2⟩
            rw [HPI.out]
            clear y0 y1 y2 y3 y4 y5 y6 q0 q1 q2
            obtain ⟨y0, y1, y2, y3, y4, y5, y6⟩ := box7 h2.skip
            obtain ⟨q0, q1, q2⟩ := HG.out _ h2.skip.skip
            obtain ⟨⟨z0, z1, z2, z3⟩, ⟨f0, f1, f2, f3⟩⟩ := box4 h2
            go_wp2_with (go_at_call 94; refine (HH.out _).mono ?_; rintro r w3 ⟨rfl, rfl⟩)
            have h5 := sset (s' := (j : Int)) (lv' := .slice none 0 0) (t' := (x1 : Int)) (pv' := .slice none 0 0) h2
            refine (HRL.out _ h5).mono ?_
            rintro r w6 ⟨v7, b7, rfl, K7, h6⟩
            obtain ⟨A7, c7, hv7, -, -⟩ := K7.out.slice
            subst hv7
            clear y0 y1 y2 y3 y4 y5 y6 q0 q1 q2 z0 z1 z2 z3 f0 f1 f2 f3 h2
            have h7 : Own W (sBlk (b + 1) j (.slice none 0 0) x1 (.slice none 0 0) :: (b7 ++ (rBlk b B o N k c d e :: m))) w6 := h6.perm List.perm_middle
            obtain ⟨⟨z0, z1, z2, z3⟩, ⟨f0, f1, f2, f3⟩⟩ := box4 h7
            have h8 := sset1 (lv' := .slice A7 l1.length c7) h7
            obtain ⟨w5, hw5⟩ : ∃ w5, w6.setCell ⟨b + 1, 1, none⟩ (.slice A7 l1.length c7) = w5 := ⟨_, rfl⟩
            have H5 : Hid (Own W (b7 ++ (sBlk (b + 1) j (.slice A7 l1.length c7) x1 (.slice none 0 0) :: (rBlk b B o N k c d e :: m))) w5) := by rw [hw5] at h8; exact h8.perm List.perm_middle.symm
            go_wp2_with fail
            clear h6 h7 h8 hw5 z0 z1 z2 z3 f0 f1 f2 f3
            have hch := fun ws (hws : Own W (b7 ++ (sBlk (b + 1) (j) (.slice A7 l1.length c7) x1 (.slice none 0 0) :: (rBlk b B o N k c d e :: m))) ws) => rchain_p hws HC.out (((HW.out.more (m' := [rBlk b B o N k c d e])).more (m' := [sBlk (b + 1) (j) (.slice A7 l1.length c7) x1 (.slice none 0 0)])).more (m' := b7)) x2 HX2.out
            have hpe : chain ofP (nextAt c g) c.S (c.S + 1) [] x2 = partsP c g x2 := rfl
            rw [hpe, HPP.out] at hch
            have h5 := H5.out
            have hw5 := h5.dropL
            obtain ⟨y0, y1, y2, y3, y4, y5, y6⟩ := box7 hw5.skip
            obtain ⟨q0, q1, q2⟩ := HG.out _ hw5.skip.skip
            obtain ⟨⟨z0, z1, z2, z3⟩, ⟨f0, f1, f2, f3⟩⟩ := box4 hw5
            have HCH := Lib.hid hch
            clear hpe hch h5 hw5
            go_region_held3 (fun w' => w'.cell? ⟨b, 0, none⟩ = some (.slice (some ⟨B, o, none⟩) N k) ∧ w'.cell? ⟨b, 1, none⟩ = some (.int .i64 c.C) ∧ w'.cell? ⟨b, 2, none⟩ = some (.int .i64 c.S) ∧ w'.cell? ⟨b, 3, none⟩ = some (.int .i64 c.O) ∧ w'.cell? ⟨b, 4, none⟩ = some (.int .i64 d) ∧ w'.cell? ⟨b, 5, none⟩ = some (.int .i64 e) ∧ w'.cell? ⟨b, 6, none⟩ = some (.int .u64 c.key) ∧ w'.cell? ⟨B, o + p2, none⟩ = some (.int .u64 (x2 : Int))) (first | (refine ⟨?_, ?_, ?_, ?_, ?_, ?_, ?_, ?_⟩ <;> assumption) | go_keep)
              (first | (go_at_call 89; refine (HCH.out _ H5.out.drew).mono ?_; rintro r w6 ⟨v6, b6, rfl, K6, h6⟩; obtain ⟨A6, c6, hv6, -, -⟩ := K6.out.slice; subst hv6; have h7 := h6.dropL.dropL; obtain ⟨y0, y1, y2, y3, y4, y5, y6⟩ := box7 h7.skip; obtain ⟨q0, q1, q2⟩ := HG.out _ h7.skip.skip; obtain ⟨⟨z0, z1, z2, z3⟩, ⟨f0, f1, f2, f3⟩⟩ := box4 h7))
            have hq : Own W (sBlk (b + 1) (j) (.slice A7 l1.length c7) x1 (.slice none 0 0) :: (rBlk b B o N k c d e :: (b6 ++ (b7 ++ m)))) w6 := h6.perm (slot_perm _ _ _ _ _)
            have h8 := sset3 (pv' := .slice A6 l2.length c6) hq
            obtain ⟨w8, hw8⟩ : ∃ w8, w6.setCell ⟨b + 1, 3, none⟩ (.slice A6 l2.length c6) = w8 := ⟨_, rfl⟩
            rw [hw8] at h8 ⊢
            clear y0 y1 y2 y3 y4 y5 y6 q0 q1 q2 z0 z1 z2 z3 f0 f1 f2 f3 hw8
            obtain ⟨⟨z0, z1, z2, z3⟩, ⟨f0, f1, f2, f3⟩⟩ := box4 h8
            go_wp2_with fail
            have h9 := sset (s' := (j)) (lv' := (.slice A7 l1.length c7)) (t' := (x1 : Int)) (pv' := .slice A6 l2.length c6) h8
            obtain ⟨⟨e0, e1, e2, e3⟩, -⟩ := box4 h9
            exact bodyPost_ret (v := .tuple #[.agg #[.int .i64 (j), (.slice A7 l1.length c7), .int .u64 x1, .slice A6 l2.length c6], .bool true]) (by simp [results, Tryz.f88, go_sem, e0, e1, e2, e3]) rfl ⟨(.slice A7 l1.length c7), b7, _, b6, rfl, K7, K6, (h9.skip.skip).swap⟩
-- BODYEND
end
end Go.Proofs.YtllbnoojkgbjiaaGreat.See

/-
  Contract: a slab (reader.slab). No condition.
-/
namespace Go.Proofs.YtllbnoojkgbjiaaGreat.See
open Go.RowKit
open chartPlaces (Ok)
attribute [local go_sem ↓] Go.wp_at_zero Go.wp_at_succ
section
variable {W w : World} {M m : List (Nat × Obj)} {B o N k b : Nat} {g : List Nat} {c : Ch} {d e : Int}
/-- what slab answers -/
def SlabPost (W : World) (m : List (Nat × Obj)) (r : Option SlabP) (e : Ending) (w' : World) : Prop := match r with
  | some x => ∃ v bs, e = .returned (.tuple #[.agg #[.int .i64 x.counts.inuse, .int .i64 x.counts.objects, .bool x.counts.frozen, .bool x.counts.live, v], .bool true]) ∧ Hid (IntsOwn true v x.first bs) ∧ Own W (bs ++ m) w'
  | none => e = .returned (.tuple #[.agg #[.int .i64 0, .int .i64 0, .bool false, .bool false, .slice none 0 0], .bool false]) ∧ Own W m w'
/-- a slab's block -/
def lBlk (b : Nat) (a o : Int) (f l : Bool) (v : Value) : Nat × Obj := (b, .cells #[.int .i64 a, .int .i64 o, .bool f, .bool l, v] 129)
theorem box5 {b : Nat} {a o : Int} {f l : Bool} {v : Value} (h : Own W (lBlk b a o f l v :: m) w) : (w.cell? ⟨b, 0, none⟩ = some (.int .i64 a) ∧ w.cell? ⟨b, 1, none⟩ = some (.int .i64 o) ∧ w.cell? ⟨b, 2, none⟩ = some (.bool f) ∧ w.cell? ⟨b, 3, none⟩ = some (.bool l) ∧ w.cell? ⟨b, 4, none⟩ = some v) ∧ (w.frozen? ⟨b, 0, none⟩ = false ∧ w.frozen? ⟨b, 1, none⟩ = false ∧ w.frozen? ⟨b, 2, none⟩ = false ∧ w.frozen? ⟨b, 3, none⟩ = false ∧ w.frozen? ⟨b, 4, none⟩ = false) :=
  ⟨⟨h.cell List.mem_cons_self 0, h.cell List.mem_cons_self 1, h.cell List.mem_cons_self 2, h.cell List.mem_cons_self 3, h.cell List.mem_cons_self 4⟩, ⟨h.frozen List.mem_cons_self 0, h.frozen List.mem_cons_self 1, h.frozen List.mem_cons_self 2, h.frozen List.mem_cons_self 3, h.frozen List.mem_cons_self 4⟩⟩
theorem lset {b : Nat} {a o a' o' : Int} {f l f' l' : Bool} {v v' : Value} (h : Own W (lBlk b a o f l v :: m) w) : Own W (lBlk b a' o' f' l' v' :: m) (((((w.setCell ⟨b, 0, none⟩ (.int .i64 a')).setCell ⟨b, 1, none⟩ (.int .i64 o')).setCell ⟨b, 2, none⟩ (.bool f')).setCell ⟨b, 3, none⟩ (.bool l')).setCell ⟨b, 4, none⟩ v') := by
  have h1 := ((((h.set 0 (.int .i64 a')).set 1 (.int .i64 o')).set 2 (.bool f')).set 3 (.bool l')).set 4 v'
  exact h1
theorem lset4 {b : Nat} {a o a' o' : Int} {f l f' l' : Bool} {v : Value} (h : Own W (lBlk b a o f l v :: m) w) : Own W (lBlk b a' o' f' l' v :: m) ((((w.setCell ⟨b, 0, none⟩ (.int .i64 a')).setCell ⟨b, 1, none⟩ (.int .i64 o')).setCell ⟨b, 2, none⟩ (.bool f')).setCell ⟨b, 3, none⟩ (.bool l')) := by
  have h1 := (((h.set 0 (.int .i64 a')).set 1 (.int .i64 o')).set 2 (.bool f')).set 3 (.bool l')
  exact h1
theorem lsetv {b : Nat} {a o : Int} {f l : Bool} {v v' : Value} (h : Own W (lBlk b a o f l v :: m) w) : Own W (lBlk b a o f l v' :: m) (w.setCell ⟨b, 4, none⟩ v') := h.set 4 v'
set_option maxRecDepth 100000 in
set_option maxHeartbeats 4000000 in
theorem rslab_spec (h : Own W m w) (hc : COk c d e) (hw : WOk W m B o N k g c) (s : Nat) (hs : s < c.S) :
    Calls Tryz.prog 92 #[rV B o N k c d e, .int .i64 s] w (SlabPost W m (slabP c g s)) := by
  obtain ⟨n1, n2, n3, n4, n5, n6⟩ := hc.nums
  have h1 := (h.new (.cells #[.slice (some ⟨B, o, none⟩) N k, .int .i64 c.C, .int .i64 c.S, .int .i64 c.O, .int .i64 d, .int .i64 e, .int .u64 c.key] 122)).new (.cells #[.int .i64 0, .int .i64 0, .bool false, .bool false, .slice none 0 0] 129)
  obtain ⟨b, hb⟩ : ∃ b, w.heap.size = b := ⟨_, rfl⟩
  simp only [World.size_alloc] at h1
  rw [hb] at h1
  have h1 : Own W (lBlk (b + 1) 0 0 false false (.slice none 0 0) :: (rBlk b B o N k c d e :: m)) _ := h1
  obtain ⟨y0, y1, y2, y3, y4, y5, y6⟩ := box7 h1.skip
  have hN := hw.n
  unfold Ch.words at hN
  have hii : 0 ≤ (s : Int) ∧ (s : Int) < (c.S : Int) := by omega
  obtain ⟨p, hp⟩ : ∃ p : Nat, 4 * c.C + 4 + 4 * s = p := ⟨_, rfl⟩
  have hpi : 4 * (c.C : Int) + 4 + 4 * (s : Int) = (p : Int) := by omega
  have HPI := Lib.hid hpi
  have hpN : p + 1 < N := by omega
  have hp0 : (0 : Int) ≤ (p : Int) := by omega
  have hp1 : (p : Int) < (N : Int) := by omega
  have hp2 : (p : Int) + 1 < (N : Int) := by omega
  have hp5 : (0 : Int) ≤ (p : Int) + 1 := by omega
  have hpb : p ≤ 200 := by omega
  obtain ⟨x0, hx0⟩ : ∃ x, g[p]? = some x := ⟨_, List.getElem?_eq_getElem (by rw [hw.len]; omega)⟩
  obtain ⟨x1, hx1⟩ : ∃ x, g[p + 1]? = some x := ⟨_, List.getElem?_eq_getElem (by rw [hw.len]; omega)⟩
  have a0 : at_ g (4 * c.C + 4 + 4 * s) = x0 := by unfold at_; rw [hp, List.getD_eq_getElem?_getD, hx0]; rfl
  have a1 : at_ g (4 * c.C + 4 + 4 * s + 1) = x1 := by unfold at_; rw [hp, List.getD_eq_getElem?_getD, hx1]; rfl
  have hcs := fun ws (hws : Own W (lBlk (b + 1) 0 0 false false (.slice none 0 0) :: (rBlk b B o N k c d e :: m)) ws) => counts_spec hws x1 (hw.w64 x1 (List.mem_of_getElem? hx1))
  have HG : Hid (∀ ws, Own W m ws → ws.cell? ⟨B, o + p, none⟩ = some (.int .u64 (x0 : Int)) ∧ ws.cell? ⟨B, o + (p + 1), none⟩ = some (.int .u64 (x1 : Int))) := fun ws hws => ⟨hw.rd ws hws p x0 hx0, hw.rd ws hws (p + 1) x1 hx1⟩
  unfold slabP
  rw [a0, a1]
  unfold countsV at hcs
  have HC := Lib.hid hc
  have HW := Lib.hid hw
  have HI := Lib.hid hii
  have H1 := Lib.hid h1
  clear hN hp hpi hx0 hx1 a0 a1 hw hc hii h1 h
-- BODY
  cases hh : countsOf x1 with
  | none =>
    rw [hh] at hcs
    have HH := Lib.hid hcs
    simp only
    clear hh hcs
    unfold rV
    go_enter Tryz.func92, Tryz.ntmps92
    go_wp2_with fail
    refine (Apart.first_ok HC.out.ok HI.out H1.out).mono ?_
    rintro r w2 ⟨rfl, h2⟩
    rw [HPI.out]
    clear y0 y1 y2 y3 y4 y5 y6
    obtain ⟨y0, y1, y2, y3, y4, y5, y6⟩ := box7 h2.skip
    obtain ⟨q0, q1⟩ := HG.out _ h2.skip.skip
    go_wp2_with fail
    refine (HH.out _ h2).mono ?_
    rintro r w3 ⟨rfl, h3⟩
    clear y0 y1 y2 y3 y4 y5 y6 q0 q1
    obtain ⟨y0, y1, y2, y3, y4, y5, y6⟩ := box7 h3.skip
    obtain ⟨q0, q1⟩ := HG.out _ h3.skip.skip
    obtain ⟨⟨z0, z1, z2, z3, z4⟩, ⟨f0, f1, f2, f3, f4⟩⟩ := box5 h3
    go_wp2_with fail
    have h8 := lset4 (a' := 0) (o' := 0) (f' := false) (l' := false) h3
    have h9 := lset (a' := 0) (o' := 0) (f' := false) (l' := false) (v' := (.slice none 0 0)) h8
    obtain ⟨⟨e0, e1, e2, e3, e4⟩, -⟩ := box5 h9
    exact bodyPost_ret (v := .tuple #[.agg #[.int .i64 0, .int .i64 0, .bool false, .bool false, (.slice none 0 0)], .bool false]) (by simp [results, Tryz.f92, go_sem, e0, e1, e2, e3, e4]) rfl ⟨rfl, h9.skip.skip⟩
  | some v =>
    obtain ⟨n0, n1', fr, li⟩ := v
    rw [hh] at hcs
    simp only at hcs ⊢
    have HH := Lib.hid hcs
    clear hh hcs
    by_cases hbig : c.O < x0
    · have hbi : (c.O : Int) < (x0 : Int) := by omega
      rw [if_pos hbig]
      unfold rV
      go_enter Tryz.func92, Tryz.ntmps92
      go_wp2_with fail
      refine (Apart.first_ok HC.out.ok HI.out H1.out).mono ?_
      rintro r w2 ⟨rfl, h2⟩
      rw [HPI.out]
      clear y0 y1 y2 y3 y4 y5 y6
      obtain ⟨y0, y1, y2, y3, y4, y5, y6⟩ := box7 h2.skip
      obtain ⟨q0, q1⟩ := HG.out _ h2.skip.skip
      go_wp2_with fail
      refine (HH.out _ h2).mono ?_
      rintro r w3 ⟨rfl, h3⟩
      clear y0 y1 y2 y3 y4 y5 y6 q0 q1
      obtain ⟨y0, y1, y2, y3, y4, y5, y6⟩ := box7 h3.skip
      obtain ⟨q0, q1⟩ := HG.out _ h3.skip.skip
      obtain ⟨⟨z0, z1, z2, z3, z4⟩, ⟨f0, f1, f2, f3, f4⟩⟩ := box5 h3
      go_wp2_with fail
      have h8 := lset4 (a' := (n0 : Int)) (o' := (n1' : Int)) (f' := fr) (l' := li) h3
      have h9 := lset (a' := 0) (o' := 0) (f' := false) (l' := false) (v' := (.slice none 0 0)) h8
      obtain ⟨⟨e0, e1, e2, e3, e4⟩, -⟩ := box5 h9
      exact bodyPost_ret (v := .tuple #[.agg #[.int .i64 0, .int .i64 0, .bool false, .bool false, (.slice none 0 0)], .bool false]) (by simp [results, Tryz.f92, go_sem, e0, e1, e2, e3, e4]) rfl ⟨rfl, h9.skip.skip⟩
    · have hbi : ¬ (c.O : Int) < (x0 : Int) := by omega
      have hx16 : (x0 : Int) ≤ 16 := by omega
      rw [if_neg hbig]
      have hrl := fun ws (hws : Own W (lBlk (b + 1) n0 n1' fr li (.slice none 0 0) :: (rBlk b B o N k c d e :: m)) ws) => rlist_spec hws HC.out ((HW.out.more (m' := [rBlk b B o N k c d e])).more (m' := [lBlk (b + 1) n0 n1' fr li (.slice none 0 0)])) s hs ((x0 : Int) - 1) (by omega)
      cases hl : listP c g s ((x0 : Int) - 1) with
      | none =>
        rw [hl] at hrl
        have HRL := Lib.hid hrl
        simp only
        clear hl hrl
        unfold rV
        go_enter Tryz.func92, Tryz.ntmps92
        go_wp2_with fail
        refine (Apart.first_ok HC.out.ok HI.out H1.out).mono ?_
        rintro r w2 ⟨rfl, h2⟩
        rw [HPI.out]
        clear y0 y1 y2 y3 y4 y5 y6
        obtain ⟨y0, y1, y2, y3, y4, y5, y6⟩ := box7 h2.skip
        obtain ⟨q0, q1⟩ := HG.out _ h2.skip.skip
        go_wp2_with fail
        refine (HH.out _ h2).mono ?_
        rintro r w3 ⟨rfl, h3⟩
        clear y0 y1 y2 y3 y4 y5 y6 q0 q1
        obtain ⟨y0, y1, y2, y3, y4, y5, y6⟩ := box7 h3.skip
        obtain ⟨q0, q1⟩ := HG.out _ h3.skip.skip
        obtain ⟨⟨z0, z1, z2, z3, z4⟩, ⟨f0, f1, f2, f3, f4⟩⟩ := box5 h3
        go_wp2_with fail
        have h4 := lset4 (a' := (n0 : Int)) (o' := (n1' : Int)) (f' := fr) (l' := li) h3
        refine (HRL.out _ h4).mono ?_
        rintro r w6 ⟨rfl, h6⟩
        clear y0 y1 y2 y3 y4 y5 y6 q0 q1 z0 z1 z2 z3 z4 f0 f1 f2 f3 f4 h2 h3 h4
        obtain ⟨⟨z0, z1, z2, z3, z4⟩, ⟨f0, f1, f2, f3, f4⟩⟩ := box5 h6
        go_wp2_with fail
        have h8 := lsetv (v' := .slice none 0 0) h6
        have h9 := lset (a' := 0) (o' := 0) (f' := false) (l' := false) (v' := (.slice none 0 0)) h8
        obtain ⟨⟨e0, e1, e2, e3, e4⟩, -⟩ := box5 h9
        exact bodyPost_ret (v := .tuple #[.agg #[.int .i64 0, .int .i64 0, .bool false, .bool false, (.slice none 0 0)], .bool false]) (by simp [results, Tryz.f92, go_sem, e0, e1, e2, e3, e4]) rfl ⟨rfl, h9.skip.skip⟩
      | some l1 =>
        rw [hl] at hrl
        have HRL := Lib.hid hrl
        simp only
        clear hl hrl
        unfold rV
        go_enter Tryz.func92, Tryz.ntmps92
        go_wp2_with fail
        refine (Apart.first_ok HC.out.ok HI.out H1.out).mono ?_
        rintro r w2 ⟨rfl, h2⟩
        rw [HPI.out]
        clear y0 y1 y2 y3 y4 y5 y6
        obtain ⟨y0, y1, y2, y3, y4, y5, y6⟩ := box7 h2.skip
        obtain ⟨q0, q1⟩ := HG.out _ h2.skip.skip
        go_wp2_with fail
        refine (HH.out _ h2).mono ?_
        rintro r w3 ⟨rfl, h3⟩
        clear y0 y1 y2 y3 y4 y5 y6 q0 q1
        obtain ⟨y0, y1, y2, y3, y4, y5, y6⟩ := box7 h3.skip
        obtain ⟨q0, q1⟩ := HG.out _ h3.skip.skip
        obtain ⟨⟨z0, z1, z2, z3, z4⟩, ⟨f0, f1, f2, f3, f4⟩⟩ := box5 h3
        go_wp2_with fail
        have h4 := lset4 (a' := (n0 : Int)) (o' := (n1' : Int)) (f' := fr) (l' := li) h3
        refine (HRL.out _ h4).mono ?_
        rintro r w6 ⟨v7, b7, rfl, K7, h6⟩
        obtain ⟨A7, c7, hv7, -, -⟩ := K7.out.slice
        subst hv7
        clear y0 y1 y2 y3 y4 y5 y6 q0 q1 z0 z1 z2 z3 z4 f0 f1 f2 f3 f4 h2 h3 h4
        have h7 : Own W (lBlk (b + 1) n0 n1' fr li (.slice none 0 0) :: (b7 ++ (rBlk b B o N k c d e :: m))) w6 := h6.perm List.perm_middle
        obtain ⟨⟨z0, z1, z2, z3, z4⟩, ⟨f0, f1, f2, f3, f4⟩⟩ := box5 h7
        go_wp2_with fail
        have h8 := lsetv (v' := .slice A7 l1.length c7) h7
        have h9 := lset (a' := (n0 : Int)) (o' := (n1' : Int)) (f' := fr) (l' := li) (v' := (.slice A7 l1.length c7)) h8
        obtain ⟨⟨e0, e1, e2, e3, e4⟩, -⟩ := box5 h9
        exact bodyPost_ret (v := .tuple #[.agg #[.int .i64 (n0 : Int), .int .i64 (n1' : Int), .bool fr, .bool li, (.slice A7 l1.length c7)], .bool true]) (by simp [results, Tryz.f92, go_sem, e0, e1, e2, e3, e4]) rfl ⟨_, b7, rfl, K7, h9.skip.drop1⟩
-- BODYEND
end
end Go.Proofs.YtllbnoojkgbjiaaGreat.See

/-
  A core that was seen: what its value owns; append of its parts. No condition.
-/
namespace Go.Proofs.YtllbnoojkgbjiaaGreat.See
open Go.RowKit
theorem slot_info : (Tryz.prog.info? 105).map (fun i => (i.zero, i.size, i.bytes)) = some (some (.agg #[.int .i64 0, .slice none 0 0, .int .u64 0, .slice none 0 0]), 4, 64) := by kernel_rfl
theorem slab_info : (Tryz.prog.info? 129).map (fun i => (i.zero, i.size, i.bytes)) = some (some (.agg #[.int .i64 0, .int .i64 0, .bool false, .bool false, .slice none 0 0]), 5, 48) := by kernel_rfl
/-- a slot, with what it owns -/
structure SlotN where
  x : SlotP
  lv : Value
  lb : List (Nat × Obj)
  pv : Value
  pb : List (Nat × Obj)
def SlotN.cells (s : SlotN) : List Value := [.int .i64 s.x.slab, s.lv, .int .u64 s.x.turn, s.pv]
def slotCells (L : List SlotN) : List Value := L.flatMap SlotN.cells
def slotBlocks (L : List SlotN) : List (Nat × Obj) := L.flatMap fun s => s.lb ++ s.pb
def SlotsOk (L : List SlotN) : Prop := ∀ s ∈ L, IntsOwn true s.lv s.x.list s.lb ∧ IntsOwn true s.pv s.x.parts s.pb
/-- a slab, with what it owns -/
structure SlabN where
  x : SlabP
  v : Value
  b : List (Nat × Obj)
def SlabN.cells (s : SlabN) : List Value := [.int .i64 s.x.counts.inuse, .int .i64 s.x.counts.objects, .bool s.x.counts.frozen, .bool s.x.counts.live, s.v]
def slabCells (L : List SlabN) : List Value := L.flatMap SlabN.cells
def slabBlocks (L : List SlabN) : List (Nat × Obj) := L.flatMap SlabN.b
def SlabsOk (L : List SlabN) : Prop := ∀ s ∈ L, IntsOwn true s.v s.x.first s.b
theorem slotCells_append (a b : List SlotN) : slotCells (a ++ b) = slotCells a ++ slotCells b := by simp [slotCells]
theorem slabCells_append (a b : List SlabN) : slabCells (a ++ b) = slabCells a ++ slabCells b := by simp [slabCells]
theorem slotBlocks_append (a b : List SlotN) : slotBlocks (a ++ b) = slotBlocks a ++ slotBlocks b := by simp [slotBlocks]
theorem slabBlocks_append (a b : List SlabN) : slabBlocks (a ++ b) = slabBlocks a ++ slabBlocks b := by simp [slabBlocks]
abbrev SlotsV (v : Value) (L : List SlotN) (bs : List (Nat × Obj)) : Prop := SlO true 105 4 v L.length (slotCells L) bs
abbrev SlabsV (v : Value) (L : List SlabN) (bs : List (Nat × Obj)) : Prop := SlO true 129 5 v L.length (slabCells L) bs
/-- a core's value -/
def CoreO (v : Value) (K : CoreP) (bs : List (Nat × Obj)) : Prop := ∃ (Ls : List SlotN) (sv : Value) (b0 : List (Nat × Obj)) (hv : Value) (b1 : List (Nat × Obj)) (Ll : List SlabN) (lv : Value) (b2 : List (Nat × Obj)),
  v = .agg #[sv, hv, .bool K.locked, lv] ∧ Ls.map (·.x) = K.slots ∧ SlotsOk Ls ∧ SlotsV sv Ls b0 ∧ IntsOwn true hv K.shelf b1 ∧ Ll.map (·.x) = K.slabs ∧ SlabsOk Ll ∧ SlabsV lv Ll b2 ∧ bs = b0 ++ (slotBlocks Ls ++ (b1 ++ (b2 ++ slabBlocks Ll)))
section
variable {P : Program} {W w : World} {m bs : List (Nat × Obj)} {v xv : Value} {xs news : List Value} {e size n k bytes : Nat}
/-- append, of structs of any cells -/
theorem app_struct {ops : Array Oper} {rest : List Oper} {o : Oper} {a : Act} {Q : Exit → Act → World → Prop} (hgd : o.guard = none) (s x : Operand) (t : TypeId)
    (ho : o.op = .call { callee := .builtin .append, args := #[s, x], argTypes := #[t, t] }) (hes : a.eval s = v) (hex : a.eval x = xv)
    (z : Value) (hinfo : (P.info? e).map (fun i => (i.zero, i.size, i.bytes)) = some (some z, size, bytes)) (ht : P.underlying t = some (.slice e)) (hzs : z.cells.size = size) (hsz : 0 < size) (hb : bytes ≤ 200)
    (hs : SlO true e size v n xs bs) (hO : Own W (bs ++ m) w) (hx : Src w size xv k news) (h1 : ∀ u ∈ news, u.oneCell' = true) (hlen : n + k ≤ 60000)
    (h : ∀ v' w' bs', SlO true e size v' (n + k) (xs ++ news) bs' → Own W (bs' ++ m) w' → wpList P ops Q rest (a.put o.dst v') w') :
    wpList P ops Q (o :: rest) a w := by
  obtain ⟨i, hi, hz, hsz', hby⟩ := info_get hinfo
  have hbb : (n + k) * bytes ≤ 60000 * 200 := Nat.mul_le_mul hlen hb
  exact wpList_app hgd s x t ho hes hex e i z size bytes ht hi hz hsz' hby hzs hsz hs hO hx h1 (by unfold maxLen; omega) (by omega) fun v' w' bs' h1 h2 _ => h v' w' bs' h1 h2
/-- a struct that the code writes down, in a block of its own -/
theorem src_vals (w : World) (e : TypeId) (l : List Value) : Src (w.alloc (.cells l.toArray e)) l.length (.slice (some ⟨w.heap.size, 0, none⟩) 1 1) 1 l := by
  refine ⟨by simp, .inr ⟨_, _, rfl, fun j u hj => ?_⟩⟩
  rw [add_lit0]
  simp [hj]
theorem IntsOwn.one {ex : Bool} {v : Value} {l : List Int} {b : List (Nat × Obj)} (h : IntsOwn ex v l b) : v.oneCell' = true := by
  obtain ⟨A, c, rfl, -, -⟩ := SlO.slice h
  rfl
end
end Go.Proofs.YtllbnoojkgbjiaaGreat.See

/-
  Contract: chart.See. No condition.
-/
namespace Go.Proofs.YtllbnoojkgbjiaaGreat.See
open Go.RowKit
open Apart (chV chB box6 ChAt)
open chartPlaces (Ok)
attribute [local go_sem ↓] Go.wp_at_zero Go.wp_at_succ
/-- a core's block -/
def kBlk (b : Nat) (sv hv : Value) (l : Bool) (lv : Value) : Nat × Obj := (b, .cells #[sv, hv, .bool l, lv] 101)
section
variable {W w : World} {M m : List (Nat × Obj)} {B o N k b : Nat} {g : List Nat} {c : Ch} {d e : Int}
theorem boxK {b : Nat} {sv hv lv : Value} {l : Bool} (h : Own W (kBlk b sv hv l lv :: m) w) : (w.cell? ⟨b, 0, none⟩ = some sv ∧ w.cell? ⟨b, 1, none⟩ = some hv ∧ w.cell? ⟨b, 2, none⟩ = some (.bool l) ∧ w.cell? ⟨b, 3, none⟩ = some lv) ∧ (w.frozen? ⟨b, 0, none⟩ = false ∧ w.frozen? ⟨b, 1, none⟩ = false ∧ w.frozen? ⟨b, 2, none⟩ = false ∧ w.frozen? ⟨b, 3, none⟩ = false) :=
  ⟨⟨h.cell List.mem_cons_self 0, h.cell List.mem_cons_self 1, h.cell List.mem_cons_self 2, h.cell List.mem_cons_self 3⟩, ⟨h.frozen List.mem_cons_self 0, h.frozen List.mem_cons_self 1, h.frozen List.mem_cons_self 2, h.frozen List.mem_cons_self 3⟩⟩
theorem kset {b : Nat} {sv hv lv sv' hv' lv' : Value} {l l' : Bool} (h : Own W (kBlk b sv hv l lv :: m) w) : Own W (kBlk b sv' hv' l' lv' :: m) ((((w.setCell ⟨b, 0, none⟩ sv').setCell ⟨b, 1, none⟩ hv').setCell ⟨b, 2, none⟩ (.bool l')).setCell ⟨b, 3, none⟩ lv') := by
  have h1 := (((h.set 0 sv').set 1 hv').set 2 (.bool l')).set 3 lv'
  exact h1
theorem upto_step {α : Type} {f : Nat → Option α} {n : Nat} {l : List α} {x : α} (h : upto f n = some l) (hx : f n = some x) : upto f (n + 1) = some (l ++ [x]) := by
  unfold upto
  rw [h, hx]
theorem see_perm1 {α : Type} (a b c d : List α) : (a ++ (b ++ (c ++ d))).Perm (c ++ (a ++ (b ++ d))) :=
  (List.Perm.append_left a (perm_swap b c d)).trans (perm_swap a c _)
theorem see_perm2 {α : Type} (a b c d : List α) (x : α) (e : List α) : (a ++ (b ++ (c ++ (d ++ x :: e)))).Perm (x :: (a ++ (b ++ (c ++ (d ++ e))))) := by
  have h : ∀ (l : List α) (m : List α), m.Perm (x :: e) → (l ++ m).Perm (x :: (l ++ e)) := fun l m hm => (List.Perm.append_left l hm).trans List.perm_middle
  have h1 : (d ++ x :: e).Perm (x :: (d ++ e)) := List.perm_middle
  have h2 : (c ++ (d ++ x :: e)).Perm (x :: (c ++ (d ++ e))) := (List.Perm.append_left c h1).trans List.perm_middle
  have h3 : (b ++ (c ++ (d ++ x :: e))).Perm (x :: (b ++ (c ++ (d ++ e)))) := (List.Perm.append_left b h2).trans List.perm_middle
  exact (List.Perm.append_left a h3).trans List.perm_middle
theorem see_perm3 (a lb pb : List (Nat × Obj)) (Ls : List SlotN) (y : Nat × Obj) (e : List (Nat × Obj)) {x : SlotP} {lv pv : Value} : (y :: (a ++ (lb ++ (pb ++ (slotBlocks Ls ++ e))))).Perm (a ++ ((slotBlocks Ls ++ slotBlocks [⟨x, lv, lb, pv, pb⟩]) ++ y :: e)) := by
  have e1 : slotBlocks [⟨x, lv, lb, pv, pb⟩] = lb ++ pb := by simp [slotBlocks]
  rw [e1]
  have h1 : (lb ++ (pb ++ (slotBlocks Ls ++ e))).Perm (slotBlocks Ls ++ (lb ++ (pb ++ e))) := (List.Perm.append_left lb (perm_swap pb _ e)).trans (perm_swap lb _ _)
  have h2 : ((slotBlocks Ls ++ (lb ++ pb)) ++ y :: e).Perm (y :: ((slotBlocks Ls ++ (lb ++ pb)) ++ e)) := List.perm_middle
  have h3 : ((slotBlocks Ls ++ (lb ++ pb)) ++ e) = slotBlocks Ls ++ (lb ++ (pb ++ e)) := by simp [List.append_assoc]
  rw [h3] at h2
  refine (List.Perm.cons y (List.Perm.append_left a h1)).trans ?_
  exact (List.perm_middle.symm).trans (List.Perm.append_left a h2.symm)
theorem kset0 {b : Nat} {sv hv lv sv' : Value} {l : Bool} (h : Own W (kBlk b sv hv l lv :: m) w) : Own W (kBlk b sv' hv l lv :: m) (w.setCell ⟨b, 0, none⟩ sv') := h.set 0 sv'
theorem kset1 {b : Nat} {sv hv lv hv' : Value} {l : Bool} (h : Own W (kBlk b sv hv l lv :: m) w) : Own W (kBlk b sv hv' l lv :: m) (w.setCell ⟨b, 1, none⟩ hv') := h.set 1 hv'
theorem kset3 {b : Nat} {sv hv lv lv' : Value} {l : Bool} (h : Own W (kBlk b sv hv l lv :: m) w) : Own W (kBlk b sv hv l lv' :: m) (w.setCell ⟨b, 3, none⟩ lv') := h.set 3 lv'
theorem see_perm4 {α : Type} (a b c : List α) (x y z u : α) (m : List α) : (a ++ (b ++ (c ++ (x :: (y :: (z :: (u :: m))))))).Perm (x :: (y :: (z :: (u :: (a ++ (b ++ (c ++ m))))))) := by
  have h1 : (c ++ ([x, y, z, u] ++ m)).Perm ([x, y, z, u] ++ (c ++ m)) := perm_swap _ _ _
  have h2 : (b ++ ([x, y, z, u] ++ (c ++ m))).Perm ([x, y, z, u] ++ (b ++ (c ++ m))) := perm_swap _ _ _
  have h3 : (a ++ ([x, y, z, u] ++ (b ++ (c ++ m)))).Perm ([x, y, z, u] ++ (a ++ (b ++ (c ++ m)))) := perm_swap _ _ _
  exact (List.Perm.append_left a ((List.Perm.append_left b h1).trans h2)).trans h3
theorem see_perm5 {α : Type} (a b c : List α) (x : α) (e : List α) : (a ++ (b ++ (c ++ x :: e))).Perm (x :: (a ++ (b ++ (c ++ e)))) := by
  have h1 : (c ++ x :: e).Perm (x :: (c ++ e)) := List.perm_middle
  have h2 : (b ++ (c ++ x :: e)).Perm (x :: (b ++ (c ++ e))) := (List.Perm.append_left b h1).trans List.perm_middle
  exact (List.Perm.append_left a h2).trans List.perm_middle
theorem see_perm6 (a lb : List (Nat × Obj)) (Ll : List SlabN) (y : Nat × Obj) (e : List (Nat × Obj)) {x : SlabP} {v : Value} : (y :: (a ++ (lb ++ (slabBlocks Ll ++ e)))).Perm (a ++ ((slabBlocks Ll ++ slabBlocks [⟨x, v, lb⟩]) ++ y :: e)) := by
  have e1 : slabBlocks [⟨x, v, lb⟩] = lb := by simp [slabBlocks]
  rw [e1]
  have h1 : (lb ++ (slabBlocks Ll ++ e)).Perm (slabBlocks Ll ++ (lb ++ e)) := perm_swap lb _ e
  have h2 : ((slabBlocks Ll ++ lb) ++ y :: e).Perm (y :: ((slabBlocks Ll ++ lb) ++ e)) := List.perm_middle
  rw [List.append_assoc (slabBlocks Ll) lb e] at h2
  refine (List.Perm.cons y (List.Perm.append_left a h1)).trans ?_
  exact (List.perm_middle.symm).trans (List.Perm.append_left a h2.symm)
theorem see_perm7 {α : Type} (a l : List α) (x y z : α) (e : List α) : (a ++ (l ++ (x :: (y :: (z :: e))))).Perm (z :: (a ++ (l ++ (x :: (y :: e))))) := by
  have h1 : (x :: (y :: (z :: e))).Perm (z :: (x :: (y :: e))) := (List.Perm.cons x (List.Perm.swap _ _ _)).trans (List.Perm.swap _ _ _)
  have h2 : (l ++ (x :: (y :: (z :: e)))).Perm (z :: (l ++ (x :: (y :: e)))) := (List.Perm.append_left l h1).trans List.perm_middle
  exact (List.Perm.append_left a h2).trans List.perm_middle
theorem see_mv {α : Type} (a l p q e : List α) : (a ++ (l ++ (p ++ (q ++ e)))).Perm (q ++ (a ++ (l ++ (p ++ e)))) :=
  ((List.Perm.append_left a (List.Perm.append_left l (perm_swap p q e))).trans (List.Perm.append_left a (perm_swap l q _))).trans (perm_swap a q _)
theorem see_perm8 {α : Type} (a l p q r e : List α) : (a ++ (l ++ (p ++ (q ++ (r ++ e))))).Perm (q ++ (r ++ (p ++ (a ++ (l ++ e))))) := by
  refine (see_mv a l p q _).trans (List.Perm.append_left q ?_)
  refine (see_mv a l p r _).trans (List.Perm.append_left r ?_)
  exact (List.Perm.append_left a (perm_swap l p e)).trans (perm_swap a p _)
theorem see_sub {α : Type} (a l : List α) (x y z : α) (e : List α) : (a ++ (l ++ e)).Sublist (a ++ (l ++ (x :: (y :: (z :: e))))) :=
  (List.Sublist.refl a).append ((List.Sublist.refl l).append (((List.sublist_cons_self z e).trans (List.sublist_cons_self y _)).trans (List.sublist_cons_self x _)))
/-- what See answers -/
def SeePost (W : World) (m : List (Nat × Obj)) (r : Option CoreP) (e : Ending) (w' : World) : Prop := match r with
  | some K => ∃ v bs, e = .returned (.tuple #[v, .int .i64 0]) ∧ Hid (CoreO v K bs) ∧ Own W (bs ++ m) w'
  | none => e = .returned (.tuple #[.agg #[.slice none 0 0, .slice none 0 0, .bool false, .slice none 0 0], .int .i64 150]) ∧ Own W m w'
theorem words_eq (c : Ch) : 4 * (c.C : Int) + 4 + 4 * (c.S : Int) + (c.S : Int) * (c.O : Int) = (c.words : Int) := by
  unfold Ch.words
  push_cast
  rfl
set_option maxRecDepth 100000 in
set_option maxHeartbeats 8000000 in
theorem see_spec (h : Own W m w) (hc : COk c d e) (hw : WOk W m B o N k g c) :
    Calls Tryz.prog 64 #[.slice (some ⟨B, o, none⟩) N k, cV c d e] w (SeePost W m (seeP c g)) := by
  obtain ⟨n1, n2, n3, n4, n5, n6⟩ := hc.nums
  have h1 := (h.new (.cells #[.int .i64 c.C, .int .i64 c.S, .int .i64 c.O, .int .i64 d, .int .i64 e, .int .u64 c.key] 25)).new (.cells #[.slice none 0 0, .slice none 0 0, .bool false, .slice none 0 0] 101)
  obtain ⟨b, hb⟩ : ∃ b, w.heap.size = b := ⟨_, rfl⟩
  simp only [World.size_alloc] at h1
  rw [hb] at h1
  have h1 : Own W (kBlk (b + 1) (.slice none 0 0) (.slice none 0 0) false (.slice none 0 0) :: (chB b c.C c.S c.O d e c.key :: m)) _ := h1
  obtain ⟨y0, y1, y2, y3, y4, y5⟩ := box6 h1.skip
  have hN := hw.n
  have hwq := words_eq c
  rw [← hN] at hwq
  have hn32 : 32 ≤ N ∨ N < 32 := by omega
  obtain ⟨p, hp⟩ : ∃ p : Nat, 4 * c.C = p := ⟨_, rfl⟩
  have hpi : 4 * (c.C : Int) = (p : Int) := by omega
  obtain ⟨p1, hpp1⟩ : ∃ p1 : Nat, p + 1 = p1 := ⟨_, rfl⟩
  have hpi1 : 4 * (c.C : Int) + 1 = (p1 : Int) := by omega
  have hpN : p1 < N := by rw [hN]; unfold Ch.words; omega
  have hp2 : (0 : Int) ≤ (p1 : Int) := by omega
  have hp3 : (p1 : Int) < (N : Int) := by omega
  have HPI := Lib.hid hpi
  have HPI1 := Lib.hid hpi1
  have hp0 : (0 : Int) ≤ (p : Int) := by omega
  have hp1 : (p : Int) < (N : Int) := by omega
  obtain ⟨x0, hx0⟩ : ∃ x, g[p]? = some x := ⟨_, List.getElem?_eq_getElem (by rw [hw.len]; omega)⟩
  obtain ⟨x1, hx1⟩ : ∃ x, g[p1]? = some x := ⟨_, List.getElem?_eq_getElem (by rw [hw.len]; omega)⟩
  have a0 : at_ g (4 * c.C) = x0 := by unfold at_; rw [hp, List.getD_eq_getElem?_getD, hx0]; rfl
  have a1 : at_ g (4 * c.C + 1) = x1 := by unfold at_; rw [hp, hpp1, List.getD_eq_getElem?_getD, hx1]; rfl
  have HG : Hid (∀ ws, Own W m ws → ws.cell? ⟨B, o + p, none⟩ = some (.int .u64 (x0 : Int)) ∧ ws.cell? ⟨B, o + p1, none⟩ = some (.int .u64 (x1 : Int))) := fun ws hws => ⟨hw.rd ws hws p x0 hx0, hw.rd ws hws p1 x1 hx1⟩
  have HX1 : Hid (x1 < 18446744073709551616) := hw.w64 x1 (List.mem_of_getElem? hx1)
  obtain ⟨lk, hlk⟩ : ∃ lk, decide (x0 ≠ 0) = lk := ⟨_, rfl⟩
  have hlk2 : ((x0 : Int) != 0) = lk := by
    rw [← hlk]
    by_cases h0 : x0 = 0
    · subst h0; rfl
    · have : (x0 : Int) ≠ 0 := by omega
      simp [h0, this]
  have hR : seeP c g = match upto (slotP c g) c.C with
      | none => none
      | some a => match shelfP c g with
        | none => none
        | some l => match upto (slabP c g) c.S with
          | none => none
          | some b => some ⟨a, l, lk, b⟩ := by
    unfold seeP
    rw [a0, hlk]
    rfl
  obtain ⟨R, hRR⟩ : ∃ R, seeP c g = R := ⟨_, rfl⟩
  rw [hRR] at hR ⊢
  have HR := Lib.hid hR
  have HA1 := Lib.hid a1
  have HC := Lib.hid hc
  have HW := Lib.hid hw
  have HWQ := Lib.hid hwq
  have H1 := Lib.hid h1
  clear hpp1 hN hp hpi hpi1 hx0 hx1 a0 a1 hw hc h1 h hn32 hlk hR hRR hwq
  unfold cV chV
  go_enter Tryz.func64, Tryz.ntmps64
  go_wp2_with fail
  refine (Apart.check_ok HC.out.ok H1.out).mono ?_
  rintro r w2 ⟨rfl, h2⟩
  clear y0 y1 y2 y3 y4 y5
  obtain ⟨y0, y1, y2, y3, y4, y5⟩ := box6 h2.skip
  go_wp2_with fail
  refine (Apart.words_ok HC.out.ok h2).mono ?_
  rintro r w3 ⟨rfl, h3⟩
  rw [HWQ.out]
  clear y0 y1 y2 y3 y4 y5 h2
  obtain ⟨y0, y1, y2, y3, y4, y5⟩ := box6 h3.skip
  have h4 := h3.new (.cells #[.slice (some ⟨B, o, none⟩) N k, .int .i64 c.C, .int .i64 c.S, .int .i64 c.O, .int .i64 d, .int .i64 e, .int .u64 c.key] 122)
  obtain ⟨q, hq⟩ : ∃ q, w3.heap.size = q := ⟨_, rfl⟩
  rw [hq] at h4
  have h4 : Own W (rBlk q B o N k c d e :: (kBlk (b + 1) (.slice none 0 0) (.slice none 0 0) false (.slice none 0 0) :: (chB b c.C c.S c.O d e c.key :: m))) _ := h4
  obtain ⟨v0, v1, v2, v3, v4, v5⟩ := box6 h4.skip.skip
  go_wp2_with fail
  refine (Apart.lock_ok HC.out.ok h4).mono ?_
  rintro r w5 ⟨rfl, h5⟩
  rw [HPI.out]
  clear y0 y1 y2 y3 y4 y5 v0 v1 v2 v3 v4 v5 hq h3 h4
  obtain ⟨q0, q1⟩ := HG.out _ h5.skip.skip.skip
  have h6 := h5.new (.cells #[.slice none 0 0, .slice none 0 0, .bool lk, .slice none 0 0] 101)
  obtain ⟨t, ht⟩ : ∃ t, w5.heap.size = t := ⟨_, rfl⟩
  rw [ht] at h6
  have h6 : Own W (kBlk t (.slice none 0 0) (.slice none 0 0) lk (.slice none 0 0) :: (rBlk q B o N k c d e :: (kBlk (b + 1) (.slice none 0 0) (.slice none 0 0) false (.slice none 0 0) :: (chB b c.C c.S c.O d e c.key :: m)))) _ := h6
  obtain ⟨y0, y1, y2, y3, y4, y5⟩ := box6 h6.skip.skip.skip
  go_wp2_with fail
  have H6 := Lib.hid h6
  clear q0 q1 ht h5 h6 y0 y1 y2 y3 y4 y5
  go_loopw [39] (fun iv wr => ∃ (i : Nat) (Ls : List SlotN) (sv : Value) (b0 : List (Nat × Obj)), iv = .int .i64 i ∧ i ≤ c.C ∧ Hid (Ls.length = i) ∧ Hid (upto (slotP c g) i = some (Ls.map (·.x))) ∧ Hid (SlotsOk Ls) ∧ Hid (SlotsV sv Ls b0) ∧ Own W (b0 ++ (slotBlocks Ls ++ (kBlk t sv (.slice none 0 0) lk (.slice none 0 0) :: (rBlk q B o N k c d e :: (kBlk (b + 1) (.slice none 0 0) (.slice none 0 0) false (.slice none 0 0) :: (chB b c.C c.S c.O d e c.key :: m)))))) wr) (fun iv _ => c.C - (intOf iv).toNat)
  case atStart => exact ⟨0, [], .slice none 0 0, [], rfl, by omega, rfl, rfl, (fun s hs => by cases hs), SlO.nil _ _ _, H6.out⟩
  case round =>
    clear H6
    obtain ⟨i, Ls, sv, b0, rfl, hi, HLI, HUP, HSO, HSV, hr⟩ := hrel
    obtain ⟨A0, c0, hv0, -, -⟩ := HSV.out.slice
    rw [HLI.out] at hv0
    subst hv0
    have HSV2 : Hid (SlO true 105 4 (.slice A0 i c0) i (slotCells Ls) b0) := by have := HSV.out; unfold SlotsV at this; rw [HLI.out] at this; exact this
    by_cases hlt : i < c.C
    · have hlti : (i : Int) < (c.C : Int) := by omega
      have hsl := rslot_spec hr HC.out (((HW.out.more (m' := [kBlk t (.slice A0 i c0) (.slice none 0 0) lk (.slice none 0 0), rBlk q B o N k c d e, kBlk (b + 1) (.slice none 0 0) (.slice none 0 0) false (.slice none 0 0), chB b c.C c.S c.O d e c.key])).more (m' := slotBlocks Ls)).more (m' := b0)) i hlt
      obtain ⟨y0, y1, y2, y3, y4, y5, y6⟩ := box7 hr.dropL.dropL.skip
      cases hsp : slotP c g i with
      | none =>
        rw [hsp] at hsl
        have HSL := Lib.hid hsl
        have hnone : upto (slotP c g) c.C = none := upto_none hsp hlt
        have hk := HR.out
        rw [hnone] at hk
        simp only at hk
        subst hk
        clear hsl hsp hnone
        go_wp2_with fail
        refine HSL.out.mono ?_
        rintro r w7 ⟨rfl, h7⟩
        clear y0 y1 y2 y3 y4 y5 y6
        have h8 := h7.alloc (.cells #[.int .i64 0, .slice none 0 0, .int .u64 0, .slice none 0 0] 105)
        obtain ⟨⟨z0, z1, z2, z3⟩, ⟨f0, f1, f2, f3⟩⟩ := boxK h8.dropL.dropL.skip.skip
        go_wp2_with fail
        have h9 := kset (sv' := .slice none 0 0) (hv' := .slice none 0 0) (l' := false) (lv' := .slice none 0 0) h8.dropL.dropL.skip.skip
        obtain ⟨⟨e0, e1, e2, e3⟩, -⟩ := boxK h9
        exact bodyPost_ret (v := .tuple #[.agg #[.slice none 0 0, .slice none 0 0, .bool false, .slice none 0 0], .int .i64 150]) (by simp [results, Tryz.f64, go_sem, e0, e1, e2, e3]) rfl ⟨rfl, h9.skip.skip⟩
      | some x =>
        rw [hsp] at hsl
        have HSL := Lib.hid hsl
        have HUP2 := Lib.hid (upto_step HUP.out hsp)
        clear hsl hsp
        go_wp2_with fail
        refine HSL.out.mono ?_
        rintro r w7 ⟨lv, lb, pv, pb, rfl, KL, KP, h7⟩
        obtain ⟨A1, c1, hv1, -, -⟩ := KL.out.slice
        obtain ⟨A2, c2, hv2, -, -⟩ := KP.out.slice
        obtain ⟨l1, hl1⟩ : ∃ l1, x.list.length = l1 := ⟨_, rfl⟩
        obtain ⟨l2, hl2⟩ : ∃ l2, x.parts.length = l2 := ⟨_, rfl⟩
        rw [hl1] at hv1
        rw [hl2] at hv2
        subst hv1 hv2
        clear y0 y1 y2 y3 y4 y5 y6 hl1 hl2
        have h8 : Own W (b0 ++ (lb ++ (pb ++ (slotBlocks Ls ++ (kBlk t (.slice A0 i c0) (.slice none 0 0) lk (.slice none 0 0) :: (rBlk q B o N k c d e :: (kBlk (b + 1) (.slice none 0 0) (.slice none 0 0) false (.slice none 0 0) :: (chB b c.C c.S c.O d e c.key :: m)))))))) w7 := h7.perm (see_perm1 _ _ _ _)
        have h9 := h8.alloc (.cells #[.int .i64 x.slab, .slice A1 l1 c1, .int .u64 x.turn, .slice A2 l2 c2] 105)
        have H10 := Lib.hid (h9.alloc (.cells #[.int .i64 x.slab, .slice A1 l1 c1, .int .u64 x.turn, .slice A2 l2 c2] 105))
        have hsrc := src_vals (w7.alloc (.cells #[.int .i64 x.slab, .slice A1 l1 c1, .int .u64 x.turn, .slice A2 l2 c2] 105)) 105 [.int .i64 x.slab, .slice A1 l1 c1, .int .u64 x.turn, .slice A2 l2 c2]
        rw [World.size_alloc] at hsrc
        have HSRC := Lib.hid hsrc
        have hone : ∀ u ∈ [Value.int .i64 x.slab, .slice A1 l1 c1, .int .u64 x.turn, .slice A2 l2 c2], u.oneCell' = true := by
          intro u hu
          simp at hu
          rcases hu with rfl | rfl | rfl | rfl <;> rfl
        have HONE := Lib.hid hone
        obtain ⟨⟨z0, z1, z2, z3⟩, ⟨f0, f1, f2, f3⟩⟩ := boxK h9.dropL.dropL.dropL.dropL
        clear hsrc hone h7 h8 h9
        go_wp2_with (at_builtin; refine app_struct rfl _ _ 98 rfl rfl rfl _ slot_info Tryz.underlying98 rfl (by omega) (by omega) HSV2.out H10.out HSRC.out HONE.out (by omega) ?_; intro v' w' bs' k1 k2; have K1 := Lib.hid k1; obtain ⟨A9, c9, hv9, -, -⟩ := k1.slice; subst hv9; have K2 := Lib.hid k2; clear z0 z1 z2 z3 f0 f1 f2 f3; obtain ⟨⟨z0, z1, z2, z3⟩, ⟨f0, f1, f2, f3⟩⟩ := boxK k2.dropL.dropL.dropL.dropL; clear k1 k2)
        have hst := (kset0 (sv' := .slice A9 (i + 1) c9) (K2.out.perm (see_perm2 _ _ _ _ _ _)))
        refine ⟨⟨i + 1, Ls ++ [⟨x, .slice A1 l1 c1, lb, .slice A2 l2 c2, pb⟩], .slice A9 (i + 1) c9, bs', by go_num, by omega, ?_, ?_, ?_, ?_, ?_⟩, by simp [intOf]; omega⟩
        · show _ = _
          rw [List.length_append, HLI.out]
          rfl
        · show _ = _
          rw [List.map_append]
          exact HUP2.out
        · show SlotsOk _
          intro s hs
          rcases List.mem_append.1 hs with hs | hs
          · exact HSO.out s hs
          · rw [List.mem_singleton] at hs
            subst hs
            exact ⟨KL.out, KP.out⟩
        · show SlotsV _ _ _
          unfold SlotsV
          rw [List.length_append, HLI.out, slotCells_append]
          exact K1.out
        · refine hst.perm ?_
          rw [slotBlocks_append]
          exact see_perm3 _ _ _ _ _ _
    · have hiC : i = c.C := by omega
      subst hiC
      have hlti : ¬ (c.C : Int) < (c.C : Int) := by omega
      have hch := fun ws (hws : Own W (b0 ++ (slotBlocks Ls ++ (kBlk t (.slice A0 c.C c0) (.slice none 0 0) lk (.slice none 0 0) :: (rBlk q B o N k c d e :: (kBlk (b + 1) (.slice none 0 0) (.slice none 0 0) false (.slice none 0 0) :: (chB b c.C c.S c.O d e c.key :: m)))))) ws) => rchain_s hws HC.out (((HW.out.more (m' := [kBlk t (.slice A0 c.C c0) (.slice none 0 0) lk (.slice none 0 0), rBlk q B o N k c d e, kBlk (b + 1) (.slice none 0 0) (.slice none 0 0) false (.slice none 0 0), chB b c.C c.S c.O d e c.key])).more (m' := slotBlocks Ls)).more (m' := b0)) x1 HX1.out
      have hpe : chain shelfOf (nextAt c g) c.S (c.S + 1) [] x1 = shelfP c g := by
        unfold shelfP
        rw [HA1.out]
      rw [hpe] at hch
      have HRW := Lib.hid hr
      obtain ⟨y0, y1, y2, y3, y4, y5, y6⟩ := box7 hr.dropL.dropL.skip; obtain ⟨v0, v1, v2, v3, v4, v5⟩ := box6 hr.dropL.dropL.skip.skip.skip; obtain ⟨q0, q1⟩ := HG.out _ hr.dropL.dropL.skip.skip.skip.skip
      have hk := HR.out
      rw [HUP.out] at hk
      simp only at hk
      clear hpe hr
      cases hsh : shelfP c g with
      | none =>
        rw [hsh] at hch hk
        simp only at hk
        subst hk
        have HCH := Lib.hid hch
        clear hch hsh
        go_wp2_with fail
        go_region_held3 (fun w' => (w'.cell? ⟨q, 0, none⟩ = some (.slice (some ⟨B, o, none⟩) N k) ∧ w'.cell? ⟨q, 1, none⟩ = some (.int .i64 c.C) ∧ w'.cell? ⟨q, 2, none⟩ = some (.int .i64 c.S) ∧ w'.cell? ⟨q, 3, none⟩ = some (.int .i64 c.O) ∧ w'.cell? ⟨q, 4, none⟩ = some (.int .i64 d) ∧ w'.cell? ⟨q, 5, none⟩ = some (.int .i64 e) ∧ w'.cell? ⟨q, 6, none⟩ = some (.int .u64 c.key)) ∧ (w'.cell? ⟨b, 0, none⟩ = some (.int .i64 c.C) ∧ w'.cell? ⟨b, 1, none⟩ = some (.int .i64 c.S) ∧ w'.cell? ⟨b, 2, none⟩ = some (.int .i64 c.O) ∧ w'.cell? ⟨b, 3, none⟩ = some (.int .i64 d) ∧ w'.cell? ⟨b, 4, none⟩ = some (.int .i64 e) ∧ w'.cell? ⟨b, 5, none⟩ = some (.int .u64 c.key)) ∧ w'.cell? ⟨B, o + p1, none⟩ = some (.int .u64 (x1 : Int))) (first | (refine ⟨⟨?_, ?_, ?_, ?_, ?_, ?_, ?_⟩, ⟨?_, ?_, ?_, ?_, ?_, ?_⟩, ?_⟩ <;> assumption) | go_keep)
          (first | (go_at_call 90; refine (Apart.shelf_ok HC.out.ok HRW.out.drew).mono ?_; rintro r w7 ⟨rfl, h7⟩; rw [HPI1.out]; obtain ⟨y0, y1, y2, y3, y4, y5, y6⟩ := box7 h7.dropL.dropL.skip; obtain ⟨v0, v1, v2, v3, v4, v5⟩ := box6 h7.dropL.dropL.skip.skip.skip; obtain ⟨q0, q1⟩ := HG.out _ h7.dropL.dropL.skip.skip.skip.skip) |
            (go_at_call 89; refine (HCH.out _ h7).mono ?_; rintro r w8 ⟨rfl, h8⟩; obtain ⟨y0, y1, y2, y3, y4, y5, y6⟩ := box7 h8.dropL.dropL.skip; obtain ⟨v0, v1, v2, v3, v4, v5⟩ := box6 h8.dropL.dropL.skip.skip.skip; obtain ⟨q0, q1⟩ := HG.out _ h8.dropL.dropL.skip.skip.skip.skip))
        clear y0 y1 y2 y3 y4 y5 y6 v0 v1 v2 v3 v4 v5 q0 q1
        obtain ⟨⟨z0, z1, z2, z3⟩, ⟨f0, f1, f2, f3⟩⟩ := boxK h8.dropL.dropL.skip.skip
        go_wp2_with fail
        have h9 := kset (sv' := .slice none 0 0) (hv' := .slice none 0 0) (l' := false) (lv' := .slice none 0 0) h8.dropL.dropL.skip.skip
        obtain ⟨⟨e0, e1, e2, e3⟩, -⟩ := boxK h9
        exact bodyPost_ret (v := .tuple #[.agg #[.slice none 0 0, .slice none 0 0, .bool false, .slice none 0 0], .int .i64 150]) (by simp [results, Tryz.f64, go_sem, e0, e1, e2, e3]) rfl ⟨rfl, h9.skip.skip⟩
      | some sl =>
        rw [hsh] at hch hk
        simp only at hk
        have HCH := Lib.hid hch
        have HK := Lib.hid hk
        clear hch hsh hk
        go_wp2_with fail
        go_region_held3 (fun w' => (w'.cell? ⟨q, 0, none⟩ = some (.slice (some ⟨B, o, none⟩) N k) ∧ w'.cell? ⟨q, 1, none⟩ = some (.int .i64 c.C) ∧ w'.cell? ⟨q, 2, none⟩ = some (.int .i64 c.S) ∧ w'.cell? ⟨q, 3, none⟩ = some (.int .i64 c.O) ∧ w'.cell? ⟨q, 4, none⟩ = some (.int .i64 d) ∧ w'.cell? ⟨q, 5, none⟩ = some (.int .i64 e) ∧ w'.cell? ⟨q, 6, none⟩ = some (.int .u64 c.key)) ∧ (w'.cell? ⟨b, 0, none⟩ = some (.int .i64 c.C) ∧ w'.cell? ⟨b, 1, none⟩ = some (.int .i64 c.S) ∧ w'.cell? ⟨b, 2, none⟩ = some (.int .i64 c.O) ∧ w'.cell? ⟨b, 3, none⟩ = some (.int .i64 d) ∧ w'.cell? ⟨b, 4, none⟩ = some (.int .i64 e) ∧ w'.cell? ⟨b, 5, none⟩ = some (.int .u64 c.key)) ∧ w'.cell? ⟨B, o + p1, none⟩ = some (.int .u64 (x1 : Int))) (first | (refine ⟨⟨?_, ?_, ?_, ?_, ?_, ?_, ?_⟩, ⟨?_, ?_, ?_, ?_, ?_, ?_⟩, ?_⟩ <;> assumption) | go_keep)
          (first | (go_at_call 90; refine (Apart.shelf_ok HC.out.ok HRW.out.drew).mono ?_; rintro r w7 ⟨rfl, h7⟩; rw [HPI1.out]; obtain ⟨y0, y1, y2, y3, y4, y5, y6⟩ := box7 h7.dropL.dropL.skip; obtain ⟨v0, v1, v2, v3, v4, v5⟩ := box6 h7.dropL.dropL.skip.skip.skip; obtain ⟨q0, q1⟩ := HG.out _ h7.dropL.dropL.skip.skip.skip.skip) |
            (go_at_call 89; refine (HCH.out _ h7).mono ?_; rintro r w8 ⟨hv, b1, rfl, KH, h8⟩; obtain ⟨y0, y1, y2, y3, y4, y5, y6⟩ := box7 h8.dropL.dropL.dropL.skip; obtain ⟨v0, v1, v2, v3, v4, v5⟩ := box6 h8.dropL.dropL.dropL.skip.skip.skip; obtain ⟨q0, q1⟩ := HG.out _ h8.dropL.dropL.dropL.skip.skip.skip.skip))
        obtain ⟨A3, c3, hhv, -, -⟩ := KH.out.slice
        obtain ⟨l3, hl3⟩ : ∃ l3, sl.length = l3 := ⟨_, rfl⟩
        rw [hl3] at hhv
        subst hhv
        have h9 := h8.perm (see_perm4 _ _ _ _ _ _ _ _)
        have h10 := kset1 (hv' := .slice A3 l3 c3) h9
        clear y0 y1 y2 y3 y4 y5 y6 v0 v1 v2 v3 v4 v5 q0 q1 hl3 h7 h8
        obtain ⟨⟨z0, z1, z2, z3⟩, ⟨f0, f1, f2, f3⟩⟩ := boxK h9
        obtain ⟨v0, v1, v2, v3, v4, v5⟩ := box6 h10.skip.skip.skip
        go_wp2_with fail
        obtain ⟨wz, hwz⟩ : ∃ wz, w8.setCell ⟨t, 1, none⟩ (.slice A3 l3 c3) = wz := ⟨_, rfl⟩
        rw [hwz] at h10 ⊢
        have H10 := Lib.hid h10
        clear z0 z1 z2 z3 f0 f1 f2 f3 v0 v1 v2 v3 v4 v5 h9 h10 hwz
        obtain ⟨w0, hw0⟩ : ∃ w0 : World, w0 = wr := ⟨_, rfl⟩
        subst hw0
        go_loopw [75] (fun iv wr => ∃ (i : Nat) (Ll : List SlabN) (lv : Value) (b2 : List (Nat × Obj)), iv = .int .i64 i ∧ i ≤ c.S ∧ Hid (Ll.length = i) ∧ Hid (upto (slabP c g) i = some (Ll.map (·.x))) ∧ Hid (SlabsOk Ll) ∧ Hid (SlabsV lv Ll b2) ∧ Own W (b2 ++ (slabBlocks Ll ++ (kBlk t (.slice A0 c.C c0) (.slice A3 l3 c3) lk lv :: (rBlk q B o N k c d e :: (kBlk (b + 1) (.slice none 0 0) (.slice none 0 0) false (.slice none 0 0) :: (chB b c.C c.S c.O d e c.key :: (b1 ++ (b0 ++ (slotBlocks Ls ++ m))))))))) wr) (fun iv _ => c.S - (intOf iv).toNat)
        case atStart => exact ⟨0, [], .slice none 0 0, [], rfl, by omega, rfl, rfl, (fun s hs => by cases hs), SlO.nil _ _ _, H10.out⟩
        case round =>
          clear H10
          obtain ⟨i, Ll, lv, b2, rfl, hi2, HLI2, HUP2, HLO, HLV, hr⟩ := hrel
          obtain ⟨A4, c4, hv4, -, -⟩ := HLV.out.slice
          rw [HLI2.out] at hv4
          subst hv4
          have HLV2 : Hid (SlO true 129 5 (.slice A4 i c4) i (slabCells Ll) b2) := by have := HLV.out; unfold SlabsV at this; rw [HLI2.out] at this; exact this
          by_cases hlt2 : i < c.S
          · have hlti2 : (i : Int) < (c.S : Int) := by omega
            have hsl := rslab_spec hr HC.out ((((((HW.out.more (m' := slotBlocks Ls)).more (m' := b0)).more (m' := b1)).more (m' := [kBlk t (.slice A0 c.C c0) (.slice A3 l3 c3) lk (.slice A4 i c4), rBlk q B o N k c d e, kBlk (b + 1) (.slice none 0 0) (.slice none 0 0) false (.slice none 0 0), chB b c.C c.S c.O d e c.key])).more (m' := slabBlocks Ll)).more (m' := b2)) i hlt2
            obtain ⟨y0, y1, y2, y3, y4, y5, y6⟩ := box7 hr.dropL.dropL.skip
            cases hsp : slabP c g i with
            | none =>
              rw [hsp] at hsl
              have HSL := Lib.hid hsl
              have hnone : upto (slabP c g) c.S = none := upto_none hsp hlt2
              have hk := HK.out
              rw [hnone] at hk
              simp only at hk
              subst hk
              clear hsl hsp hnone
              go_wp2_with fail
              refine HSL.out.mono ?_
              rintro r w9 ⟨rfl, h9⟩
              clear y0 y1 y2 y3 y4 y5 y6
              have h11 := h9.alloc (.cells #[.int .i64 0, .int .i64 0, .bool false, .bool false, .slice none 0 0] 129)
              obtain ⟨⟨z0, z1, z2, z3⟩, ⟨f0, f1, f2, f3⟩⟩ := boxK h11.dropL.dropL.skip.skip
              go_wp2_with fail
              have h12 := kset (sv' := .slice none 0 0) (hv' := .slice none 0 0) (l' := false) (lv' := .slice none 0 0) h11.dropL.dropL.skip.skip
              obtain ⟨⟨e0, e1, e2, e3⟩, -⟩ := boxK h12
              exact bodyPost_ret (v := .tuple #[.agg #[.slice none 0 0, .slice none 0 0, .bool false, .slice none 0 0], .int .i64 150]) (by simp [results, Tryz.f64, go_sem, e0, e1, e2, e3]) rfl ⟨rfl, h12.skip.skip.dropL.dropL.dropL⟩
            | some x =>
              rw [hsp] at hsl
              have HSL := Lib.hid hsl
              have HUP3 := Lib.hid (upto_step HUP2.out hsp)
              clear hsl hsp
              go_wp2_with fail
              refine HSL.out.mono ?_
              rintro r w9 ⟨lv, lb, rfl, KL, h9⟩
              obtain ⟨A1, c1, hv1, -, -⟩ := KL.out.slice
              obtain ⟨l1, hl1⟩ : ∃ l1, x.first.length = l1 := ⟨_, rfl⟩
              rw [hl1] at hv1
              subst hv1
              clear y0 y1 y2 y3 y4 y5 y6 hl1
              have h11 : Own W (b2 ++ (lb ++ (slabBlocks Ll ++ (kBlk t (.slice A0 c.C c0) (.slice A3 l3 c3) lk (.slice A4 i c4) :: (rBlk q B o N k c d e :: (kBlk (b + 1) (.slice none 0 0) (.slice none 0 0) false (.slice none 0 0) :: (chB b c.C c.S c.O d e c.key :: (b1 ++ (b0 ++ (slotBlocks Ls ++ m)))))))))) w9 := h9.swap
              have h12 := h11.alloc (.cells #[.int .i64 x.counts.inuse, .int .i64 x.counts.objects, .bool x.counts.frozen, .bool x.counts.live, .slice A1 l1 c1] 129)
              have H13 := Lib.hid (h12.alloc (.cells #[.int .i64 x.counts.inuse, .int .i64 x.counts.objects, .bool x.counts.frozen, .bool x.counts.live, .slice A1 l1 c1] 129))
              have hsrc := src_vals (w9.alloc (.cells #[.int .i64 x.counts.inuse, .int .i64 x.counts.objects, .bool x.counts.frozen, .bool x.counts.live, .slice A1 l1 c1] 129)) 129 [.int .i64 x.counts.inuse, .int .i64 x.counts.objects, .bool x.counts.frozen, .bool x.counts.live, .slice A1 l1 c1]
              rw [World.size_alloc] at hsrc
              have HSRC := Lib.hid hsrc
              have hone : ∀ u ∈ ([.int .i64 x.counts.inuse, .int .i64 x.counts.objects, .bool x.counts.frozen, .bool x.counts.live, .slice A1 l1 c1] : List Value), u.oneCell' = true := by
                intro u hu
                simp at hu
                rcases hu with rfl | rfl | rfl | rfl | rfl <;> rfl
              have HONE := Lib.hid hone
              obtain ⟨⟨z0, z1, z2, z3⟩, ⟨f0, f1, f2, f3⟩⟩ := boxK h12.dropL.dropL.dropL
              clear hsrc hone h9 h11 h12
              go_wp2_with (at_builtin; refine app_struct rfl _ _ 99 rfl rfl rfl _ slab_info Tryz.underlying99 rfl (by omega) (by omega) HLV2.out H13.out HSRC.out HONE.out (by omega) ?_; intro v' w' bs' k1 k2; have K1 := Lib.hid k1; obtain ⟨A9, c9, hv9, -, -⟩ := k1.slice; subst hv9; have K2 := Lib.hid k2; clear z0 z1 z2 z3 f0 f1 f2 f3; obtain ⟨⟨z0, z1, z2, z3⟩, ⟨f0, f1, f2, f3⟩⟩ := boxK k2.dropL.dropL.dropL; clear k1 k2)
              have hst := (kset3 (lv' := .slice A9 (i + 1) c9) (K2.out.perm (see_perm5 _ _ _ _ _)))
              refine ⟨⟨i + 1, Ll ++ [⟨x, .slice A1 l1 c1, lb⟩], .slice A9 (i + 1) c9, bs', by go_num, by omega, ?_, ?_, ?_, ?_, ?_⟩, by simp [intOf]; omega⟩
              · show _ = _
                rw [List.length_append, HLI2.out]
                rfl
              · show _ = _
                rw [List.map_append]
                exact HUP3.out
              · show SlabsOk _
                intro s hs
                rcases List.mem_append.1 hs with hs | hs
                · exact HLO.out s hs
                · rw [List.mem_singleton] at hs
                  subst hs
                  exact KL.out
              · show SlabsV _ _ _
                unfold SlabsV
                rw [List.length_append, HLI2.out, slabCells_append]
                exact K1.out
              · refine hst.perm ?_
                rw [slabBlocks_append]
                exact see_perm6 _ _ _ _ _
          · have hiS : i = c.S := by omega
            subst hiS
            have hlti2 : ¬ (c.S : Int) < (c.S : Int) := by omega
            have hk := HK.out
            rw [HUP2.out] at hk
            simp only at hk
            have HK2 := Lib.hid hk
            have ht2 := hr.dropL.dropL
            obtain ⟨⟨z0, z1, z2, z3⟩, ⟨f0, f1, f2, f3⟩⟩ := boxK ht2
            obtain ⟨⟨g0, g1, g2, g3⟩, ⟨u0, u1, u2, u3⟩⟩ := boxK ht2.skip.skip
            clear hk
            go_wp2_with fail
            have hx := hr.perm (see_perm7 _ _ _ _ _ _)
            have h9 := kset (sv' := .slice A0 c.C c0) (hv' := .slice A3 l3 c3) (l' := lk) (lv' := .slice A4 c.S c4) hx
            obtain ⟨⟨e0, e1, e2, e3⟩, -⟩ := boxK h9
            rw [HK2.out]
            refine bodyPost_ret (v := .tuple #[.agg #[.slice A0 c.C c0, .slice A3 l3 c3, .bool lk, .slice A4 c.S c4], .int .i64 0]) (by simp [results, Tryz.f64, go_sem, e0, e1, e2, e3]) rfl ?_
            refine ⟨_, b0 ++ (slotBlocks Ls ++ (b1 ++ (b2 ++ slabBlocks Ll))), rfl, ⟨Ls, .slice A0 c.C c0, b0, .slice A3 l3 c3, b1, Ll, .slice A4 c.S c4, b2, rfl, rfl, HSO.out, HSV.out, KH.out, rfl, HLO.out, HLV.out, rfl⟩, ?_⟩
            rw [List.append_assoc, List.append_assoc, List.append_assoc, List.append_assoc]
            exact (h9.skip.sub (see_sub _ _ _ _ _ _)).perm (see_perm8 _ _ _ _ _ _)
end
end Go.Proofs.YtllbnoojkgbjiaaGreat.See

/-
  chart.See, and the words of a memory, as known calls of the runner. No condition.
-/
namespace Go.Proofs.YtllbnoojkgbjiaaGreat.Ex
open Go Mem See
open Go.RowKit
section
/-- which lists of a core are empty: of its slots, of its shelf, of its slabs -/
structure Sh where
  slots : List (Bool × Bool)
  shelf : Bool
  slabs : List Bool
def cn : Bool → Nat
  | true => 0
  | false => 1
def lsAV : Bool → Nat → Nat → AV
  | true, _, _ => .zsl
  | false, nm, q => .dsl nm (.len (.lvar q)) 1
def lsTB : Bool → Nat → List TB
  | true, _ => []
  | false, q => [.recs (.lvar q) [.int .i64] 3]
def slotAV : List (Bool × Bool) → Nat → Nat → Nat → List AV
  | [], _, _, _ => []
  | (e1, e2) :: r, b, q, nm => .sym .i64 (.var b) :: lsAV e1 nm q :: .sym .u64 (.var (b + 1)) :: lsAV e2 (nm + cn e1) (q + 1) :: slotAV r (b + 2) (q + 2) (nm + cn e1 + cn e2)
def slotTB : List (Bool × Bool) → Nat → List TB
  | [], _ => []
  | (e1, e2) :: r, q => lsTB e1 q ++ (lsTB e2 (q + 1) ++ slotTB r (q + 2))
def slotCn : List (Bool × Bool) → Nat
  | [] => 0
  | (e1, e2) :: r => cn e1 + cn e2 + slotCn r
def slabAV : List Bool → Nat → Nat → Nat → List AV
  | [], _, _, _ => []
  | e :: r, b, q, nm => .sym .i64 (.var b) :: .sym .i64 (.var (b + 1)) :: .bsym (.eq (.var (b + 2)) (.lit 0)) false :: .bsym (.eq (.var (b + 3)) (.lit 0)) false :: lsAV e nm q :: slabAV r (b + 4) (q + 1) (nm + cn e)
def slabTB : List Bool → Nat → List TB
  | [], _ => []
  | e :: r, q => lsTB e q ++ slabTB r (q + 1)
def Sh.n (s : Sh) : Nat := s.slots.length
def seeNews (s : Sh) (b q : Nat) : List TB :=
  .cells (slotAV s.slots b q (rel + 1)) 105 :: (slotTB s.slots q ++ (lsTB s.shelf (q + 2 * s.n) ++ (.cells (slabAV s.slabs (b + 2 * s.n + 1) (q + 2 * s.n + 1) (rel + 1 + slotCn s.slots + cn s.shelf + 1)) 129 :: slabTB s.slabs (q + 2 * s.n + 1))))
def seeRes (s : Sh) (b q : Nat) : AV :=
  .tup [.agg [.sl rel 0 s.n 4 .any, lsAV s.shelf (rel + 1 + slotCn s.slots) (q + 2 * s.n), .bsym (.eq (.var (b + 2 * s.n)) (.lit 0)) false, .sl (rel + 1 + slotCn s.slots + cn s.shelf) 0 s.slabs.length 5 .any], .int .i64 0]
/-- a core that is seen: its words are the slice of that name -/
def kcSee (nW qW : Nat) (ch : AV) (s : Sh) (b q : Nat) : Kc := { f := 64, args := [.dsl nW (.len (.lvar qW)) 1, ch], pre := [(nW, .recs (.lvar qW) [.int .u64] 23)], news := seeNews s b q, res := seeRes s b q }
/-- words of a memory -/
def kcWords (n0 n1 i qW : Nat) : Kc := { f := 9, args := [.ptr n0 0], pre := [(n0, .opb i n0 n1), (n1, .opb (i + 1) n0 n1)], post := [(n0, .opb i n0 n1), (n1, .opb (i + 1) n0 n1)], news := [.recs (.lvar qW) [.int .u64] 23], res := .dsl rel (.len (.lvar qW)) 1 }
/-! what numbers must be -/
def LsVal (σ : Nat → Int) (q : Nat) (L : List Int) : Prop := (σ (ln q)).toNat = L.length ∧ ∀ (i : Nat) x, L[i]? = some x → σ (lc q i 0) = x
def SlotVal (σ : Nat → Int) : List SlotP → List (Bool × Bool) → Nat → Nat → Prop
  | [], [], _, _ => True
  | s :: r, (e1, e2) :: t, b, q => (e1 = s.list.isEmpty ∧ e2 = s.parts.isEmpty) ∧ (σ b = s.slab ∧ σ (b + 1) = s.turn) ∧ (LsVal σ q s.list ∧ LsVal σ (q + 1) s.parts) ∧ SlotVal σ r t (b + 2) (q + 2)
  | _, _, _, _ => False
def SlabVal (σ : Nat → Int) : List SlabP → List Bool → Nat → Nat → Prop
  | [], [], _, _ => True
  | s :: r, e :: t, b, q => e = s.first.isEmpty ∧ (σ b = s.counts.inuse ∧ σ (b + 1) = s.counts.objects ∧ (s.counts.frozen = !(σ (b + 2) == 0)) ∧ s.counts.live = !(σ (b + 3) == 0)) ∧ LsVal σ q s.first ∧ SlabVal σ r t (b + 4) (q + 1)
  | _, _, _, _ => False
def SeeVal (σ : Nat → Int) (K : CoreP) (s : Sh) (b q : Nat) : Prop :=
  SlotVal σ K.slots s.slots b q ∧ (s.shelf = K.shelf.isEmpty ∧ LsVal σ (q + 2 * s.n) K.shelf ∧ K.locked = !(σ (b + 2 * s.n) == 0)) ∧ SlabVal σ K.slabs s.slabs (b + 2 * s.n + 1) (q + 2 * s.n + 1) ∧ 0 < s.n ∧ 0 < s.slabs.length
/-! blocks under names, from one on -/
def NamedAt (ρ : Ren) (nm : Nat) (ds : List (Nat × Obj)) : Prop := ∀ (i : Nat) d, ds[i]? = some d → ρ (nm + i) = some (d.1, objSize d.2)
theorem NamedAt.left {ρ : Ren} {nm : Nat} {a b : List (Nat × Obj)} (h : NamedAt ρ nm (a ++ b)) : NamedAt ρ nm a := fun i d hi => h i d (by rw [List.getElem?_append_left (List.getElem?_eq_some_iff.1 hi).1]; exact hi)
theorem NamedAt.right {ρ : Ren} {nm : Nat} {a b : List (Nat × Obj)} (h : NamedAt ρ nm (a ++ b)) : NamedAt ρ (nm + a.length) b := fun i d hi => by
  have := h (a.length + i) d (by rw [List.getElem?_append_right (by omega), Nat.add_sub_cancel_left]; exact hi)
  rw [← this]
  congr 1
  omega
def AllTR [Nums] (ρ : Ren) : List TB → List (Nat × Obj) → Prop
  | [], [] => True
  | t :: ts, d :: ds => TR ρ t (objSize d.2) (some d.2) ∧ AllTR ρ ts ds
  | _, _ => False
theorem AllTR.append [Nums] {ρ : Ren} : ∀ {a b : List TB} {x y : List (Nat × Obj)}, AllTR ρ a x → AllTR ρ b y → AllTR ρ (a ++ b) (x ++ y)
  | [], _, [], _, _, h => h
  | [], _, _ :: _, _, h, _ => h.elim
  | _ :: _, _, [], _, h, _ => h.elim
  | t :: a, _, d :: x, _, h, k => ⟨h.1, AllTR.append h.2 k⟩
theorem AllTR.get [Nums] {ρ : Ren} : ∀ {a : List TB} {x : List (Nat × Obj)}, AllTR ρ a x → ∀ (i : Nat) t d, a[i]? = some t → x[i]? = some d → TR ρ t (objSize d.2) (some d.2)
  | [], [], _, _, _, _, h, _ => by simp at h
  | [], _ :: _, h, _, _, _, _, _ => h.elim
  | _ :: _, [], h, _, _, _, _, _ => h.elim
  | t :: a, d :: x, h, 0, _, _, h1, h2 => by
    simp only [List.getElem?_cons_zero, Option.some.injEq] at h1 h2
    subst h1; subst h2
    exact h.1
  | t :: a, d :: x, h, i + 1, _, _, h1, h2 => AllTR.get h.2 i _ _ (by simpa using h1) (by simpa using h2)
variable [Nums]
/-- a list that is owned -/
theorem ls_own {v : Value} {L : List Int} {bs : List (Nat × Obj)} {e : Bool} (h : IntsOwn true v L bs) (he : e = L.isEmpty) : ∃ ds, ds.Sublist bs ∧ ds.length = cn e ∧
    ∀ (ρ : Ren) (nm q : Nat), NamedAt ρ nm ds → LsVal Nums.σ q L → VR ρ (lsAV e nm q) v ∧ AllTR ρ (lsTB e q) ds := by
  subst he
  cases L with
  | nil =>
    refine ⟨[], List.nil_sublist _, rfl, fun ρ nm q _ _ => ⟨?_, trivial⟩⟩
    obtain ⟨A, c, rfl, _, h2⟩ := SlO.slice h
    show VR ρ .zsl _
    unfold VR
    exact ⟨A, c, rfl, h2⟩
  | cons x L =>
    obtain ⟨g, cap, cur, rfl, rfl, h1, h2, ⟨h3, h4⟩, h5⟩ := SlO.form h (by simp)
    have h4 := h4 rfl
    refine ⟨[(g, .cells cur 3)], List.Sublist.refl _, rfl, fun ρ nm q hn hv => ?_⟩
    have hn := hn 0 _ rfl
    rw [Nat.add_zero] at hn
    have hn : ρ nm = some (g, cur.size) := hn
    refine ⟨?_, ?_, trivial⟩
    · show VR ρ (.dsl nm (.len (.lvar q)) 1) _
      unfold VR
      refine ⟨g, cur.size, _, cap, hn, rfl, h1, h2, h4.symm, ?_⟩
      simp only [SE.ev, SE.evN, hv.1]
    · refine ⟨cur, rfl, rfl, ?_, fun r j k hr hk => ?_⟩
      · simp only [SE.evN, hv.1, List.length_cons, List.length_nil, Nat.zero_add, Nat.mul_one]
        simp only [List.length_cons] at h1
        show L.length + 1 ≤ cur.size
        omega
      · simp only [SE.evN, hv.1] at hr
        have hj : j = 0 := by
          have := (List.getElem?_eq_some_iff.1 hk).1
          simp only [List.length_cons, List.length_nil] at this
          omega
        subst hj
        simp only [List.getElem?_cons_zero, Option.some.injEq] at hk
        subst hk
        simp only [List.length_cons, List.length_nil, Nat.zero_add, Nat.mul_one, Nat.add_zero, SE.evA]
        rw [hv.2 r _ (List.getElem?_eq_getElem hr)]
        have h6 : (cur.toList.take ((x :: L).length * 1))[r]? = (ints (x :: L))[r]? := by rw [h5]
        rw [List.getElem?_take, if_pos (by omega)] at h6
        rw [← Array.getElem?_toList, h6]
        unfold ints
        rw [List.getElem?_map, List.getElem?_eq_getElem hr]
        rfl
omit [Nums] in
theorem allOne_cons {v : AV} {l : List AV} (h : v.one = true) (hl : allOne l = true) : allOne (v :: l) = true := by
  unfold allOne
  rw [h]
  exact hl
omit [Nums] in
theorem lsAV_one (e : Bool) (nm q : Nat) : (lsAV e nm q).one = true := by cases e <;> rfl
theorem slots_own : ∀ {Ls : List SlotN} {t : List (Bool × Bool)} {b q : Nat}, SlotsOk Ls → SlotVal Nums.σ (Ls.map (·.x)) t b q → ∃ ds, ds.Sublist (slotBlocks Ls) ∧ ds.length = slotCn t ∧
    ∀ (ρ : Ren) (nm : Nat), NamedAt ρ nm ds → VRs ρ (slotAV t b q nm) (slotCells Ls) ∧ AllTR ρ (slotTB t q) ds ∧ allOne (slotAV t b q nm) = true
  | [], [], b, q, _, _ => ⟨[], List.nil_sublist _, rfl, fun ρ nm _ => ⟨VRs.nil, trivial, rfl⟩⟩
  | [], _ :: _, _, _, _, h => by simp [SlotVal] at h
  | s :: Ls, [], _, _, _, h => by simp [SlotVal] at h
  | s :: Ls, (e1, e2) :: t, b, q, ho, h => by
    simp only [List.map_cons, SlotVal] at h
    obtain ⟨⟨h1, h2⟩, ⟨h3, h4⟩, ⟨h5, h6⟩, h7⟩ := h
    obtain ⟨o1, o2⟩ := ho s List.mem_cons_self
    obtain ⟨d1, s1, n1, k1⟩ := ls_own o1 h1
    obtain ⟨d2, s2, n2, k2⟩ := ls_own o2 h2
    obtain ⟨d3, s3, n3, k3⟩ := slots_own (fun x hx => ho x (List.mem_cons_of_mem _ hx)) h7
    refine ⟨d1 ++ (d2 ++ d3), ?_, by simp only [List.length_append, slotCn, n1, n2, n3]; omega, fun ρ nm hn => ?_⟩
    · have : slotBlocks (s :: Ls) = s.lb ++ (s.pb ++ slotBlocks Ls) := by simp [slotBlocks]
      rw [this]
      exact s1.append (s2.append s3)
    · obtain ⟨v1, t1⟩ := k1 ρ nm q hn.left h5
      have hr := hn.right
      rw [n1] at hr
      obtain ⟨v2, t2⟩ := k2 ρ (nm + cn e1) (q + 1) hr.left h6
      have hr2 := hr.right
      rw [n2] at hr2
      obtain ⟨v3, t3, o3⟩ := k3 ρ (nm + cn e1 + cn e2) hr2
      refine ⟨?_, AllTR.append t1 (AllTR.append t2 t3), ?_⟩
      · have : slotCells (s :: Ls) = .int .i64 s.x.slab :: s.lv :: .int .u64 s.x.turn :: s.pv :: slotCells Ls := by simp [slotCells, SlotN.cells]
        rw [this]
        unfold slotAV
        refine VRs.cons ?_ (VRs.cons v1 (VRs.cons ?_ (VRs.cons v2 v3)))
        · unfold VR; simp only [SE.ev, h3]
        · unfold VR; simp only [SE.ev, h4]
      · exact allOne_cons rfl (allOne_cons (lsAV_one _ _ _) (allOne_cons rfl (allOne_cons (lsAV_one _ _ _) o3)))
theorem slabs_own : ∀ {Ls : List SlabN} {t : List Bool} {b q : Nat}, SlabsOk Ls → SlabVal Nums.σ (Ls.map (·.x)) t b q → ∃ ds, ds.Sublist (slabBlocks Ls) ∧
    ∀ (ρ : Ren) (nm : Nat), NamedAt ρ nm ds → VRs ρ (slabAV t b q nm) (slabCells Ls) ∧ AllTR ρ (slabTB t q) ds ∧ allOne (slabAV t b q nm) = true
  | [], [], b, q, _, _ => ⟨[], List.nil_sublist _, fun ρ nm _ => ⟨VRs.nil, trivial, rfl⟩⟩
  | [], _ :: _, _, _, _, h => by simp [SlabVal] at h
  | s :: Ls, [], _, _, _, h => by simp [SlabVal] at h
  | s :: Ls, e :: t, b, q, ho, h => by
    simp only [List.map_cons, SlabVal] at h
    obtain ⟨h1, ⟨h2, h3, h4, h5⟩, h6, h7⟩ := h
    obtain ⟨d1, s1, n1, k1⟩ := ls_own (ho s List.mem_cons_self) h1
    obtain ⟨d3, s3, k3⟩ := slabs_own (fun x hx => ho x (List.mem_cons_of_mem _ hx)) h7
    refine ⟨d1 ++ d3, ?_, fun ρ nm hn => ?_⟩
    · have : slabBlocks (s :: Ls) = s.b ++ slabBlocks Ls := by simp [slabBlocks]
      rw [this]
      exact s1.append s3
    · obtain ⟨v1, t1⟩ := k1 ρ nm q hn.left h6
      have hr := hn.right
      rw [n1] at hr
      obtain ⟨v3, t3, o3⟩ := k3 ρ (nm + cn e) hr
      refine ⟨?_, AllTR.append t1 t3, ?_⟩
      · have : slabCells (s :: Ls) = .int .i64 s.x.counts.inuse :: .int .i64 s.x.counts.objects :: .bool s.x.counts.frozen :: .bool s.x.counts.live :: s.v :: slabCells Ls := by simp [slabCells, SlabN.cells]
        rw [this]
        unfold slabAV
        refine VRs.cons ?_ (VRs.cons ?_ (VRs.cons ?_ (VRs.cons ?_ (VRs.cons v1 v3))))
        · unfold VR; simp only [SE.ev, h2]
        · unfold VR; simp only [SE.ev, h3]
        · unfold VR; simp only [Cnd.ev, SE.ev, h4]; cases (Nums.σ (b + 2) == 0) <;> rfl
        · unfold VR; simp only [Cnd.ev, SE.ev, h5]; cases (Nums.σ (b + 3) == 0) <;> rfl
      · exact allOne_cons rfl (allOne_cons rfl (allOne_cons rfl (allOne_cons rfl (allOne_cons (lsAV_one _ _ _) o3))))
omit [Nums] in
theorem slotVal_len {σ : Nat → Int} : ∀ {L : List SlotP} {t : List (Bool × Bool)} {b q : Nat}, SlotVal σ L t b q → L.length = t.length
  | [], [], _, _, _ => rfl
  | [], _ :: _, _, _, h => by simp [SlotVal] at h
  | _ :: _, [], _, _, h => by simp [SlotVal] at h
  | s :: L, (e1, e2) :: t, b, q, h => by
    simp only [SlotVal] at h
    simp [slotVal_len h.2.2.2]
omit [Nums] in
theorem slabVal_len {σ : Nat → Int} : ∀ {L : List SlabP} {t : List Bool} {b q : Nat}, SlabVal σ L t b q → L.length = t.length
  | [], [], _, _, _ => rfl
  | [], _ :: _, _, _, h => by simp [SlabVal] at h
  | _ :: _, [], _, _, h => by simp [SlabVal] at h
  | s :: L, e :: t, b, q, h => by
    simp only [SlabVal] at h
    simp [slabVal_len h.2.2.2]
/-- a slice of structs that is owned -/
theorem row_own {v : Value} {n sz : Nat} {e : TypeId} {xs : List Value} {bs : List (Nat × Obj)} (h : SlO true e sz v n xs bs) (hn : 0 < n) : ∃ d, bs = [d] ∧
    ∀ (ρ : Ren) (nm : Nat) (l : List AV), ρ nm = some (d.1, objSize d.2) → VRs ρ l xs → allOne l = true → VR ρ (.sl nm 0 n sz .any) v ∧ TR ρ (.cells l e) (objSize d.2) (some d.2) := by
  have hl := h.1
  obtain ⟨g, cap, cur, rfl, rfl, h1, h2, ⟨h3, h4⟩, h5⟩ := SlO.form h hn
  refine ⟨_, rfl, fun ρ nm l hnm hv ho => ⟨?_, cur, rfl, rfl, ?_, fun i u hu => ?_⟩⟩
  · unfold VR
    exact ⟨g, _, cap, hnm, rfl, h1, h2, trivial⟩
  · rw [hv.len, hl]
    have := Nat.mul_le_mul_right sz h1
    show n * sz ≤ cur.size
    omega
  · obtain ⟨y, hy, hyr⟩ := hv.get hu
    refine ⟨allOne_mem ho u (List.mem_of_getElem? hu), y, ?_, hyr⟩
    rw [← h5, List.getElem?_take] at hy
    split at hy
    · rw [← Array.getElem?_toList]; exact hy
    · cases hy
variable {c : Ch} {g : List Nat} {K : CoreP} {s : Sh} {b q qW nW : Nat}
omit [Nums] in
theorem fn_see : FnOk Tryz.prog 64 := ⟨Tryz.f64, _, Tryz.func64, by kernel_rfl, rfl⟩
omit [Nums] in
theorem fn_words : FnOk Tryz.prog 9 := ⟨Tryz.f9, _, Tryz.func9, by kernel_rfl, rfl⟩
theorem kc_see {ch : AV} {d e : Int} (hnW : nW < rel) (hsh : ch.shut = true) (hch : valOf Nums.σ ch = cV c d e) (hc : COk c d e) (hgw : W64 g) (hgl : g.length = c.words) (hgv : LsVal Nums.σ qW (g.map fun (x : Nat) => (x : Int)))
    (hK : seeP c g = some K) (hv : SeeVal Nums.σ K s b q) : KcOk Tryz.prog (kcSee nW qW ch s b q) := by
  refine kc_own fn_see (by intro p hp; cases hp) (by intro p hp; simp only [kcSee, List.mem_cons, List.not_mem_nil, or_false] at hp; subst hp; exact hnW) fun _ ρ W w m args' bs hF ha hO => ?_
  obtain ⟨bw, ow, sw, r, rfl, pw, tw, rfl⟩ := hF
  obtain ⟨y, y2, hy, hp, hch2⟩ := VRs.two ha
  unfold VR at hp
  obtain ⟨bw', zw, len, cap, pw', rfl, hlc, hcm, hz, hlen⟩ := hp
  rw [pw] at pw'
  cases pw'
  have hch3 := VR.shut hch2 hsh
  rw [hch] at hch3
  subst hch3
  obtain ⟨cur, hcur, hsz, hle, hat⟩ := tw
  simp only [Option.some.injEq] at hcur
  subst hcur
  simp only [SE.ev, SE.evN, hgv.1, List.length_map] at hlen hle hat
  have hlen : len = g.length := by omega
  subst hlen
  have hargs2 : args' = #[.slice (some ⟨bw, 0, none⟩) g.length cap, cV c d e] := by
    apply Array.ext'
    rw [hy]
  subst hargs2
  have hrd : Rd W ((bw, .cells cur 23) :: m) bw 0 g := fun ws hws j x hj => by
    have hjl := (List.getElem?_eq_some_iff.1 hj).1
    rw [hws.cell List.mem_cons_self]
    have := hat j 0 (.int .u64) hjl rfl
    simp only [List.length_cons, List.length_nil, Nat.zero_add, Nat.mul_one, Nat.add_zero, SE.evA] at this
    rw [Nat.zero_add, this, hgv.2 j (x : Int) (by simp [hj])]
    rfl
  refine (see_spec (W := W) (m := (bw, .cells cur 23) :: m) hO hc ⟨hrd, rfl, hgl, hgw, hlc, hcm⟩).mono ?_
  rintro e' w' hpost
  rw [hK] at hpost
  obtain ⟨v, bs, rfl, hCo, hO2⟩ := hpost
  obtain ⟨Ls, sv, b0, hv0, b1, Ll, lv, b2, rfl, hLs, hso, hsv, hsh1, hLl, hlo, hlv, rfl⟩ := hCo.out
  obtain ⟨v1, ⟨v2, v3, v4⟩, v5, v6, v7⟩ := hv
  rw [← hLs] at v1
  rw [← hLl] at v5
  have n1 : Ls.length = s.n := by have := slotVal_len v1; rwa [List.length_map] at this
  have n2 : Ll.length = s.slabs.length := by have := slabVal_len v5; rwa [List.length_map] at this
  obtain ⟨dd0, rfl, r0⟩ := row_own hsv (by omega)
  obtain ⟨dd2, rfl, r2⟩ := row_own hlv (by omega)
  obtain ⟨ds1, sb1, l1, k1⟩ := slots_own hso v1
  obtain ⟨ds2, sb2, l2, k2⟩ := ls_own hsh1 v2
  obtain ⟨ds3, sb3, k3⟩ := slabs_own hlo v5
  refine ⟨_, [dd0] ++ (ds1 ++ (ds2 ++ ([dd2] ++ ds3))), [(bw, .cells cur 23)], rfl, ?_, rfl, ?_, fun ρ' hk hd => ?_⟩
  · refine hO2.sub ?_
    exact ((List.Sublist.refl _).append (sb1.append (sb2.append ((List.Sublist.refl _).append sb3)))).append (List.Sublist.refl _)
  · -- lengths
    have hsl : ∀ (t : List (Bool × Bool)) (q : Nat), (slotTB t q).length = slotCn t := by
      intro t
      induction t with
      | nil => intro q; rfl
      | cons p t ih =>
        intro q
        obtain ⟨e1, e2⟩ := p
        simp only [slotTB, slotCn, List.length_append, ih]
        cases e1 <;> cases e2 <;> simp [lsTB, cn] <;> omega
    have hls : ∀ (e : Bool) (q : Nat), (lsTB e q).length = cn e := fun e q => by cases e <;> rfl
    have h3 : (slabTB s.slabs (b + 2 * s.n + 1)).length = ds3.length := by
      have hn : ∀ (ρ : Ren) {a : List TB} {x : List (Nat × Obj)}, AllTR ρ a x → a.length = x.length := by
        intro ρ a
        induction a with
        | nil => intro x h; cases x with
          | nil => rfl
          | cons _ _ => exact h.elim
        | cons t a ih => intro x h; cases x with
          | nil => exact h.elim
          | cons d x => simp [ih h.2]
      have hsb : ∀ (t : List Bool) (q q' : Nat), (slabTB t q).length = (slabTB t q').length := by
        intro t
        induction t with
        | nil => intro q q'; rfl
        | cons e t ih =>
          intro q q'
          simp only [slabTB, List.length_append, hls]
          rw [ih (q + 1) (q' + 1)]
      obtain ⟨_, t3, _⟩ := k3 (fun n => (ds3[n]?).map fun d => (d.1, objSize d.2)) 0 (fun i d hi => by simp [hi])
      rw [← hn _ t3]
      exact hsb _ _ _
    have h3' : (slabTB s.slabs (q + 2 * s.n + 1)).length = (slabTB s.slabs (b + 2 * s.n + 1)).length := by
      have hsb : ∀ (t : List Bool) (q q' : Nat), (slabTB t q).length = (slabTB t q').length := by
        intro t
        induction t with
        | nil => intro q q'; rfl
        | cons e t ih =>
          intro q q'
          simp only [slabTB, List.length_append, hls]
          rw [ih (q + 1) (q' + 1)]
      exact hsb _ _ _
    simp only [kcSee, seeNews, List.length_append, List.length_cons, List.length_nil, hsl, hls, l1, l2, h3', h3]
    omega
  · have hN : NamedAt ρ' rel ([dd0] ++ (ds1 ++ (ds2 ++ ([dd2] ++ ds3)))) := hd
    have a0 : ρ' rel = some (dd0.1, objSize dd0.2) := hN 0 _ rfl
    have h1 := hN.right
    have h2 := h1.right
    have h3 := h2.right
    have h4 := h3.right
    simp only [List.length_cons, List.length_nil, Nat.zero_add, l1, l2] at h1 h2 h3 h4
    obtain ⟨x1, x2, x3⟩ := k1 ρ' (rel + 1) h1.left
    obtain ⟨x4, x5⟩ := k2 ρ' (rel + 1 + slotCn s.slots) (q + 2 * s.n) h2.left v3
    have a2 : ρ' (rel + 1 + slotCn s.slots + cn s.shelf) = some (dd2.1, objSize dd2.2) := by
      have := h3.left 0 _ rfl
      rwa [Nat.add_zero] at this
    obtain ⟨x6, x7, x8⟩ := k3 ρ' (rel + 1 + slotCn s.slots + cn s.shelf + 1) h4
    obtain ⟨y1, y2⟩ := r0 ρ' rel _ a0 x1 x3
    obtain ⟨y3, y4⟩ := r2 ρ' (rel + 1 + slotCn s.slots + cn s.shelf) _ a2 x6 x8
    rw [n1] at y1
    rw [n2] at y3
    refine ⟨?_, fun i t d hi hd2 => ?_, fun p hp => by cases hp⟩
    · show VR ρ' (seeRes s b q) _
      unfold seeRes VR
      refine ⟨_, rfl, VRs.cons ?_ (VRs.cons (by unfold VR; rfl) VRs.nil)⟩
      unfold VR
      refine ⟨_, rfl, VRs.cons y1 (VRs.cons x4 (VRs.cons ?_ (VRs.cons y3 VRs.nil)))⟩
      unfold VR
      simp only [Cnd.ev, SE.ev, v4]
      cases (Nums.σ (b + 2 * s.n) == 0) <;> rfl
    · have hall : AllTR ρ' (seeNews s b q) ([dd0] ++ (ds1 ++ (ds2 ++ ([dd2] ++ ds3)))) := by
        unfold seeNews
        have h7 : AllTR ρ' (.cells (slabAV s.slabs (b + 2 * s.n + 1) (q + 2 * s.n + 1) (rel + 1 + slotCn s.slots + cn s.shelf + 1)) 129 :: slabTB s.slabs (q + 2 * s.n + 1)) (dd2 :: ds3) := ⟨y4, x7⟩
        exact ⟨y2, AllTR.append (x := ds1) (y := ds2 ++ (dd2 :: ds3)) x2 (AllTR.append x5 h7)⟩
      exact hall.get i t d hi hd2
theorem kc_words {i n0 n1 N : Nat} (hn0 : n0 < rel) (hn1 : n1 < rel) (hN : g.length = N) (hpos : 0 < N) (hN2 : N ≤ 4096) (hgv : LsVal Nums.σ qW (g.map fun (x : Nat) => (x : Int)))
    (h0 : ∀ b0 b1 o, Nums.Ω i b0 b1 o → ∃ k, (b0, o) = mB b0 b1 N k) (h1 : ∀ b0 b1 o, Nums.Ω (i + 1) b0 b1 o → (b1, o) = wB b1 g) : KcOk Tryz.prog (kcWords n0 n1 i qW) := by
  refine kc_own fn_words (by intro p hp; simp only [kcWords, List.mem_cons, List.not_mem_nil, or_false] at hp; exact hp.elim (fun h => h ▸ ⟨_, List.mem_cons_self⟩) (fun h => h ▸ ⟨_, List.mem_cons_of_mem _ List.mem_cons_self⟩))
    (by intro p hp; simp only [kcWords, List.mem_cons, List.not_mem_nil, or_false] at hp; rcases hp with rfl | rfl <;> assumption) fun hcs ρ W w m args' bs hF ha hO => ?_
  obtain ⟨b0, o0, s0, r, rfl, p0, t0, b1, o1, s1, r1, rfl, p1, t1, rfl⟩ := hF
  have w0 := opb_inv t0 p0 p1
  have w1 := opb_inv t1 p0 p1
  obtain ⟨y, hy, hp⟩ := ha.one
  obtain ⟨c0, z0, q0, rfl⟩ := hp.ptr_inv
  rw [p0] at q0
  cases q0
  have hargs2 : args' = #[.pointer (some ⟨b0, 0, none⟩)] := by apply Array.ext'; rw [hy]
  subst hargs2
  obtain ⟨k, e0⟩ := h0 _ _ _ w0
  have e1 := h1 _ _ _ w1
  have hO2 : Own W (mB b0 b1 N k :: wB b1 g :: m) w := by rw [← e0, ← e1]; exact hO
  refine (words_spec hO2 hN hN2).mono ?_
  rintro e w' ⟨v', bs', rfl, hv, h'⟩
  obtain ⟨gg, cap, cur, rfl, rfl, c1, c2, ⟨c3, c4⟩, c5⟩ := SlO.form hv (by omega)
  have c4 := c4 rfl
  rw [← e0, ← e1] at h'
  refine ⟨_, [(gg, .cells cur 23)], [(b0, o0), (b1, o1)], rfl, h', rfl, rfl, fun ρ' hk hd => ?_⟩
  have d0 : ρ' rel = some (gg, cur.size) := hd 0 _ rfl
  refine ⟨?_, fun j t d hj hd2 => ?_, fun p hp => ?_⟩
  · show VR ρ' (.dsl rel (.len (.lvar qW)) 1) _
    unfold VR
    refine ⟨gg, cur.size, _, cap, d0, rfl, c1, c2, c4.symm, ?_⟩
    simp only [SE.ev, SE.evN, hgv.1, List.length_map]
  · match j with
    | 0 =>
      simp only [kcWords, List.getElem?_cons_zero, Option.some.injEq] at hj hd2
      subst hj; subst hd2
      refine ⟨cur, rfl, rfl, ?_, fun r j' k' hr hk' => ?_⟩
      · simp only [SE.evN, hgv.1, List.length_map, List.length_cons, List.length_nil, Nat.zero_add, Nat.mul_one]
        show g.length ≤ cur.size
        omega
      · simp only [SE.evN, hgv.1, List.length_map] at hr
        have hj0 : j' = 0 := by
          have := (List.getElem?_eq_some_iff.1 hk').1
          simp only [List.length_cons, List.length_nil] at this
          omega
        subst hj0
        simp only [List.getElem?_cons_zero, Option.some.injEq] at hk'
        subst hk'
        simp only [List.length_cons, List.length_nil, Nat.zero_add, Nat.mul_one, Nat.add_zero, SE.evA]
        rw [hgv.2 r (g[r] : Int) (by simp [List.getElem?_eq_getElem hr])]
        have h6 : (cur.toList.take (g.length * 1))[r]? = (words g)[r]? := by rw [c5]
        rw [List.getElem?_take, if_pos (by omega), words_get (List.getElem?_eq_getElem hr)] at h6
        rw [← Array.getElem?_toList, h6]
        rfl
    | j + 1 => simp [kcWords] at hj
  · simp only [kcWords, List.mem_cons, List.not_mem_nil, or_false] at hp
    have q0 := hk _ _ hn0 p0
    have q1 := hk _ _ hn1 p1
    rcases hp with rfl | rfl
    · exact ⟨b0, o0, s0, by simp, p0, opb_mk q0 q1 w0⟩
    · exact ⟨b1, o1, s1, by simp, p1, opb_mk q0 q1 w1⟩
end
end Go.Proofs.YtllbnoojkgbjiaaGreat.Ex
